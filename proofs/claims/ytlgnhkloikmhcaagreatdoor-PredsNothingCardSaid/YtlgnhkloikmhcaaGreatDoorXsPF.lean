/- A part of the proof: the layers and contracts it rests on. -/
import Derived.Test.YtlgnhkloikmhcaaGreatDoorXsPB
import Derived.Test.YtlgnhkloikmhcaaGreatDoorXsPC
import Derived.Test.YtlgnhkloikmhcaaGreatDoorXsPD
import Derived.Test.YtlgnhkloikmhcaaGreatDoorXsPE
import Derived.Test.YtlgnhkloikmhcaaGreatDoorXsPG
import Derived.Test.YtlgnhkloikmhcaaGreatDoorXsPH
import Derived.Test.YtlgnhkloikmhcaaGreatDoorXsPK
import Derived.Lib.Join
import Derived.WalkKit
import Derived.ProofKit
import Derived.OpenShut
import Derived.ChangeOld
set_option maxRecDepth 100000
set_option maxHeartbeats 4000000
set_option linter.all false
set_option linter.deprecated false
namespace Go.Xs
open List Nat Option
variable{S:HS}{nx:Nat}
noncomputable section
open Go.Proofs
def fI (f:Nat->aR->List aB) (ask:Int->Bool):Nat->List aR->List aB
 | _,[]=>[]
 | j,r::l=>(if ask j=true then f j r else [])++fI f ask (j+1) l
def Gd (S:HS) (R:Int->List bO) (r:aR) (num:Int) (k:my):List aB:=Rh (gZ (fP S r.p k.x) k.t (R k.x)) k num
def nl (S:HS) (Y:List Int) (R:Int->List bO) (j:Nat) (r:aR):List aB :=
 if r.kind=5/\(txR S r.t).1.s=1 then (Y.map (iH (fD S j) j r.t)).flatMap (Gd S R r (txR S r.t).1.n) else []
theorem PP {R:Int->List bO} {r:aR} {num:Int} {k:my} (h:(R k.x).length<=1000):(Gd S R r num k).length<=2002:=by
 have je:=(o7 (fP S r.p k.x) k.t (R k.x)).2;have JW:=zG (gZ (fP S r.p k.x) k.t (R k.x)) k.w k.n;have NW:=C0 (gZ (fP S r.p k.x) k.t (R k.x)) k.w k.n;unfold Gd Rh;rw[length_append,length_map,length_map];omega
theorem zP {ops:List Oper} {x:Nat×List Nat×List Nat} {i:Nat} {e:bZ} {log:jg} (h1:zd ops x (i,e.rd,bM e.upd)) (h2:tL ops x log):tL ops x (dM i e log):=by
 unfold dM;split
 ·exact h2
 ·rw[Cx]
  exact⟨h1,h2⟩
theorem DQ {α:Type} {enc:α->List XV} {l:List α} {x:Nat} (h:x ∈ bM (mi nx enc l)):x=nx:=by
 unfold mi at h;split at h
 ·cases h
 ·simpa [bM] using h
theorem U8 (ρ:aK) (M:Hp) (nx h:Nat) (j:Int) {k t x w n v pk pa pb:Int} {pv ve:XV} (p1:cellsOf pv=[pv]/\ax pv=true) (q1:cellsOf ve=[ve]/\ax ve=true) :
 ar am ρ 69 [.mp h 0,.int .i64 j,.agg [.int .i64 k,.int .u64 t,.int .u64 x,.int .u64 w,.int .u64 n,.int .u64 v,.int .i64 pk,.int .u64 pa,.int .u64 pb,pv,ve]] M nx fun r=>r.1 = .fn (.func 116) [] [.mp nx 0,.mp (nx+2) 0,.mp (nx+1) 0]/\nx+3<=r.2.2 /\
  gG r.2.1 nx=some (.row [.mp h 0])/\gG r.2.1 (nx+1)=some (.row [.int .i64 j])/\gG r.2.1 (nx+2)=some (.row [.int .i64 k,.int .u64 t,.int .u64 x,.int .u64 w,.int .u64 n,.int .u64 v,.int .i64 pk,.int .u64 pa,.int .u64 pb,pv,ve])/\aq nx M r.2.1:=by
 refine ar.wk 8 [.tmp 6] Tryz.func69 ?_;refine mY kE p1.1 p1.2 q1.1 q1.2 ?_;exact⟨Z,O⟩
theorem Yu (hS:kL) (hN:kJ) (hI:Ci) (hE:nQ) (ρ:aK) (j9:ρ.det=false) {M:Hp} {lo hi h:Nat} {L:List aR} (H:bX M lo hi h S) (hh:hi<=nx) (hn:S.nrec=L.length) (hR:∀j r,L[j]?=some r->cU M nx r ((S.crec.drop (j*11)).take 11))
 (hl:L.length<=100000) (ip:∀r ∈ L,dV r.p<=100000/\r.es.length<=100000) (MD:S.looks.length<=100000) (few:∀l:List Int,l.Nodup->(∀x ∈ l,(S.obj x).isSome=true)->l.length<=4000)
 (U0:By S) (Tu:nN S) (fewm:S.mods.length<=1000) (hp:∀r ∈ L,r.kind=5->dV r.p<=1000/\gI r.p) (ZR:∀x,∀i ∈ dk S S.mods x,1<=i.n)
 {R:Int->List bO} (hRow:∀x (l:List bO),l.Perm (dk S S.mods x)->l.Pairwise (fun a b=>a.wr<=b.wr)->l=R x) (hRl:∀x,(R x).length<=1000) {Y:List Int} (hY:∀ys,D3 S ys->ys=Y)
 (ask:Int->Bool) {g:Nat} {first caps:List XV} (hq:∀j:Nat,j<L.length->∀(M':Hp) (n':Nat),aq nx M M'->nx<=n'->ar am ρ g (first++[.int .i64 j]++caps) M' n' (fe n' M' (.bool (ask j))))
 (ay:(fI (nl S Y R) ask 0 L).length<=1000) :
 ar am ρ 31 [.mp h 0,.fn (.func g) first caps] M nx fun o=>∃l:List aB,l.Perm (fI (nl S Y R) ask 0 L)/\l.Pairwise (fun a b=>Ir b a=false)/\Ct nx M 9 aG l o:=by
 refine ar.closed fun Za hka0=>?_
 refine ar.walkR (m:=34) (rs:=[.cell 4 29]) follows j9 Tryz.func31 U rfl rfl rfl ?_
 conv in qD _ _ _ _ _ _ _=>arg 5;whnf
 refine po ?_;refine mI Xp @iX ?_;refine CY ?_;refine po ?_;refine mI Xp @iX ?_;generalize xu:ap (ap M nx _) (nx+1) _=M1;have a1:aq nx M M1:=by rw[<-xu];exact O
 have z0:gG M1 nx=some (.row [.mp h 0]):=by rw[<-xu];exact J
 have z1:gG M1 (nx+1)=some (.row [.nils]):=by rw[<-xu];exact J
 have Bi:∀k o,gG M1 k=some o->k<nx+3:=fun k o hk=>by
  rw[<-xu,ao]at hk;split at hk
  ·omega
  ·rw[ao]at hk
   split at hk
   ·omega
   ·have:=(Za k o hk).1;omega
 clear xu;have oy:Pi (vO M1 (nx+1)) M1:=fun k y hk=>by
  rw[cV]at hk;split at hk
  ·cases hk
  ·exact hk
 have aN:aq nx M (vO M1 (nx+1)):=fun k hk=>by rw[cV,if_neg Z];exact a1 k hk
 refine gQ (ar.frame oy (yW ρ (H.agr (aN.le hh)) Z hn (fun j r hr=>((hR j r hr).agr aN).wk Z) hl ip)) ?_;rintro⟨u,M2,n2⟩ ⟨N3,⟨gS,q2,q3⟩,YG⟩;simp only at gS q2 q3 YG;obtain⟨WY,xk⟩:=YG.agr oy q2 Bi;have sy:gG N3 (nx+1)=none:=by rw[q2 (nx+1) Z,cV,if_pos rfl]
 have z0:=(WY nx Z).trans z0;have z1:=(WY (nx+1) Z).trans z1;have a2:aq nx M M2:=a1.trans (WY.le Z);obtain⟨Qu,Tq,Wd⟩:=gS;have RL:∀N,(∀q,q<n2->q≠nx+1->gG N q=gG M2 q)->bE N n2 u 11 L.length Qu/\∀i r,L[i]?=some r->cU N n2 r ((Qu.drop (i*11)).take 11):=fun N hN=>by
  have vh:Kp n2 N3 N:=fun k x hk hx=>by
   have cf:k≠nx+1:=fun e=>by rw[e,sy]at hx;cases hx
   rw[hN k hk cf];exact xk k x hx
  exact⟨Tq.kp vh,fun i r hi=>(Wd i r hi).kp vh⟩
 have Wf:=fun N=>Tq.len (P:=am) (t:=22) jp.2.2.2.2.2 N
 clear oy q2 YG sy xk Tq Wd a1 aN Bi WY;refine Ao Xp @iX Wf ?_;refine Cm ?_;refine Hn (fun m s=>∃(i:Nat) (acc:List aB) (vv:XV),i<=L.length/\m=L.length - i/\acc++fI (nl S Y R) ask i (L.drop i)=fI (nl S Y R) ask 0 L/\(acc=[]->vv = .nils) /\
  gG s.env 1=some (.fn (.func g) first caps)/\gG s.env 2=some (.mp nx 0)/\gG s.env 4=some (.mp (nx+1) 0)/\gG s.env 9=some u/\gG s.env 10=some (.int .i64 L.length)/\gG s.env 11=some (.int .i64 i) /\
  gG s.M (nx+1)=some (.row [vv])/\di s.M n2 s.nx vv 9 aG acc/\(∀q,q<n2->q≠nx+1->gG s.M q=gG M2 q)/\n2<=s.nx) L.length ⟨0,[],.nils,Z,Z,aa,fun _=>rfl,?_⟩ ?_
 ·refine bR Xp ?_
  exact⟨z1,dG.nil _ _,fun _ _ _=>trivial,Z⟩
 ·rintro m ⟨env,M',aF⟩ ⟨i,acc,vv,hi',hm,Jp,Xb,e1,e2,e4,e9,dx,kW,hz,hv,hk,F7⟩
  simp only at e1 e2 e4 e9 dx kW hz hv hk F7;refine po ?_;by_cases aL:(i:Int)<(L.length:Int)
  ·have aP:i<L.length:=Z
   obtain⟨r,hr⟩:∃r,L[i]?=some r:=⟨L[i],by simp[aP]⟩;have bV:=eF i;have zp:L.drop i=r::L.drop (i+1):=by rw[drop_eq_getElem_cons aP];congr 1;exact(List.getElem?_eq_some_iff.1 hr).2
   rw[zp]at Jp;simp only[fI]at Jp;obtain⟨cw,fF⟩:=RL M' hk;obtain⟨pk,pa,pb,pv,ve,dI,p1,q1,_⟩:=(fF i r hr).cells;obtain⟨n,o,jw,bC,aU⟩:=cw.elem (P:=am) aP (t:=22) (t':=47) jp.2.2.2.1 iq.1;have aU:=aU M' (aq.refl _ _);rw[dI]at aU;have yK:∀N,(∀q,q<n2->q≠nx+1->gG N q=gG M2 q)->bG N n2 r.p [.int .i64 pk,.int .u64 pa,.int .u64 pb,pv]:=fun N hN=>by
    have:=(RL N hN).2 i r hr;rw[dI]at this;obtain⟨_,_,_,_,_,e,_,_,_,h⟩:=this.cells;simp only[List.cons.injEq,XV.int.injEq,true_and,and_true]at e;obtain⟨rfl,rfl,rfl,rfl,rfl⟩:=e;exact h
   clear cw fF;refine mY Xp @iX dx kW aL ?_;refine po ?_;refine mI Xp @iX ?_;refine CY ?_;refine Cm ?_;refine po ?_;refine dp Xp @iX e9 kW bC aU p1.1 p1.2 q1.1 q1.2 ?_;refine po ?_;refine Ao Xp @iX e1 ?_;generalize oM:ap (ap M' (aF+4) _) (aF+4) _=M3;have a3:aq aF M' M3:=by rw[<-oM];exact O
   have z6:gG M3 (aF+4)=some (.row [.int .i64 r.kind,.int .u64 r.t,.int .u64 r.x,.int .u64 r.w,.int .u64 r.n,.int .u64 r.v,.int .i64 pk,.int .u64 pa,.int .u64 pb,pv,ve]):=by rw[<-oM];exact J
   clear oM;refine gQ (hq i aP M3 _ (fun q hq=>by rw[a3 q Z,hk q Z Z];exact a2 q hq) Z) ?_;rintro⟨u4,M4,n4⟩ ⟨g1,g2,g3⟩;simp only at g1 g2 g3;subst g1;have z6:=(g2 (aF+4) Z).trans z6;have a4:aq aF M' M4:=a3.trans (g2.le Z);clear a3 g2 bC aU dI;by_cases Nq:ask i=true
   ·have t2:=(hk nx Z Z).trans z0
    have t2:=(a4 nx Z).trans t2;refine Ao Xp @iX Nq ?_;refine po ?_;refine CU Xp @iX e2 t2 z6 p1.1 p1.2 q1.1 q1.2 ?_;refine gQ (U8 ρ M4 _ h i p1 q1) ?_;rintro⟨u5,M5,n5⟩ ⟨g4,g5,g6,g7,g8,g9⟩;simp only at g4 g5 g6 g7 g8 g9;subst g4;refine mI Xp @iX ?_;generalize zi:ap _ 23 _=E;have t1:gG E 1=some (.fn (.func g) first caps):=by rw[<-zi];exact J
    have t2':gG E 2=some (.mp nx 0):=by rw[<-zi];exact J
    have t4:gG E 4=some (.mp (nx+1) 0):=by rw[<-zi];exact J
    have t9:gG E 9=some u:=by rw[<-zi];exact J
    have QA:gG E 10=some (.int .i64 L.length):=by rw[<-zi];exact J
    have t11:gG E 11=some (.int .i64 i):=by rw[<-zi];exact J
    have V8:cG E (.tmp 23) = .fn (.func 116) [] [.mp (n4+4) 0,.mp (n4+6) 0,.mp (n4+5) 0]:=by
     have:gG E 23=some (.fn (.func 116) [] [.mp (n4+4) 0,.mp (n4+6) 0,.mp (n4+5) 0]):=by rw[<-zi];exact J
     simp only[cG,this]
    clear zi e1 e2 e4 e9 dx kW;have t2:=(g9 nx Z).trans t2;have a5:aq aF M' M5:=a4.trans (g9.le Z);have hz5:=(a5 (nx+1) Z).trans hz;have JA:∀q,q<n2->q≠nx+1->gG M5 q=gG M2 q:=fun q h1 h2=>(a5 q Z).trans (hk q h1 h2)
    have hv5:=hv.up (N:=M5) (fun q _ hq=>a5 q hq) (Nat.le_refl _);clear a5 a4 g9 z6 hz hv hk;refine Cm ?_;refine⟨116,[.mp (n4+4) 0,.mp (n4+6) 0,.mp (n4+5) 0],fun M' n'=>∃(iY:List aB) (vv:XV),iY=acc++nl S Y R i r/\(iY=[]->vv = .nils)/\gG M' (nx+1)=some (.row [vv])/\di M' n2 n' vv 9 aG iY/\(∀q,q<n2->q≠nx+1->gG M' q=gG M2 q)/\n5<=n',V8,?_,?_⟩
    ·generalize hYW:xB am ρ 34 _ _ _ _=YW
     refine OQ.walk follows (m:=42) Tryz.func116 U rfl rfl rfl ?_
     conv in qD _ _ _ _ _ _ _=>arg 5;whnf
     refine po ?_;refine CU Bj @iX g6 g7 g8 p1.1 p1.2 q1.1 q1.2 ?_;have aM5:aq nx M M5:=fun q hq=>by rw[JA q Z Z];exact a2 q hq
     refine lG (mA ρ (H.agr (aM5.le hh)) Z U0 r.t) fun M6 n6 VV g12=>?_
     obtain⟨AT,W6⟩:∃A,A=nl S Y R i r:=⟨_,rfl⟩;rw[<-W6];have qL:∀num,num=(txR S r.t).1.n->r.kind=5/\(txR S r.t).1.s=1->AT=(Y.map (iH (fD S i) i r.t)).flatMap (Gd S R r num):=fun num e h=>by rw[W6,nl,if_pos h,e]
     have Qq:¬ (r.kind=5/\(txR S r.t).1.s=1)->AT=[]:=fun h=>by rw[W6,nl,if_neg h]
     generalize (txR S r.t).2=tb;obtain⟨⟨xt,xb,xe,xs,xn⟩,hx⟩:∃a,a=(txR S r.t).1:=⟨_,rfl⟩;rw[<-hx]at qL Qq ⊢;clear hx;simp only[d_]at qL Qq ⊢;refine mI Bj @iX ?_;generalize hM7:ap (ap M6 _ _) _ _=M7;have a7:aq n6 M6 M7:=by rw[<-hM7];exact O
     have z7:gG M7 (n6+3)=some (.row [.int .u64 xt,.int .i64 xb,.int .i64 xe,.int .i64 xs,.int .i64 xn]):=by rw[<-hM7];exact J
     clear hM7;have P9:aq n5 M5 M7:=(VV.le Z).trans (a7.le Z);have g6:=(P9 (n4+4) Z).trans g6;have g7:=(P9 (n4+5) Z).trans g7;have g8:=(P9 (n4+6) Z).trans g8;have aM7:aq nx M M7:=aM5.trans (P9.le Z);by_cases Xk:r.kind=5/\xs=1
     ·obtain⟨Gm,rfl⟩:=Xk
      refine po ?_;refine dw Bj @iX g6 g7 g8 z7 p1.1 p1.2 q1.1 q1.2 Gm ?_;refine po ?_;refine iC Bj @iX g6 g7 g8 z7 ?_;refine gQ (nZ hS hN ρ j9 (H.agr (aM7.le hh)) Z hn (fun j r hr=>((hR j r hr).agr aM7).wk Z) hl ip MD few hr Gm).out ?_;rintro⟨u8,M8,n8⟩ ⟨⟨ys,Oi,JJ,g9,RG⟩,V_,_⟩;simp only at JJ g9 RG V_;obtain rfl:=hY ys Oi;have qL:=qL xn rfl ⟨Gm,rfl⟩;have VX:(ys.map (iH (fD S i) i r.t)).length<=4000:=by rw[length_map];exact few ys (Oi.1.imp fun h=>Z) fun x hx=>(Oi.2 x).1 hx
      clear Qq Oi;have g6:=(g9 (n4+4) Z).trans g6;have g7:=(g9 (n4+5) Z).trans g7;have g8:=(g9 (n4+6) Z).trans g8;have z7:=(g9 (n6+3) Z).trans z7;have TJ:aq n5 M5 M8:=P9.trans (g9.le Z);have aM8:aq nx M M8:=aM5.trans (TJ.le Z);clear g9 P9 aM7 a7 VV;generalize ys.map (iH (fD S i) i r.t)=Q at qL JJ VX ⊢;have We:=fun N=>(JJ.at (Nat.le_refl n8)).len (P:=am) (t:=48) jM.2.2.2.2.2 N
      refine Ao Bj @iX We ?_;rw[if_pos Nq,<-W6]at Jp;have dy:(acc++AT).length<=1000:=by
       have:=congrArg List.length Jp;simp only[length_append]at this ⊢;omega
      refine Cm ?_;refine Hn (fun m s=>∃(i2:Nat) (iY:List aB) (vv:XV),i2<=Q.length/\m=Q.length - i2/\iY=acc++(Q.take i2).flatMap (Gd S R r xn)/\(iY=[]->vv = .nils) /\
       gG s.env 0=some (.yd n5)/\gG s.env 1=some (.mp (n4+4) 0)/\gG s.env 2=some (.mp (n4+6) 0)/\gG s.env 3=some (.mp (n4+5) 0)/\gG s.env 5=some (.mp (n6+3) 0)/\gG s.env 26=some u8/\gG s.env 27=some (.int .i64 Q.length)/\gG s.env 28=some (.int .i64 i2) /\
       gG s.M (nx+1)=some (.row [vv])/\gY s.M (fun q=>(n2<=q/\q<aF)\/(n8<=q/\q<s.nx)) vv 9 aG iY/\(∀q,q<n8->q≠nx+1->¬ (n2<=q/\q<aF)->gG s.M q=gG M8 q)/\Cl s.nx s.M/\n8<=s.nx) Q.length ⟨0,acc,vv,Z,Z,aa,Xb,?_⟩ ?_
      ·refine bR Bj ?_
       exact⟨(TJ _ Z).trans hz5,gY.keep hv5.lp fun q hq=>⟨TJ q Z,.inl hq⟩,fun _ _ _ _=>trivial,V_.le Z,Z⟩
      ·rintro m2 ⟨env2,M9,ol⟩ ⟨i2,iY,vv2,bD,JE,T9,V6,e0,e1,e2,e3,e5,e26,W5,NG,hz9,Xx,SV,Wa,hnn9⟩
       simp only at e0 e1 e2 e3 e5 e26 W5 NG hz9 Xx SV Wa hnn9;refine po ?_;by_cases F1:(i2:Int)<(Q.length:Int)
       ·have RB:i2<Q.length:=Z
        obtain⟨kl,kA⟩:∃k,Q[i2]?=some k:=⟨Q[i2],by simp[RB]⟩;have F_:=eF i2;obtain⟨n,o,jw,bC,aU⟩:=((JJ.up (N:=M9) (fun q h1 h2=>SV q h2 Z Z) (Nat.le_refl _)).at (Nat.le_refl n8)).elem (P:=am) RB (t:=48) (t':=51) jM.2.2.2.1 mD.1;have aU:=aU M9 (aq.refl _ _);rw[eT (f:=cX) (fun _=>rfl) kA]at aU;have kB:(Q.take (i2+1)).flatMap (Gd S R r xn)=(Q.take i2).flatMap (Gd S R r xn)++Gd S R r xn kl:=by rw[take_add_one,kA,flatMap_append];simp
        obtain⟨kk,sT⟩:∃kk,kk=kl:=⟨_,rfl⟩;rw[<-sT]at kB;obtain⟨l1,l2,l3,l4,l5,l6,l7,l8⟩:=kl;simp only[cX]at aU;refine mY Bj @iX W5 NG F1 ?_;refine po ?_;refine mI Bj @iX ?_;refine CY ?_;refine Cm ?_;refine po ?_;refine iC Bj @iX e26 NG bC aU ?_;generalize C1:ap (ap M9 _ _) _ _=M10;have Jg:aq ol M9 M10:=by rw[<-C1];exact O
        have Da:gG M10 (ol+3)=some (.row [.int .i64 l1,.int .i64 l2,.int .u64 l3,.int .u64 l4,.int .u64 l5,.int .u64 l6,.bool l7,.bool l8]):=by rw[<-C1];exact J
        have Nr:Cl (ol+4) M10:=by rw[<-C1];exact((Wa.le Z).set Z rfl).set Z rfl
        clear C1 bC aU;have c6:=(Jg (n4+4) Z).trans ((SV (n4+4) Z Z Z).trans g6);have c8:=(Jg (n4+6) Z).trans ((SV (n4+6) Z Z Z).trans g8);have c7:=(Jg (n6+3) Z).trans ((SV (n6+3) Z Z Z).trans z7);have ck:=(Jg nx Z).trans ((SV nx Z Z Z).trans ((TJ nx Z).trans t2));generalize zi:ap _ 8 _=E2;have f0:gG E2 0=some (.yd n5):=by rw[<-zi];exact J
        have f1:gG E2 1=some (.mp (n4+4) 0):=by rw[<-zi];exact J
        have f2:gG E2 2=some (.mp (n4+6) 0):=by rw[<-zi];exact J
        have f3:gG E2 3=some (.mp (n4+5) 0):=by rw[<-zi];exact J
        have f5:gG E2 5=some (.mp (n6+3) 0):=by rw[<-zi];exact J
        have f8:gG E2 8=some (.mp (ol+3) 0):=by rw[<-zi];exact J
        have Ys:gG E2 26=some u8:=by rw[<-zi];exact J
        have Sk:gG E2 27=some (.int .i64 Q.length):=by rw[<-zi];exact J
        have SS:gG E2 28=some (.int .i64 i2):=by rw[<-zi];exact J
        clear zi e0 e1 e2 e3 e5 e26 W5 NG;refine CY ?_;refine Pw (hZ [_,_,_,_,_,_,_] _ ?_);refine ii Bj f0 f2 @f5 @f8 Da c8 c7 p1.1 p1.2 q1.1 q1.2 ?_;refine FD (args:=[.agg [.int .i64 l1,.int .i64 l2,.int .u64 l3,.int .u64 l4,.int .u64 l5,.int .u64 l6,.bool l7,.bool l8,.int .i64 pk,.int .u64 pa,.int .u64 pb,pv,.int .i64 xn]]) (by simp only[EU];(refine mI Bj f0 ?_;try exact⟨⟩)) ?_;refine Eq.mp (congrFun (congrFun (congrFun (congrFun hYW _) _) _) _) (EA rfl ?_);have WA:=(Jg (nx+1) Z).trans hz9;have Zf:=Xx.cell;have hpv:aO (ol+4) pv=true:=by
         have:=(Nr _ _ c8).2;simp only[cp,aE,aO]at this;split at this
         ·assumption
         ·cases this
        have hkh:h<ol+4:=by
         have:=(Nr _ _ ck).2;simp only[cp,aE,aO]at this;split at this
         ·rename_i e
          rwa [blt_eq]at e
         ·cases this
        refine CU Xp p1.1 p1.2 t2' t4 ck WA Zf.1 Zf.2 ?_;generalize SR:ap (ap M10 (ol+12) _) (ol+12) _=M11;have WV:aq (ol+5) M10 M11:=by rw[<-SR];exact O
        have Rm:Cl (ol+13) M11:=by
         rw[<-SR];refine((Nr.le Z).set Z rfl).set Z ?_;simp only[cp,aE,aO,aO.le (show ol+4<=ol+13 by omega) hpv,Bool.and_self]
        clear SR;have Wm:∀q,q<n2->q≠nx+1->gG M11 q=gG M2 q:=fun q h1 h2=>by rw[WV q Z,Jg q Z,SV q Z h2 Z,TJ q Z];exact JA q h1 h2
        have aM11:aq nx M M11:=fun q hq=>by rw[Wm q Z Z];exact a2 q hq
        have JX:=hp r (mem_of_getElem? hr) Gm;have hb17:Nat.blt h (ol+17)=true:=by rw[blt_eq];omega
        have hp17:aO (ol+17) pv=true:=aO.le Z hpv;refine aT (bN.lst (l:=Gd S R r xn kk) (enc:=aG) (sz:=9) (fun _=>rfl) (Rm.le Z) (by simp only[aE,aO,hb17,hp17]) fun N hN=>?_) af ?_
        ·have:=f70 hI ρ j9 (M:=N) (nx:=ol+17) (H.agr (fun q hq=>by rw[hN q Z];exact aM11 q Z)) Z U0 Tu fewm (yK N fun q h1 h2=>by rw[hN q Z];exact Wm q h1 h2) Z JX.1 JX.2 kk xn (ZR kk.x) (hRow kk.x) (hRl kk.x)
         rw[sT]at this ⊢;exact this
        ·have hBl:(Gd S R r xn kk).length<=2002:=PP (hRl kk.x)
         have VF:=EE (M:=M11) (nx:=ol+17) (enc:=aG) (sz:=9) (l:=Gd S R r xn kk) (fun _=>rfl) Z;have Qw:=sY (M:=M11) (nx:=ol+17) (enc:=aG) (l:=Gd S R r xn kk);have Zs:=q8 (nx:=ol+17) (l:=Gd S R r xn kk);have V9:=LU (enc:=aG) (l:=Gd S R r xn kk) (fun _=>rfl) (Rm.le (show ol+13<=ol+17 by omega));have hv12:gY (bi M11 (mi (ol+17) aG (Gd S R r xn kk))) (fun q=>n2<=q/\q<aF\/n8<=q/\q<ol) vv2 9 aG iY:=gY.keep Xx fun q hq=>⟨by rw[Qw q Z,WV q Z,Jg q Z],hq⟩
         have hz12:=(Qw (nx+1) Z).trans ((WV (nx+1) Z).trans WA);obtain⟨rds,mr,F8⟩:=VF.el3;have fF:=F8 _ (fun _ _ _=>rfl);have hBlen:iY.length+(Gd S R r xn kk).length<=1000:=by
          have e1:Q.take (i2+1)++Q.drop (i2+1)=Q:=take_append_drop _ _;have e2:AT.length=(iY++Gd S R r xn kk).length - acc.length+((Q.drop (i2+1)).flatMap (Gd S R r xn)).length:=by
           rw[qL,<-e1,flatMap_append,kB,T9];simp only[length_append,take_append_drop];omega
          have e3:acc.length<=iY.length:=by rw[T9,length_append];omega
          simp only[length_append]at dy e2;omega
         obtain⟨v',rd,us,dX,Bb,vR,j_,NJ,S5⟩:=gY.app hv12 V6 (rds:=rds) (fun q hq hp=>by have:=mr q hq;omega) am 29 72 [.int .i64 0,.int .i64 0,.int .i64 0,.int .u64 0,.int .u64 0,.int .u64 0,.int .u64 0,.int .u64 0,.int .i64 0] (IQ (ol+17) 9 (Gd S R r xn kk)) (key:=ly (ol+17) (Gd S R r xn kk)) (B:=Gd S R r xn kk) Z Z rfl (by simp only[fE];omega) (lF _) (fun _=>rfl) (fun q hq=>Z);have NJ:=NJ (bi M11 (mi (ol+17) aG (Gd S R r xn kk))) (fun _ _=>rfl);have S5:=S5 (bi M11 (mi (ol+17) aG (Gd S R r xn kk))) (ly (ol+17) (Gd S R r xn kk)+1) Z (fun _=>rfl) (V9.le Z);have hz13:gG (bi (bi M11 (mi (ol+17) aG (Gd S R r xn kk))) us) (nx+1)=some (.row [vv2]):=(eE fun h=>by have:=j_ _ h;omega).trans hz12;have S2:=NJ.cell;refine iQ Xp fF dX hz13 S2.1 S2.2 t4 @aA ?_;refine⟨⟨zP (of_eq_true (H0 5 4 _ _ af)) ?_,DM ?_ ?_⟩,_,rfl,hZ [_] _ ?_⟩
         ·simp only[Cx,EP,and_true]
          exact⟨of_eq_true (H0 5 3 _ _ af),of_eq_true (H0 5 2 _ _ af),of_eq_true (H0 5 1 _ _ af),of_eq_true (H0 5 0 _ _ af)⟩
         ·simp only[Cx,EP,and_true]
          exact⟨of_eq_true (H0 4 3 _ _ af),of_eq_true (H0 4 2 _ _ af),of_eq_true (H0 4 1 _ _ af),of_eq_true (H0 4 0 _ _ af)⟩
         ·simp only[Fz,GQ,Cx,EP,and_true,KR]
          refine⟨of_eq_true (H0 3 2 _ _ af),of_eq_true (H0 3 1 _ _ af),bn _ _ _ _ _ _ (fun x hx hy=>?_) (fun x hx hy=>by cases hy) (fun x hx=>by cases hx)⟩;have:=DQ hx;simp only[mem_cons,not_mem_nil,or_false]at hy;omega
         refine mI Bj @iX ?_;refine Iy ?_;refine iC Bj @iX @Df @Nf @SS F_ ?_;refine Iy ?_;refine iC Bj @iX @Df @Nf @SS F_ ?_;refine⟨Q.length - (i2+1),Z,i2+1,iY++Gd S R r xn kk,v',Z,rfl,by rw[T9,kB,append_assoc],Bb,f0,f1,f2,f3,f5,Ys,Sk,rfl,?_,gY.keep NJ fun q hq=>⟨?_,Z⟩,fun q h1 h2 h3=>?_,?_,Z⟩
         ·exact J
         ·rw[ao,if_neg Z]
         ·rw[if_neg (show ¬ aw (nx+1) q from fun e=>h2 (Eq.symm e)),eE (fun h=>by have:=j_ _ h;omega),Qw q Z,WV q Z,Jg q Z]
          exact SV q h1 h2 h3
         ·refine(S5.le Z).set Z ?_
          have Us:=aO.le (show ly (ol+17) (Gd S R r xn kk)+1<=ly (ol+17) (Gd S R r xn kk)+5 by omega) (dG.klt NJ fun k hk=>Z);simp only[cp,aE,Us]
       ·refine mY Bj @iX W5 NG F1 ?_
        refine po ?_;refine mY Bj @Qc @LC @Tk @iX ?_;have hie2:i2=Q.length:=Z;rw[hie2,take_length,<-qL]at T9;exact⟨fun id h=>(by cases h),iY,vv2,T9,V6,hz9,gY.keep Xx fun q hq=>⟨rfl,Z⟩,fun q h1 h2=>by rw[SV q Z h2 Z,TJ q Z];exact JA q h1 h2,Z⟩
     ·have Q2:=Qq Xk
      have vW:∃iY vv,iY=acc++AT/\(iY=[]->vv=XV.nils)/\gG M7 (nx+1)=some (.row [vv])/\(∀n,n6<=n->di M7 n2 n vv 9 aG iY)/\(∀q,q<n2->q≠nx+1->gG M7 q=gG M2 q) :=
       ⟨acc,vv,by rw[Q2,append_nil],Xb,(P9 _ Z).trans hz5,fun n hn=>hv5.up (fun q _ hq=>P9 q Z) Z,fun q h1 h2=>(P9 q Z).trans (JA q h1 h2)⟩
      by_cases Gm:r.kind=5
      ·have R5:¬ xs=1:=fun e=>Xk ⟨Gm,e⟩
       refine po ?_;refine ii Bj @iX @MX g6 g7 g8 z7 p1.1 p1.2 q1.1 q1.2 (aI Gm R5) ?_;obtain⟨iY,vv,h1,h2,h3,h4,h5⟩:=vW;exact⟨fun id h=>(by cases h),iY,vv,h1,h2,h3,h4 _ Z,h5,Z⟩
      ·refine po ?_
       refine ii Bj @iX @MX g6 g7 g8 z7 p1.1 p1.2 q1.1 q1.2 Gm ?_;obtain⟨iY,vv,h1,h2,h3,h4,h5⟩:=vW;exact⟨fun id h=>(by cases h),iY,vv,h1,h2,h3,h4 _ Z,h5,Z⟩
    ·rintro M' n' ⟨iY,vv,q1,q2,q3,q4,q5,q6⟩
     show qD _ _ _ _ _ _ _;refine Iy ?_;refine CU Bj t11 bV @iX @Df @Nf @Qc @LC @Tk ?_;rw[if_pos Nq,<-append_assoc,<-q1]at Jp;exact⟨L.length - (i+1),Z,i+1,iY,vv,Z,rfl,Jp,q2,t1,t2',t4,t9,QA,rfl,q3,q4.up (fun q _ hq=>rfl) Z,q5,Z⟩
   ·refine Ao Xp @iX Nq ?_
    refine Iy ?_;refine CU Xp kW bV @iX @Df @Nf @Qc @LC @Tk ?_;rw[if_neg Nq,nil_append]at Jp;exact⟨L.length - (i+1),Z,i+1,acc,vv,Z,rfl,Jp,Xb,e1,e2,e4,e9,dx,rfl,(a4 (nx+1) Z).trans hz,hv.up (fun q _ hq=>a4 q hq) Z,fun q h1 h2=>(a4 q Z).trans (hk q h1 h2),Z⟩
  ·refine mY Xp @iX dx kW aL ?_
   refine po ?_;refine mY Xp @Qc @LC @Tk @iX ?_;have gB:i=L.length:=Z;rw[gB,drop_length]at Jp;simp only[fI,append_nil]at Jp;subst Jp;refine Iy ?_;refine Ao Xp e4 hz ?_;have Jo:aq nx M M':=fun q hq=>by rw[hk q Z Z];exact a2 q hq
   obtain⟨w1,w2,⟨rfl,w3⟩ | ⟨K,rfl,⟨w3,w4⟩,w5⟩⟩:=id hv
   ·refine lG (U1 ρ _ _ _) fun M6 n6 g5 g6=>?_
    have z7:=(g5 (nx+1) Z).trans hz;refine Ao Xp e4 z7 ?_;have h0:fI (nl S Y R) ask 0 L=[]:=length_eq_zero_iff.1 w3;refine⟨[],by rw[h0],.nil,fun _=>rfl,dG.nil _ _,aq.set (k:=nx+1) (Jo.trans (g5.le Z)) Z _,ak⟩
   ·have h0:0<(fI (nl S Y R) ask 0 L).length:=by
     cases hs:fI (nl S Y R) ask 0 L with
     | nil=>have:=Xb hs;cases this
     | cons a l=>simp
    refine gQ (hE ρ M' _ K _ ay h0 Z w5) ?_;rintro⟨u6,M6,n6⟩ ⟨g4,⟨l',g5,g6,g7⟩,g8,g9⟩;simp only at g4 g5 g6 g7 g8 g9;subst g4;have z7:=(g8 (nx+1) Z Z).trans hz;refine Ao Xp e4 z7 ?_;refine⟨l',g5,g6,fun Ut=>?_,⟨by rw[g5.length_eq];omega,by rw[gX (f:=aG) (sz:=9) (fun _=>rfl)],.inr ⟨K,by rw[g5.length_eq],⟨Z,ak⟩,J⟩⟩,fun q hq=>?_,ak⟩
    ·rw[Ut]at g5
     have:=g5.length_eq;simp at this;omega
    ·have:=(g8 q Z Z).trans (Jo q hq)
     exact J
end
end Go.Xs
namespace Go.Xs
open List Nat Option
variable{L:List aR}{M:Hp}{S:HS}{caps first:List XV}{g h nx:Nat}
noncomputable section
open Go.Proofs
theorem f53 (ρ:aK) {l:List aB} {lo:Nat} {v:XV} (hv:di M lo nx v 9 aG l) (mo:lo<=nx) (few:l.length<=100000) (q:aB->Bool)
 (hq:∀e ∈ l,∀(M':Hp) (aF:Nat),nW lo M M'->nx<=aF->ar am ρ g (first++[.agg (aG e)]++caps) M' aF (fe aF M' (.bool (q e)))) :
 ar am ρ 53 [v,.fn (.func g) first caps] M nx fun r=>dN r.2.1 (fun k=>lo<=k/\k<r.2.2) r.1 9 (l.filter fun e=>!q e).length ((l.filter fun e=>!q e).flatMap aG)/\nW lo M r.2.1/\nx<=r.2.2:=by
 refine ar.wk 42 [.tmp 4] Tryz.func53 ?_;refine bR Fa ?_;refine lG (f97 ρ (hv.at (Nat.le_refl _)) Z q fun e he M' n' ha hn=>hq e he M' n' (fun k hk=>ha k Z) Z) fun M1 n1 g2 g3=>?_
 have Kh:=uK (q:=q) l 0;by_cases hj:eN q l 0 = -1
 ·have hf:l.filter (fun e=>!q e)=l:=by
   rw[hj]at Kh;rw[filter_eq_self];intro e he;have:=List.any_eq_false.1 Kh.symm e he;simpa using this
  refine mI Fa hj ?_;rw[hf];exact⟨(hv.up (N:=M1) (fun q _ hq=>g2 q Z) (hi':=n1+5) Z).pp,fun k hk=>g2 k Z,Z⟩
 ·have aL:=ta q l 0
  obtain⟨j,Ta⟩:∃j:Nat,eN q l 0=(j:Int):=⟨(eN q l 0).toNat,Z⟩;obtain⟨_,j2,j3⟩:=ra Ta;rw[Nat.sub_zero,Nat.sub_zero]at j3;rw[Ta]at hj ⊢;clear aL Kh Ta;obtain⟨vj,RU,⟨_,h0⟩ | ⟨K,rfl,⟨k1,k2⟩,hK⟩⟩:=hv
  ·omega
  obtain⟨nq,Tb⟩:∃nq:aB->Bool,nq=fun e=>!q e:=⟨_,rfl⟩
  rw[<-Tb]at j3 ⊢;have Gg:=(g2 K Z).trans hK;have MJ:=eF j;refine Ao Fa hj MJ ?_;refine aC (fun m' s=>∃(i k:Nat) (l':List aB),i<=l.length/\k<i/\m'=l.length - i/\((l.take i).filter nq).length=k/\l'.length=l.length/\l'.take k=(l.take i).filter nq/\l'.drop i=l.drop i /\
   gG s.env 0=some (.sl K 9 0 l.length l.length)/\gG s.env 1=some (.fn (.func g) first caps)/\gG s.env 5=some (.int .i64 k)/\gG s.env 6=some (.int .i64 i)/\gG s.M K=some (.row (l'.flatMap aG))/\nW lo M s.M/\nx<=s.nx)
   (l.length - (j+1)) ⟨j+1,j,l,Z,Z,rfl,by rw[j3,length_take];omega,rfl,by rw[j3],rfl,?_⟩ ?_
  ·refine bR Fa ?_
   exact⟨Gg,fun k hk=>g2 k Z,Z⟩
  ·rintro m' ⟨env,M',aF⟩ ⟨i,k,l',hi,hki,ir,hk,qz,kB,zp,e0,e1,e5,e6,z,ha,hn⟩
   simp only at e0 e1 e5 e6 z ha hn;by_cases aL:(i:Int)<l.length
   ·have aP:i<l.length:=Z
    obtain⟨e,gA⟩:∃e,l[i]?=some e:=⟨l[i],by simp[aP]⟩;have NB:l'[i]?=some e:=by
     have:(l'.drop i)[0]?=some e:=by rw[zp,getElem?_drop];exact gA
     rwa [getElem?_drop]at this
    have je:(l'.flatMap aG).length=l.length*9:=by rw[<-qz];clear kB zp NB qz z;induction l' with | nil=>rfl | cons a l ih=>rw[flatMap_cons,length_append,ih,length_cons];simp[aG];omega
    have bV:=eF i;have F_:=eF k;have bC:∀kk,br am 29 (.sl K 9 0 l.length l.length) (.int kk (i:Int))=some (.mp K (i*9)):=fun kk=>by
     rw[cy,Lc.2.2.2.1,ev _ _ _ _ _ Z Z];simp
    have iN:∀kk,br am 29 (.sl K 9 0 l.length l.length) (.int kk (k:Int))=some (.mp K (k*9)):=fun kk=>by
     rw[cy,Lc.2.2.2.1,ev _ _ _ _ _ Z Z];simp
    have rC:(i+1)*9<=l.length*9:=mul_le_mul_right _ aP;have aU:b_ am M' 35 (.mp K (i*9))=some ⟨.agg (aG e),[K],[]⟩:=by
     rw[fG (by unfold vR;rw[z]) jW.1 Z,sr NB]
    have yR:=hq e (mem_of_getElem? gA);have kS:(l.take (i+1)).filter nq=(l.take i).filter nq++(if nq e then [e] else []):=by
     rw[take_add_one,gA,toList_some,filter_append];congr 1;cases h:nq e<;>simp[h]
    have Wz:=oo (f:=aG) (sz:=9) (fun _=>rfl) l' k e Z;obtain⟨p1,p2,p3,p4,p5,p6,p7,p8,p9⟩:=e;simp only[aG]at aU yR;refine iQ Fa e0 e1 e5 e6 aL bC aU ?_;generalize oM:ap (ap M' (aF+8) _) (aF+8) _=M3;have a3:aq aF M' M3:=by rw[<-oM];exact O
    have z3:gG M3 (aF+8)=some (.row [.int .i64 p1,.int .i64 p2,.int .i64 p3,.int .u64 p4,.int .u64 p5,.int .u64 p6,.int .u64 p7,.int .u64 p8,.int .i64 p9]):=by rw[<-oM];exact J
    clear oM;refine gQ (yR M3 _ (fun q hq=>(a3 q Z).trans (ha q hq)) Z) ?_;rintro⟨u,M4,n4⟩ ⟨g4,g5,g6⟩;simp only at g4 g5 g6;subst g4;have z4:=(g5 (aF+8) Z).trans z3;have a4:aq aF M' M4:=a3.trans (g5.le Z);have zK:=(a4 K Z).trans z;clear z3 a3 g5;cases Qt:q ⟨p1,p2,p3,p4,p5,p6,p7,p8,p9⟩ with
    | true =>
      have ZR:nq ⟨p1,p2,p3,p4,p5,p6,p7,p8,p9⟩=false:=by rw[Tb];simp[Qt]
      rw[ZR]at kS;refine gw Fa Qt bV e0 e1 e5 e6 ?_;refine⟨l.length - (i+1),Z,i+1,k,l',Z,Z,rfl,by rw[kS];simpa using hk,qz,by rw[kS];simpa using kB,?_,rfl,rfl,zK,fun q hq=>(a4 q Z).trans (ha q hq),Z⟩;rw[<-drop_drop,<-drop_drop,zp]
    | false =>
      have ZR:nq ⟨p1,p2,p3,p4,p5,p6,p7,p8,p9⟩=true:=by rw[Tb];simp[Qt]
      rw[ZR]at kS;simp only[aG]at Wz;refine dw Fa Qt bV F_ e0 e1 e5 e6 iN z4 zK ?_;refine⟨l.length - (i+1),Z,i+1,k+1,l'.set k ⟨p1,p2,p3,p4,p5,p6,p7,p8,p9⟩,Z,Z,rfl,by rw[kS];simp[hk],by simp[qz],?_,?_,rfl,rfl,?_,fun q hq=>?_,Z⟩
      ·rw[kS,<-kB,take_add_one,List.take_set_of_le (Nat.le_refl _),getElem?_set_self Z]
       simp
      ·rw[List.drop_set_of_lt Z,<-drop_drop,<-drop_drop,zp]
      ·rw[<-Wz]
      ·rw[ao,if_neg Z]
       exact(a4 q Z).trans (ha q hq)
   ·have gB:i=l.length:=Z
    have Tf:∀N,qY am N 29 (.sl K 9 0 l.length l.length) (some (.int .i64 (k:Nat))) none none=some ⟨.sl K 9 (k*9) (l.length - k) (l.length - k),[],[]⟩:=fun N=>by
     unfold qY;have e:(Int.ofNat k)=((k:Nat):Int):=rfl;simp only[<-e,Lb,Tryz.underlying29,jW.2.1];rw[show Nat.ble k l.length=true by rw[ble_eq];omega,show Nat.ble l.length l.length=true by rw[ble_eq];omega];simp;rfl
    have Tp:∀N,qY am N 29 (.sl K 9 0 l.length l.length) none (some (.int .i64 (k:Nat))) none=some ⟨.sl K 9 0 k l.length,[],[]⟩:=fun N=>by
     unfold qY;have e:(Int.ofNat k)=((k:Nat):Int):=rfl;simp only[<-e,Lb,Tryz.underlying29,jW.2.1];rw[show Nat.ble 0 k=true by rw[ble_eq];omega,show Nat.ble k l.length=true by rw[ble_eq];omega,show Nat.ble l.length l.length=true by rw[ble_eq];omega];simp;rfl
    have je:(l'.flatMap aG).length=l.length*9:=by rw[<-qz];clear kB zp qz z;induction l' with | nil=>rfl | cons a l ih=>rw[flatMap_cons,length_append,ih,length_cons];simp[aG];omega
    obtain⟨zs,VY⟩:∃zs,zs=lQ [.int .i64 0,.int .i64 0,.int .i64 0,.int .u64 0,.int .u64 0,.int .u64 0,.int .u64 0,.int .u64 0,.int .i64 0] (l.length - k):=⟨_,rfl⟩;have cF:rx am M' 29 (.sl K 9 (k*9) (l.length - k) (l.length - k))=some ⟨.tup [],[K],[(K,some (.row (bp (l'.flatMap aG) (k*9) zs)))]⟩:=by
     unfold rx;simp only[Tryz.underlying29,jW.2.1,jW.2.2.1,bA,z];have hb:Nat.ble (k*9+(l.length - k)*9) (l'.flatMap aG).length=true:=by rw[ble_eq];omega
     change (match Nat.ble (k*9+(l.length - k)*9) (l'.flatMap aG).length,true with | true,true=>_ | _,_=>none)=_;rw[hb,VY]
    refine ii Fa e0 e1 e5 e6 aL @mH @Nb @Mc Tf Tp (aI @Gb cF) ?_;subst gB;rw[take_length]at hk kB;have RV:zs.length=(l.length - k)*9:=by rw[VY];exact tR _ _
    have gE:k*9+zs.length<=(l'.flatMap aG).length:=Z;refine⟨⟨Z,.inr ⟨K,0,l.length,_,by rw[hk],⟨k1,Z⟩,by unfold vR;rw[ao,if_pos rfl],by rw[ib _ _ _ gE];omega,?_⟩⟩,fun q hq=>by rw[ao,if_neg Z];exact ha q hq,Z⟩;rw[drop_zero,hk,fa _ _ _ gE,take_append_of_le_length (by rw[length_take];omega),take_take,Nat.min_self,nj (f:=aG) (sz:=9) (fun _=>rfl),kB]
structure vN (M:Hp) (nx h:Nat) (S:HS) (L:List aR) (R:Int->List bO) (Y:List Int):Prop where
 hist:∃lo hi,bX M lo hi h S/\hi<=nx
 n:S.nrec=L.length
 recs:∀j r,L[j]?=some r->cU M nx r ((S.crec.drop (j*11)).take 11)
 few:L.length<=100000
 fewr:∀r ∈ L,dV r.p<=100000/\r.es.length<=100000
 fewk:S.looks.length<=100000
 fewo:∀l:List Int,l.Nodup->(∀x ∈ l,(S.obj x).isSome=true)->l.length<=4000
 nums:By S
 vers:nN S
 fewm:S.mods.length<=1000
 exs:∀r ∈ L,r.kind=5->dV r.p<=1000/\gI r.p
 pos:∀x,∀i ∈ dk S S.mods x,1<=i.n
 row:∀x (l:List bO),l.Perm (dk S S.mods x)->l.Pairwise (fun a b=>a.wr<=b.wr)->l=R x
 rowl:∀x,(R x).length<=1000
 objs:∀ys,D3 S ys->ys=Y
theorem vN.agr {M':Hp} {aF:Nat} {R:Int->List bO} {Y:List Int} (H:vN M nx h S L R Y) (ha:aq nx M M') (hn:nx<=aF):vN M' aF h S L R Y:=by
 obtain⟨lo,hi,h1,h2⟩:=H.hist;exact { H with hist:=⟨lo,hi,h1.agr (ha.le h2),Z⟩,recs:=fun j r hr=>((H.recs j r hr).agr ha).wk hn }
def Vy (nx:Nat) (M:Hp) (T:List aB) (o:ew):Prop:=∃l:List aB,l.Perm T/\l.Pairwise (fun a b=>Ir b a=false)/\Ct nx M 9 aG l o
def Sf (nx:Nat) (M:Hp) (T:List aB) (q:aB->Bool) (o:ew):Prop:=∃l:List aB,l.Perm T/\l.Pairwise (fun a b=>Ir b a=false)/\dN o.2.1 (fun k=>nx<=k/\k<o.2.2) o.1 9 (l.filter q).length ((l.filter q).flatMap aG)/\aq nx M o.2.1/\nx<=o.2.2
theorem vN.some (hS:kL) (hN:kJ) (hI:Ci) (hE:nQ) (ρ:aK) (j9:ρ.det=false) {R:Int->List bO} {Y:List Int} (H:vN M nx h S L R Y)
 (ask:Int->Bool) (hq:∀j:Nat,j<L.length->∀(M':Hp) (n':Nat),aq nx M M'->nx<=n'->ar am ρ g (first++[.int .i64 j]++caps) M' n' (fe n' M' (.bool (ask j))))
 (ay:(fI (nl S Y R) ask 0 L).length<=1000):ar am ρ 31 [.mp h 0,.fn (.func g) first caps] M nx (Vy nx M (fI (nl S Y R) ask 0 L)):=by
 obtain⟨lo,hi,h1,h2⟩:=H.hist;exact Yu hS hN hI hE ρ j9 h1 h2 H.n H.recs H.few H.fewr H.fewk H.fewo H.nums H.vers H.fewm H.exs H.pos H.row H.rowl H.objs ask hq ay
theorem Sv (ρ:aK) (M:Hp) (nx:Nat) (j:Int):ar am ρ 32 [.int .i64 j] M nx (fe nx M (.bool true)):=by
 refine ar.wk 3 [.tmp 2] Tryz.func32 ?_;refine bR @fe.eq_1 ?_;exact⟨aq.refl _ _,Z⟩
theorem f96 (ρ:aK) {kb:Nat} {k:Int} (h:gG M kb=some (.row [.int .i64 k])) (hb:kb<nx) (e:aB):ar am ρ 96 [.agg (aG e),.mp kb 0] M nx (fe nx M (.bool (!decide (e.k=k)))):=by
 simp only[aG];refine ar.wk 8 [.tmp 3] Tryz.func96 ?_;refine Ao Zn h @fe.eq_1 ?_;exact⟨O,Z⟩
section
variable (hS:kL) (hN:kJ) (hI:Ci) (hE:nQ) (ρ:aK) (j9:ρ.det=false) {M:Hp} {nx h:Nat} {S:HS} {L:List aR} {R:Int->List bO} {Y:List Int} (H:vN M nx h S L R Y)
include hS hN hI hE j9 H
theorem jU (ay:(fI (nl S Y R) (fun _=>true) 0 L).length<=1000):ar am ρ 10 [.mp h 0] M nx (Vy nx M (fI (nl S Y R) (fun _=>true) 0 L)):=by
 refine ar.wk 5 [.tmp 2] Tryz.func10 ?_;refine RA ?_;refine gQ (vN.some hS hN hI hE ρ j9 (H.agr (aq.refl _ _) Z) (fun _=>true) (first:=[]) (caps:=[]) (fun j _ M' n' _ _=>Sv ρ M' n' j) ay) ?_;rintro⟨u,M2,n2⟩ ⟨l,g1,g2,g3,g4,g5,g6⟩;simp only at g3 g4 g5 g6;have hc:=g4.cell;refine mI hc.1 hc.2 ?_;exact⟨l,g1,g2,g3,di.wkLo g4 Z (by first | omega | (simp only;omega)),g5.le Z,ak⟩
theorem Wn (k:Int) (ay:(fI (nl S Y R) (fun _=>true) 0 L).length<=1000):ar am ρ 52 [.mp h 0,.int .i64 k] M nx (Sf nx M (fI (nl S Y R) (fun _=>true) 0 L) fun e=>decide (e.k=k)):=by
 refine ar.wk 9 [.tmp 4] Tryz.func52 ?_;refine bR lK ?_;generalize xu:ap M nx _=M1;have a1:aq nx M M1:=by rw[<-xu];exact O
 have z1:gG M1 nx=some (.row [.int .i64 k]):=by rw[<-xu];exact J
 clear xu;refine gQ (jU hS hN hI hE ρ j9 (H.agr a1 Z) ay) ?_;rintro⟨u,M2,n2⟩ ⟨l,g1,g2,g3,g4,g5,g6⟩;simp only at g3 g4 g5 g6;have hc:=g4.cell;have z2:=(g5 nx Z).trans z1;have VF:l.length<=100000:=by rw[g1.length_eq];omega
 refine Ao lK hc.1 hc.2 ?_;refine gQ (f53 ρ (M:=M2) (g4.up (hi':=_) (fun _ _ _=>rfl) ?_) ?_ VF (first:=[]) (caps:=[.mp nx 0]) (fun e=>!decide (e.k=k)) fun e _ M' n' ha hn=>f96 ρ ((ha nx Z).trans z2) Z e) ?_
 ·omega
 ·omega
 rintro⟨u3,M3,n3⟩ ⟨g7,g8,g9⟩;simp only at g7 g8 g9;have hc:=g7.cell;refine Ao lK hc.1 hc.2 ?_;refine⟨l,g1,g2,?_,fun q hq=>(g8 q Z).trans ((g5 q Z).trans (a1 q hq)),ak⟩;simp only[Bool.not_not]at g7;exact g7.keep fun q hq=>⟨rfl,ak⟩
theorem DN (ay:(fI (nl S Y R) (fun _=>true) 0 L).length<=1000):ar am ρ 20 [.mp h 0] M nx (Sf nx M (fI (nl S Y R) (fun _=>true) 0 L) fun e=>decide (e.k=4)):=by
 refine ar.wk 5 [.tmp 2] Tryz.func20 ?_;refine RA ?_;refine gQ (Wn hS hN hI hE ρ j9 (H.agr (aq.refl _ _) Z) 4 ay) ?_;rintro⟨u,M2,n2⟩ ⟨l,g1,g2,g3,g5,g6⟩;simp only at g3 g5 g6;have hc:=g3.cell;refine mI hc.1 hc.2 ?_;exact⟨l,g1,g2,g3.keep fun q hq=>⟨rfl,ak⟩,g5.le Z,ak⟩
theorem KB (ay:(fI (nl S Y R) (fun _=>true) 0 L).length<=1000):ar am ρ 21 [.mp h 0] M nx (Sf nx M (fI (nl S Y R) (fun _=>true) 0 L) fun e=>decide (e.k=5)):=by
 refine ar.wk 5 [.tmp 2] Tryz.func21 ?_;refine RA ?_;refine gQ (Wn hS hN hI hE ρ j9 (H.agr (aq.refl _ _) Z) 5 ay) ?_;rintro⟨u,M2,n2⟩ ⟨l,g1,g2,g3,g5,g6⟩;simp only at g3 g5 g6;have hc:=g3.cell;refine mI hc.1 hc.2 ?_;exact⟨l,g1,g2,g3.keep fun q hq=>⟨rfl,ak⟩,g5.le Z,ak⟩
end
end
end Go.Xs
namespace Go.Xs
open List Nat Option
variable{M:Hp}{b hi i lo m nx:Nat}{cs:List XV}{l:List aR}{ps:List (Int×Int)}{r:aR}{tag:Nat->Tg}
open Go.Proofs
theorem Zw (ρ:aK) {k:Nat} {v0 v1 c2 c3 c4:XV} (mo:lo<=m) (hmh:m<hi) (ht:tag m = .mach) (hM:gG M m=some (.row [v0,v1,c2,c3,c4])) (h0:jQ M lo hi tag v0 ps) (h1:bS M lo hi tag .names v1 2 ps.length (ps.flatMap fj)) (hh:hi<=nx)
 (few:ps.length<=1000) (a c:Int) (hk:gG M k=some (.row [.int .u64 a,.int .u64 c])) (QP:k<nx) (hkm:hi<=k) :
 ar am ρ 260 [.mp m 0,.sl k 2 0 1 1] M nx (kh M nx lo m tag ps (a,c) c2 c3 c4):=by
 refine ar.wk 12 [.tmp 4] Tryz.func260 ?_;refine dt Pt ?_;refine gQ (XF ρ (nx:=nx+7) mo hmh ht hM h0 h1 Z few a c hk Z hkm) ?_;rintro⟨u,M2,n2⟩ ⟨i,tag',RX,RY,g1,g2,g3,g4,g5,g6,g7,g8,g9,RG⟩;simp only at g1 g2 g3 g4 g5 g6 g7 g8 g9 RG;subst g1;refine dt Pt ?_;exact⟨i,tag',RX,RY,rfl,g2,g3,g4,g5.agr (aq.refl _ _) ak,g6.agr (aq.refl _ _) ak,fun k hk=>g7 k Z,fun k hk=>g8 k Z,g9,ak⟩
theorem Px (ρ:aK) {vnum vnames vrows vend:XV} {rs:List XV} {le:List (Nat×Int×Bool)} (h:kI M lo hi m l.length l tag ps vnum vnames vrows vend rs le) (hh:hi<=nx) (few:l.length<=1000) (hr:gn r=true) :
 ar am ρ 176 [.mp m 0,.int .u64 r.t,.int .u64 r.x,.agg (et (nv r))] M nx fun o=>o.1 = .tup []/\(∃tag' ps' vnum' vnames' vrows' rs',kI o.2.1 lo o.2.2 m l.length (l++[r]) tag' ps' vnum' vnames' vrows' vend rs' le)/\aq lo M o.2.1/\nx<=o.2.2:=by
 have vY:=h.m_hi;replace h:=h.norm;obtain⟨JM,Sc⟩:∃f,f=fun k=>if k<hi then tag k else Tg.none:=⟨_,rfl⟩
 rw[<-Sc]at h;have htn:∀k,hi<=k->JM k = .none:=fun k hk=>by rw[Sc];exact if_neg Z
 clear Sc;simp only[et];refine ar.wk 49 [] Tryz.func176 ?_;refine dt gP ?_;generalize xu:ap (ap M _ _) _ _=M1;have a1:aq nx M M1:=by rw[<-xu];exact O
 have m1:gG M1 nx=some (.row [.int .u64 (nv r).v,.bool (nv r).dead]):=by rw[<-xu];exact J
 have m2:gG M1 (nx+7)=some (.row [.int .u64 r.t,.int .u64 r.x]):=by rw[<-xu];exact J
 clear xu;have aW:=(a1 m Z).trans h.row;refine gQ (Zw ρ h.lo_m h.m_hi h.tg aW (h.num.agr (a1.le hh) (Nat.le_refl _)) (h.names.agr (a1.le hh) (Nat.le_refl _)) Z (by have:=h.few;omega) r.t r.x m2 Z Z) ?_;rintro⟨u,M2,n2⟩ ⟨i,tag',RX,RY,g1,g2,g3,g4,g5,g6,g7,g8,g9,RG⟩;simp only at g1 g2 g3 g4 g5 g6 g7 g8 g9 RG;subst g1;have k2:∀k,k<nx+8->k≠m->JM k ≠ .num->JM k ≠ .names->gG M2 k=gG M1 k:=g8;have t2:∀k,k<nx->tag' k=JM k:=fun k hk=>g7 k Z
 have y0:gG M2 nx=some (.row [.int .u64 (nv r).v,.bool (nv r).dead]):=(g8 nx Z Z (by rw[htn nx hh];simp) (by rw[htn nx hh];simp)).trans m1;obtain⟨hz,je,Od⟩:=h.rows;rcases Classical.em ((r.t,r.x) ∈ ps) with pB | pB
 ·have hA:fH ps (r.t,r.x)=ps:=if_pos pB
  rw[hA]at g2 g3 g5 g6;have uT:i<ps.length:=(List.getElem?_eq_some_iff.1 g2).1;rcases Od with ⟨_,e0⟩ | ⟨hl,rk,rfl,r1,r2,r3,r4⟩
  ·omega
  obtain⟨cf,v,hv,wz,wl,⟨_,e0⟩ | ⟨Gn,sk,rfl,s1,s2,s3,s4⟩⟩:=h.all i r.t r.x g2
  ·exact(cf (length_eq_zero_iff.1 e0)).elim
  have n1:=aZ h.tg r3 aa;have V2:=aZ h.tg s3 aa;have n3:=aZ r3 s3 aa;have hd:aw m rk=False/\aw rk m=False/\aw m sk=False/\aw sk m=False/\aw rk sk=False/\aw sk rk=False:=by simp only[aw,eq_iff_iff,iff_false];exact⟨n1,n1.symm,V2,V2.symm,n3,n3.symm⟩
  have yr:gG M2 rk=some (.row rs):=((g8 rk Z n1.symm (by rw[r3];simp) (by rw[r3];simp)).trans (a1 rk Z)).trans r4;have ys:gG M2 sk=some (.row ((bd l r.t r.x).flatMap et)):=((g8 sk Z V2.symm (by rw[s3];simp) (by rw[s3];simp)).trans (a1 sk Z)).trans s4;have Jw:List.drop i rs = .sl sk 2 0 (bd l r.t r.x).length (bd l r.t r.x).length::List.drop (i+1) rs:=by
   obtain⟨q1,q2⟩:=List.getElem?_eq_some_iff.1 hv;rw[<-q2];exact drop_eq_getElem_cons q1
  have c1:¬ (i:Int)=ps.length:=Z;have ip:(bd l r.t r.x).length<=1000:=by
   unfold bd;rw[length_map];exact Nat.le_trans (length_filter_le _ _) few
  refine zQ gP g4 yr ys y0 c1 Jw je wl hd @Int.toNat_natCast ?_;refine⟨?_,⟨fun k=>if k=n2+22 then .row i else tag' k,ps,RX,RY,.sl rk 1 0 ps.length ps.length,rs.set i (.sl (n2+22) 2 0 ((bd l r.t r.x).length+1) ((bd l r.t r.x).length+1)),?_⟩,?_,Z⟩
  ·(repeat' apply an)<;>exact yj
  ·rw[X_ rs i Z]
   generalize oM:ap (ap (vO _ _) _ _) _ _=M3;have x1:∀k,k<n2->k≠rk->k≠sk->gG M3 k=gG M2 k:=fun k h1 h2 h3=>by rw[<-oM];exact J
   have x2:gG M3 rk=some (.row (rs.set i (.sl (n2+22) 2 0 ((bd l r.t r.x).length+1) ((bd l r.t r.x).length+1)))):=by rw[<-oM];exact J
   have x3:gG M3 (n2+22)=some (.row ((bd l r.t r.x++[nv r]).flatMap et)):=by
    rw[flatMap_append,<-oM];have:List.take ((bd l r.t r.x).length*2) ((bd l r.t r.x).flatMap et)=(bd l r.t r.x).flatMap et:=by rw[<-wl,take_length]
    rw[this];exact J
   clear oM;have kk:∀(k:Nat) (tg:Tg),k<hi->JM k=tg->tg ≠ .rows->tg ≠ .row i->tg ≠ .mach->tg ≠ .num->tg ≠ .names->gG M3 k=gG M k:=fun k tg h1 h2 h3 h4 h5 h6 h7=>by
    rw[x1 k Z (fun e=>h3 (by rw[<-h2,e];exact r3)) (fun e=>h4 (by rw[<-h2,e];exact s3)),g8 k Z (fun e=>h5 (by rw[<-h2,e];exact h.tg)) (by rw[h2];exact h6) (by rw[h2];exact h7)];exact a1 k Z
   have tt:∀(k:Nat) (tg:Tg),k<n2->tag' k=tg->tg ≠ .rows->tg ≠ .row i->gG M3 k=gG M2 k/\(if k=n2+22 then Tg.row i else tag' k)=tg:=fun k tg h1 h2 h3 h4=>by
    refine⟨x1 k h1 (fun e=>h3 (by rw[<-h2,e,t2 rk Z];exact r3)) (fun e=>h4 (by rw[<-h2,e,t2 sk Z];exact s3)),?_⟩;rw[if_neg Z];exact h2
   have:=h.put (M3:=M3) (n3:=n2+25) (i:=i) (tag3:=fun k=>if k=n2+22 then Tg.row i else tag' k) (v0:=RX) (v1:=RY) (vrows':=.sl rk 1 0 ps.length ps.length) (rs':=rs.set i (.sl (n2+22) 2 0 ((bd l r.t r.x).length+1) ((bd l r.t r.x).length+1))) hr
    (fun k hk=>by rw[if_neg Z];exact t2 k Z) (by rw[x1 m Z n1 V2];exact g4)
    (by rw[hA];exact g5.keep (fun k h1 h2=>tt k _ h1 h2 aa aa) Z) (by rw[hA];exact g6.keep (fun k h1 h2=>tt k _ h1 h2 aa aa) Z)
    (by rw[hA];exact⟨hz,by rw[length_set];exact je,.inr ⟨hl,rk,rfl,r1,Z,by simp only;rw[if_neg Z,t2 rk Z];exact r3,x2⟩⟩) (by rw[hA];exact g2)
    ⟨.sl (n2+22) 2 0 ((bd l r.t r.x).length+1) ((bd l r.t r.x).length+1),by rw[getElem?_set_self Z],aj,by rw[flatMap_append,length_append,wl];simp[et];omega,.inr ⟨aa,n2+22,aa,by have:=h.lo_m;omega,Z,aa,x3⟩⟩
    (fun j hj kX=>by rw[getElem?_set_ne (fun e=>kX e.symm)]) (fun k j hk hg kX=>kk k _ hk hg aa (by simp;exact kX) aa aa aa) (fun k hk hg=>kk k _ hk hg aa aa aa aa aa) Z
   rw[hA]at this;exact this
  ·intro k hk
   have q1:=h.lo_m;have e0:gG M2 k=gG M k:=(g9 k hk).trans (a1 k Z);exact J
 ·have hA:fH ps (r.t,r.x)=ps++[(r.t,r.x)]:=if_neg pB
  rw[hA]at g2 g3 g5 g6;have bA:bd l r.t r.x=[]:=Classical.byContradiction fun cf=>pB (h.whole _ _ cf)
  have AW:i=ps.length:=by
   rw[qZ,qN.2 pB]at g3;simp only[if_true,Option.some.injEq]at g3;omega
  subst AW;have ip:ps.length<=1000:=by have:=h.few;omega
  have MF:rs.length=ps.length:=by rw[je,Nat.mul_one]
  have fin:∀(M3:Hp) (R S n3:Nat),n2<=R->R<n3->n2<=S->S<n3->R≠S->gG M3 m=some (.row [RX,RY,.sl R 1 0 (ps.length+1) (ps.length+1),.int .i64 l.length,vend])->gG M3 R=some (.row (rs++[.sl S 2 0 1 1])) ->
   gG M3 S=some (.row [.int .u64 (nv r).v,.bool (nv r).dead])->(∀k,k<n2->k≠m->tag' k ≠ .rows->gG M3 k=gG M2 k) ->
   ∃tag' ps' vnum' vnames' vrows' rs',kI M3 lo n3 m l.length (l++[r]) tag' ps' vnum' vnames' vrows' vend rs' le:=by
   intro M3 R S n3 hR1 Gj hS1 hS2 hRS x0 x2 x3 x1;have kk:∀(k:Nat) (tg:Tg),k<hi->JM k=tg->tg ≠ .rows->tg ≠ .mach->tg ≠ .num->tg ≠ .names->gG M3 k=gG M k:=fun k tg h1 h2 h3 h5 h6 h7=>by
    rw[x1 k Z (fun e=>h5 (by rw[<-h2,e];exact h.tg)) (by rw[t2 k Z,h2];exact h3),g8 k Z (fun e=>h5 (by rw[<-h2,e];exact h.tg)) (by rw[h2];exact h6) (by rw[h2];exact h7)];exact a1 k Z
   have tt:∀(k:Nat) (tg:Tg),k<n2->tag' k=tg->tg ≠ .rows->tg ≠ .mach->gG M3 k=gG M2 k/\(if k=S then Tg.row ps.length else if k=R then .rows else tag' k)=tg:=fun k tg h1 h2 h3 h4=>by
    refine⟨x1 k h1 (fun e=>h4 (by rw[<-h2,e,t2 m Z];exact h.tg)) (by rw[h2];exact h3),?_⟩;rw[if_neg Z,if_neg Z];exact h2
   have q1:=h.lo_m;refine⟨fun k=>if k=S then .row ps.length else if k=R then .rows else tag' k,fH ps (r.t,r.x),RX,RY,.sl R 1 0 (ps.length+1) (ps.length+1),rs++[.sl S 2 0 1 1],?_⟩;exact h.put (M3:=M3) (n3:=n3) (i:=ps.length) (tag3:=fun k=>if k=S then .row ps.length else if k=R then .rows else tag' k) hr
    (fun k hk=>by rw[if_neg Z,if_neg Z];exact t2 k Z) x0
    (by rw[hA];exact g5.keep (fun k h1 h2=>tt k _ h1 h2 aa aa) Z) (by rw[hA];exact g6.keep (fun k h1 h2=>tt k _ h1 h2 aa aa) Z)
    (by rw[hA];exact⟨aj,by simp[MF],.inr ⟨aa,R,aa,Z,Z,by simp[hRS],x2⟩⟩) (by rw[hA];exact g2)
    ⟨.sl S 2 0 1 1,by rw[<-MF,getElem?_concat_length],by rw[bA];simp,by rw[bA];simp[et],.inr ⟨by rw[bA];simp,S,by rw[bA];rfl,Z,Z,aa,by rw[bA];exact x3⟩⟩
    (fun j hj kX=>by rw[getElem?_append_left Z]) (fun k j hk hg kX=>kk k _ hk hg aa aa aa aa) (fun k hk hg=>kk k _ hk hg aa aa aa aa) Z
  have Vl:∀k,k<lo->gG M2 k=gG M k:=fun k hk=>(g9 k hk).trans (a1 k (by have:=h.lo_m;omega))
  have q1:=h.lo_m;rcases Od with ⟨rfl,e0⟩ | ⟨hl,rk,rfl,r1,r2,r3,r4⟩
  ·rw[e0]at je
   have jd:ps=[]:=length_eq_zero_iff.1 e0;have hrs:rs=[]:=length_eq_zero_iff.1 Z;refine lO gP g4 y0 e0 @Int.toNat_natCast ?_;refine⟨?_,fin _ (n2+14) (n2+32) _ Z Z Z Z Z ?_ ?_ ?_ ?_,?_,Z⟩
   ·(repeat' apply an)<;>exact yj
   ·rw[e0];exact J
   ·rw[hrs];exact J
   ·exact J
   ·intro k h1 h2 h3;exact J
   ·intro k hk
    have:=Vl k hk;exact J
  ·have n1:=aZ h.tg r3 aa
   have hd:aw m rk=False/\aw rk m=False:=by simp only[aw,eq_iff_iff,iff_false];exact⟨n1,n1.symm⟩
   have yr:gG M2 rk=some (.row rs):=((g8 rk Z n1.symm (by rw[r3];simp) (by rw[r3];simp)).trans (a1 rk Z)).trans r4;have kB:List.take ps.length rs=rs:=take_of_length_le Z;have Jw:List.drop ps.length (rs++[XV.nils])=[XV.nils]:=by rw[drop_append_of_le_length Z,drop_eq_nil_of_le Z];rfl
   refine wT gP g4 yr y0 MF hd kB Jw @Int.toNat_natCast ?_;have gE:=fun v=>uJ (a:=.nils) (v:=v) rs
   rw[MF]at gE;rw[gE];refine⟨?_,fin _ (n2+14) (n2+32) _ Z Z Z Z Z ?_ ?_ ?_ ?_,?_,Z⟩
   ·(repeat' apply an)<;>exact yj
   ·exact J
   ·exact J
   ·exact J
   ·intro k h1 h2 h3
    have e1:k≠rk:=fun e=>h3 (by rw[e,t2 rk Z];exact r3)
    exact J
   ·intro k hk
    have:=Vl k hk;exact J
def Pp (M:Hp) (nx lo m:Nat) (l:List aR) (o:ew):Prop:=o.1 = .tup []/\cZ o.2.1 lo o.2.2 m l/\aq lo M o.2.1/\nx<=o.2.2
theorem f114 (ρ:aK) (hr:cU M b r cs) (h:cZ M lo hi m l) (hh:hi<=nx) (few:l.length<=1000):ar am ρ 114 [.mp m 0,.agg cs] M nx (Pp M nx lo m (l++[r])):=by
 obtain⟨pk,pa,pb,pv,ve,rfl,⟨p1,p2⟩,⟨q1,q2⟩,_,_⟩:=hr.cells;obtain⟨tag,ps,vnum,vnames,vrows,vend,rs,le,h⟩:=h;replace h:=h.norm;obtain⟨JM,Sc⟩:∃f,f=fun k=>if k<hi then tag k else Tg.none:=⟨_,rfl⟩
 rw[<-Sc]at h;have htn:∀k,hi<=k->JM k = .none:=fun k hk=>by rw[Sc];exact if_neg Z
 clear Sc;have vY:=h.m_hi;have mo:=h.lo_m;have hM:=h.row;have hw:IntKind.i64.wrap ((l.length:Int)+1)=((l.length+1:Nat):Int):=by rw[wrap_i64 Z Z];omega
 have ay:(l++[r]).length=l.length+1:=aa;have hU:∀(M:Hp) (n:Nat) (k:Int) (b:Bool),Nt am M 150 n k (.bool b) (.i 31 (.bool false)) (some (.map [] 0))=some ⟨.udf,[n],[(n,some (.map (cx vB (dD [] 0 k b)) (kr [] 0 k)))]⟩:=fun M n k b=>MZ (P:=am) (M:=M) 150 n 31 0 k b (.bool false) []
 rcases h.ends with ⟨rfl,rfl⟩ | ⟨ek,ec,rfl,e1,e2,e3,e4⟩
 ·have jc:∀t,aH ([]:List (Nat×Int×Bool)) t=bH l t:=h.ended
  have fin:∀(M':Hp) (n' c':Nat) (le':List (Nat×Int×Bool)),(nx+7)<n'->hi<=n'->gG M' m=some (.row [vnum,vnames,vrows,.int .i64 ((l.length+1:Nat):Int),.mm (nx+7)])->gG M' (nx+7)=some (.map (cx vB le') c')->(∀k,k<hi->k≠m->k≠(nx+7)->gG M' k=gG M k)->gn r=false->(∀t,aH le' t=bH (l++[r]) t)->cZ M' lo n' m (l++[r]):=fun M' n' c' le' g1 g2 g3 g4 g5 g6 g7=>by
   obtain⟨tag',vd⟩:=h.doEnd (l':=l++[r]) (mn':=l.length+1) (.inr Z) g1 g3 g4 g5 g2 (fun t x=>ss g6) g7 aa;rw[<-ay]at vd;exact⟨tag',ps,vnum,vnames,vrows,_,rs,le',vd⟩
  by_cases k1:r.kind=1
  ·refine ar.wk 63 [] Tryz.func114 ?_
   refine wT aS p1 p2 q1 q2 hM k1 hw hU ?_;refine⟨rfl,fin _ _ (kr [] 0 r.t) (dD [] 0 r.t false) ak ak J J (fun k h1 h2 h3=>J) (rL Z Z) fun t=>?_,fun k hk=>J,ak⟩;rw[cQ,rU k1,jc]
  by_cases k3:r.kind=3
  ·have JF:nv r=⟨r.v,false⟩:=if_pos k3
   have vZ:gn r=true:=by simp[gn,k3]
   refine ar.wk 63 [] Tryz.func114 ?_;refine rf aS p1 p2 q1 q2 hM k1 k3 hw hU ?_;generalize xu:ap (ap (ap M _ _) _ _) _ _=M1;have x0:gG M1 m=some (.row [vnum,vnames,vrows,.int .i64 l.length,.mm (nx+7)]):=by rw[<-xu];exact J
   have x1:gG M1 (nx+7)=some (.map (cx vB []) 0):=by rw[<-xu];exact J
   have x2:∀k,k<hi->k≠m->k≠(nx+7)->gG M1 k=gG M k:=fun k h1 h2 h3=>by rw[<-xu];exact J
   have x3:aq lo M M1:=fun k hk=>by rw[<-xu];exact J
   clear xu;obtain⟨MV,oO⟩:=h.doEnd (n':=nx+8) (l':=l) (mn':=l.length) (.inr Z) Z x0 x1 x2 Z (fun _ _=>rfl) jc (Nat.le_refl _);have kT:=fun aF (hn:nx+8<=aF)=>Px ρ (nx:=aF) oO hn few vZ
   rw[JF]at kT;simp only[et]at kT;refine lL (kT _ Z) af ?_ ?_
   ·refine dt aS ?_;try exact⟨⟩
   ·rintro⟨u,M2,n2⟩ ⟨g1,⟨CS,Re,w0,w1,w2,Rg,h2⟩,g3,g4⟩
    simp only at g1 g3 g4;subst g1;have aW:=h2.row;have JE:=h2.m_hi;simp only at aW JE;refine gk aS aW hw ?_;refine⟨rfl,⟨CS,Re,w0,w1,w2,.mm (nx+7),Rg,[],?_⟩,(x3.trans g3).set Z _,ak⟩;rw[ay];exact h2.many J (fun k h1 h2=>J) ak
  by_cases k4:r.kind=4
  ·have JF:nv r=⟨0,true⟩:=if_neg k3
   have vZ:gn r=true:=by simp[gn,k4]
   refine ar.wk 63 [] Tryz.func114 ?_;refine zQ aS p1 p2 q1 q2 hM k1 k3 k4 hw hU ?_;generalize xu:ap (ap (ap M _ _) _ _) _ _=M1;have x0:gG M1 m=some (.row [vnum,vnames,vrows,.int .i64 l.length,.mm (nx+7)]):=by rw[<-xu];exact J
   have x1:gG M1 (nx+7)=some (.map (cx vB []) 0):=by rw[<-xu];exact J
   have x2:∀k,k<hi->k≠m->k≠(nx+7)->gG M1 k=gG M k:=fun k h1 h2 h3=>by rw[<-xu];exact J
   have x3:aq lo M M1:=fun k hk=>by rw[<-xu];exact J
   clear xu;obtain⟨MV,oO⟩:=h.doEnd (n':=nx+8) (l':=l) (mn':=l.length) (.inr Z) Z x0 x1 x2 Z (fun _ _=>rfl) jc (Nat.le_refl _);have kT:=fun aF (hn:nx+8<=aF)=>Px ρ (nx:=aF) oO hn few vZ
   rw[JF]at kT;simp only[et]at kT;refine lL (kT _ Z) af ?_ ?_
   ·refine dt aS ?_;try exact⟨⟩
   ·rintro⟨u,M2,n2⟩ ⟨g1,⟨CS,Re,w0,w1,w2,Rg,h2⟩,g3,g4⟩
    simp only at g1 g3 g4;subst g1;have aW:=h2.row;have JE:=h2.m_hi;simp only at aW JE;refine gk aS aW hw ?_;refine⟨rfl,⟨CS,Re,w0,w1,w2,.mm (nx+7),Rg,[],?_⟩,(x3.trans g3).set Z _,ak⟩;rw[ay];exact h2.many J (fun k h1 h2=>J) ak
  by_cases k6:r.kind=6
  ·refine ar.wk 63 [] Tryz.func114 ?_
   refine yq aS p1 p2 q1 q2 hM k1 k3 k4 k6 hw hU ?_;refine⟨rfl,fin _ _ (kr [] 0 r.t) (dD [] 0 r.t true) ak ak J J (fun k h1 h2 h3=>J) (rL Z Z) fun t=>?_,fun k hk=>J,ak⟩;rw[cQ,n_ (.inl k6),jc]
  by_cases k7:r.kind=7
  ·refine ar.wk 63 [] Tryz.func114 ?_
   refine yq aS p1 p2 q1 q2 hM k1 k3 k4 k6 k7 (aI hw hU) ?_;refine⟨rfl,fin _ _ (kr [] 0 r.t) (dD [] 0 r.t true) ak ak J J (fun k h1 h2 h3=>J) (rL Z Z) fun t=>?_,fun k hk=>J,ak⟩;rw[cQ,n_ (.inr k7),jc]
  ·refine ar.wk 63 [] Tryz.func114 ?_
   refine yq aS p1 p2 q1 q2 hM k1 k3 k4 k6 k7 (aI hw hU) ?_;refine⟨rfl,fin _ _ 0 [] ak ak J J (fun k h1 h2 h3=>J) (rL Z Z) fun t=>?_,fun k hk=>J,ak⟩;rw[tI k1 k6 k7,jc]
 ·have n1:=aZ h.tg e3 aa
  have hd:aw m ek=False/\aw ek m=False:=by simp only[aw,eq_iff_iff,iff_false];exact⟨n1,n1.symm⟩
  have jc:∀t,aH (le:List (Nat×Int×Bool)) t=bH l t:=h.ended;have fin:∀(M':Hp) (n' c':Nat) (le':List (Nat×Int×Bool)),ek<n'->hi<=n'->gG M' m=some (.row [vnum,vnames,vrows,.int .i64 ((l.length+1:Nat):Int),.mm ek])->gG M' ek=some (.map (cx vB le') c')->(∀k,k<hi->k≠m->k≠ek->gG M' k=gG M k)->gn r=false->(∀t,aH le' t=bH (l++[r]) t)->cZ M' lo n' m (l++[r]):=fun M' n' c' le' g1 g2 g3 g4 g5 g6 g7=>by
   obtain⟨tag',vd⟩:=h.doEnd (l':=l++[r]) (mn':=l.length+1) (.inl ⟨e1,e2,e3⟩) g1 g3 g4 g5 g2 (fun t x=>ss g6) g7 aa;rw[<-ay]at vd;exact⟨tag',ps,vnum,vnames,vrows,_,rs,le',vd⟩
  by_cases k1:r.kind=1
  ·refine ar.wk 63 [] Tryz.func114 ?_
   refine rf aS p1 p2 q1 q2 hM k1 hw hd e4 ?_;refine⟨rfl,fin _ _ (kr le ec r.t) (dD le ec r.t false) ak ak J J (fun k h1 h2 h3=>J) (rL Z Z) fun t=>?_,fun k hk=>J,ak⟩;rw[cQ,rU k1,jc]
  by_cases k3:r.kind=3
  ·have JF:nv r=⟨r.v,false⟩:=if_pos k3
   have vZ:gn r=true:=by simp[gn,k3]
   refine ar.wk 63 [] Tryz.func114 ?_;refine zQ aS p1 p2 q1 q2 hM k1 k3 hw hd e4 ?_;generalize xu:ap M _ _=M1;have x0:gG M1 m=some (.row [vnum,vnames,vrows,.int .i64 l.length,.mm ek]):=by rw[<-xu];exact J
   have x1:gG M1 ek=some (.map (cx vB le) ec):=by rw[<-xu];exact J
   have x2:∀k,k<hi->k≠m->k≠ek->gG M1 k=gG M k:=fun k h1 h2 h3=>by rw[<-xu];exact J
   have x3:aq lo M M1:=fun k hk=>by rw[<-xu];exact J
   clear xu;obtain⟨MV,oO⟩:=h.doEnd (n':=nx+8) (l':=l) (mn':=l.length) (.inl ⟨e1,e2,e3⟩) Z x0 x1 x2 Z (fun _ _=>rfl) jc (Nat.le_refl _);have kT:=fun aF (hn:nx+8<=aF)=>Px ρ (nx:=aF) oO hn few vZ
   rw[JF]at kT;simp only[et]at kT;refine lL (kT _ Z) af ?_ ?_
   ·refine dt aS ?_;try exact⟨⟩
   ·rintro⟨u,M2,n2⟩ ⟨g1,⟨CS,Re,w0,w1,w2,Rg,h2⟩,g3,g4⟩
    simp only at g1 g3 g4;subst g1;have aW:=h2.row;have JE:=h2.m_hi;simp only at aW JE;refine gk aS aW hw ?_;refine⟨rfl,⟨CS,Re,w0,w1,w2,.mm ek,Rg,le,?_⟩,(x3.trans g3).set Z _,ak⟩;rw[ay];exact h2.many J (fun k h1 h2=>J) ak
  by_cases k4:r.kind=4
  ·have JF:nv r=⟨0,true⟩:=if_neg k3
   have vZ:gn r=true:=by simp[gn,k4]
   refine ar.wk 63 [] Tryz.func114 ?_;refine yq aS p1 p2 q1 q2 hM k1 k3 k4 hw hd e4 ?_;generalize xu:ap M _ _=M1;have x0:gG M1 m=some (.row [vnum,vnames,vrows,.int .i64 l.length,.mm ek]):=by rw[<-xu];exact J
   have x1:gG M1 ek=some (.map (cx vB le) ec):=by rw[<-xu];exact J
   have x2:∀k,k<hi->k≠m->k≠ek->gG M1 k=gG M k:=fun k h1 h2 h3=>by rw[<-xu];exact J
   have x3:aq lo M M1:=fun k hk=>by rw[<-xu];exact J
   clear xu;obtain⟨MV,oO⟩:=h.doEnd (n':=nx+8) (l':=l) (mn':=l.length) (.inl ⟨e1,e2,e3⟩) Z x0 x1 x2 Z (fun _ _=>rfl) jc (Nat.le_refl _);have kT:=fun aF (hn:nx+8<=aF)=>Px ρ (nx:=aF) oO hn few vZ
   rw[JF]at kT;simp only[et]at kT;refine lL (kT _ Z) af ?_ ?_
   ·refine dt aS ?_;try exact⟨⟩
   ·rintro⟨u,M2,n2⟩ ⟨g1,⟨CS,Re,w0,w1,w2,Rg,h2⟩,g3,g4⟩
    simp only at g1 g3 g4;subst g1;have aW:=h2.row;have JE:=h2.m_hi;simp only at aW JE;refine gk aS aW hw ?_;refine⟨rfl,⟨CS,Re,w0,w1,w2,.mm ek,Rg,le,?_⟩,(x3.trans g3).set Z _,ak⟩;rw[ay];exact h2.many J (fun k h1 h2=>J) ak
  by_cases k6:r.kind=6
  ·refine ar.wk 63 [] Tryz.func114 ?_
   refine yq aS p1 p2 q1 q2 hM k1 k3 k4 k6 hw (aI hd e4) ?_;refine⟨rfl,fin _ _ (kr le ec r.t) (dD le ec r.t true) ak ak J J (fun k h1 h2 h3=>J) (rL Z Z) fun t=>?_,fun k hk=>J,ak⟩;rw[cQ,n_ (.inl k6),jc]
  by_cases k7:r.kind=7
  ·refine ar.wk 63 [] Tryz.func114 ?_
   refine yq aS p1 p2 q1 q2 hM k1 k3 k4 k6 k7 (aI hw (aI hd e4)) ?_;refine⟨rfl,fin _ _ (kr le ec r.t) (dD le ec r.t true) ak ak J J (fun k h1 h2 h3=>J) (rL Z Z) fun t=>?_,fun k hk=>J,ak⟩;rw[cQ,n_ (.inr k7),jc]
  ·refine ar.wk 63 [] Tryz.func114 ?_
   refine yq aS p1 p2 q1 q2 hM k1 k3 k4 k6 k7 (aI hw (aI hd e4)) ?_;refine⟨rfl,fin _ _ ec le ak ak J J (fun k h1 h2 h3=>J) (rL Z Z) fun t=>?_,fun k hk=>J,ak⟩;rw[tI k1 k6 k7,jc]
def mc (i:Nat):Int:=if i=0 then 4 else if i=1 then 5 else 9+i
def kM (i:Nat) (l:List aR) (r:aR):Bool:=match i with
 | 0=>decide (1<=r.kind)&&decide (r.kind<=7)
 | 1=>fL r
 | 2=>!(decide (r.t=0))
 | 3=>!(decide (r.kind=1)) || !(bH l r.t).isSome
 | 4=>decide (r.kind=1)||(bH l r.t).isSome
 | 5=>!((bH l r.t).getD false)
 | 6=>CT l r
 | 7=>FB l r
 | 8=>tQ r.es
 | 9=>tN l r
 | 10=>ka l r
 | _=>uu l r
def ruleGo (l:List aR) (r:aR):Nat->Nat->Int
 | 0,_=>0
 | n+1,i=>if kM i l r then ruleGo l r n (i+1) else mc i
def eA (l:List aR) (r:aR):Int:=ruleGo l r 12 0
def yt:List XV:=(List.range 12).flatMap fun i=>[.int .i64 (mc i),.fn (.func (164+i)) [] []]
theorem EQ:∀i,i<12->(yt.drop (i*2)).take 2=[.int .i64 (mc i),.fn (.func (164+i)) [] []]:=by
 intro i hi;have:i=0\/i=1\/i=2\/i=3\/i=4\/i=5\/i=6\/i=7\/i=8\/i=9\/i=10\/i=11:=Z;rcases this with rfl | rfl | rfl | rfl | rfl | rfl | rfl | rfl | rfl | rfl | rfl | rfl<;>rfl
theorem P2 (ρ:aK) (M:Hp) (nx:Nat):ar am ρ 113 [] M nx fun r=>∃k,r.1 = .sl k 2 0 12 12/\nx<=k/\k<r.2.2/\gG r.2.1 k=some (.row yt)/\aq nx M r.2.1/\nx<=r.2.2:=by
 refine ar.wk 14 [.tmp 0] Tryz.func113 ?_;refine dt so ?_;refine⟨nx+13,rfl,Z,Z,?_,O,Z⟩;rw[if_pos (show aw (nx+13) (nx+13) from rfl)];rfl
theorem T3 (hS:kL) (hN:kJ) (ρ:aK) (hr:cU M b r cs) (hb:b<=nx) (hc:dV r.p<=1000) (iu:gI r.p) (h:cZ M lo hi m l) (hh:hi<=nx) (few:l.length<=1000) (hi':i<12) :
 ar am ρ (164+i) [.mp m 0,.agg cs] M nx (fe nx M (.bool (kM i l r))):=by
 have hE:∃le,L5 M nx m le/\∀t,aH le t=bH l t:=by
  obtain⟨tag,ps,vnum,vnames,vrows,vend,rs,le,h⟩:=h;refine⟨le,⟨Nat.lt_of_lt_of_le h.m_hi hh,_,_,_,_,_,h.row,?_⟩,h.ended⟩;rcases h.ends with q | ⟨k,c,q1,q2,q3,q4,q5⟩
  ·exact .inl q
  ·exact .inr ⟨k,c,q1,Z,q5⟩
 obtain⟨le,hE,jc⟩:=hE;have:i=0\/i=1\/i=2\/i=3\/i=4\/i=5\/i=6\/i=7\/i=8\/i=9\/i=10\/i=11:=Z;rcases this with rfl | rfl | rfl | rfl | rfl | rfl | rfl | rfl | rfl | rfl | rfl | rfl
 ·exact XU ρ hr
 ·exact f165 ρ hr hb hc
 ·exact f166 ρ hr
 ·have:=Y_ ρ (hr.wk hb) hE (Nat.le_refl _)
  rw[jc]at this;exact this
 ·have:=Y5 ρ (hr.wk hb) hE (Nat.le_refl _)
  rw[jc]at this;exact this
 ·have:=ZG ρ (hr.wk hb) hE (Nat.le_refl _)
  rw[jc]at this;exact this
 ·exact f170 ρ hr h hh
 ·exact f171 ρ hr h hh
 ·exact Xy ρ hr hb
 ·exact f173 ρ hr hb h hh
 ·exact Yn hS hN ρ hr hb h hh few
 ·exact aaq ρ hr hb hc iu h hh
theorem Ah (hi:i<12):ruleGo l r (12 - i) i=if kM i l r then ruleGo l r (12 - (i+1)) (i+1) else mc i:=by
 rw[show 12 - i=(12 - (i+1))+1 by omega];rfl
theorem f64 (hS:kL) (hN:kJ) (ρ:aK) (hr:cU M b r cs) (hb:b<=nx) (hc:dV r.p<=1000) (iu:gI r.p) (h:cZ M lo hi m l) (hh:hi<=nx) (few:l.length<=1000) :
 ar am ρ 64 [.mp m 0,.agg cs] M nx fun o=>o.1 = .int .i64 (eA l r)/\cZ o.2.1 lo o.2.2 m (if eA l r=0 then l++[r] else l)/\aq lo M o.2.1/\nx<=o.2.2:=by
 have mo:lo<=m/\m<hi:=by obtain⟨_,_,_,_,_,_,_,_,h⟩:=h;exact⟨h.lo_m,h.m_hi⟩
 have mP:=hr;obtain⟨pk,pa,pb,pv,ve,rfl,⟨p1,p2⟩,⟨q1,q2⟩,_,_⟩:=hr.cells;refine ar.wk 27 [.tmp 4] Tryz.func64 ?_;refine lO cD p1 p2 q1 q2 ?_;refine gQ (P2 ρ _ _) ?_;rintro⟨u,M1,n1⟩ ⟨k,g1,g2,g3,g4,g5,g6⟩;simp only at g1 g2 g3 g4 g5 g6;subst g1;have Qw:aq nx M M1:=((aq.refl nx M).set (Nat.le_refl _) _).trans (g5.le Z);have sQ:=g5 nx Z;rw[ao,if_pos rfl]at sQ;have cw:bE M1 n1 (.sl k 2 0 12 12) 2 12 yt:=⟨Z,.inr ⟨k,0,12,yt,rfl,g3,by unfold vR;rw[g4],af,rfl⟩⟩;refine dt cD ?_;refine aC (fun m' s=>∃i:Nat,i<=12/\m'=12 - i/\ruleGo l r (12 - i) i=eA l r/\gG s.env 0=some (.mp m 0)/\gG s.env 3=some (.mp nx 0)/\gG s.env 9=some (.sl k 2 0 12 12)/\gG s.env 10=some (.int .i64 12)/\gG s.env 11=some (.int .i64 i)/\aq n1 M1 s.M/\n1<=s.nx)
  12 ⟨0,Z,Z,rfl,?_⟩ ?_
 ·refine dt cD ?_
  exact⟨O,Z⟩
 ·rintro m' ⟨env,M',aF⟩ ⟨i,hi',ir,pA,e0,e3,e9,dx,kW,ha,hn⟩
  simp only at e0 e3 e9 dx kW ha hn;have NQ:=(ha nx Z).trans sQ;have T8:aq nx M M':=Qw.trans (ha.le Z);by_cases aL:(i:Int)<12
  ·have aP:i<12:=Z
   obtain⟨n,o,jw,bC,aU⟩:=cw.elem (P:=am) aP (t:=223) (t':=227) Ma.2.2.2.1 Le.1;have aU:=aU M' ha;rw[EQ i aP]at aU;have bV:=eF i;have bw:=Ah (l:=l) (r:=r) aP;refine rf cD e0 e3 e9 dx kW aL bC aU NQ ?_;refine lG (T3 hS hN ρ (mP.agr ((((T8.set (show nx<=aF+3 by omega) _).set (show nx<=aF+3 by omega) _)).le hb)) Z hc iu (h.agr ((((T8.set (show nx<=aF+3 by omega) _).set (show nx<=aF+3 by omega) _)).le hh) (Nat.le_refl _)) Z few aP) fun M2 n2 k2 k3=>?_
   have y:=k2 (aF+3) Z;rw[ao,if_pos rfl]at y;have jX:aq n1 M1 M2:=((ha.set (show n1<=aF+3 by omega) _).set (show n1<=aF+3 by omega) _).trans (k2.le Z);cases hq:kM i l r with
   | true =>
     refine oq cD e0 e3 e9 dx kW hq bV ?_;exact⟨12 - (i+1),Z,i+1,Z,rfl,by rw[<-pA,bw,hq];rfl,rfl,jX,Z⟩
   | false =>
     refine oq cD e0 e3 e9 dx kW hq y ?_;have hrn:eA l r=mc i:=by rw[<-pA,bw,hq];rfl
     have cf:mc i≠0:=by unfold mc;split<;>(try split)<;>omega
     have haF:aq nx M M2:=Qw.trans (jX.le Z);rw[hrn,if_neg cf];exact⟨rfl,h.agr (haF.le hh) Z,haF.le Z,Z⟩
  ·have gB:i=12:=Z
   subst gB;have Z4:eA l r=0:=pA.symm;refine oq cD e0 e3 e9 dx kW aL NQ ?_;refine gQ (f114 ρ (mP.agr (T8.le hb)) (h.agr (T8.le hh) (Nat.le_refl _)) Z few) ?_;rintro⟨u,M2,n2⟩ ⟨k1,k2,k3,k4⟩;simp only at k1 k2 k3 k4;subst k1;refine dt cD ?_;rw[Z4,if_pos rfl];exact⟨rfl,k2.agr (aq.refl _ _) Z,(T8.le Z).trans k3,Z⟩
def R2 (r:aR):Prop:=dV r.p<=1000/\gI r.p
def Id (L:List aR) (n:Nat) (rl:Int):Prop :=
 (∀j r,j<n->L[j]?=some r->eA (L.take j) r=0)/\((n=L.length/\rl=0)\/∃r,L[n]?=some r/\eA (L.take n) r=rl/\rl≠0)
theorem Jd (hm:nx<=m) (hM:gG M m=some (.row [.nilm,.nils,.nils,.int .i64 0,.nilm])):cZ M nx (m+1) m [] :=
 ⟨fun _=>.mach,[],.nilm,.nils,.nils,.nilm,[],[],hm,Z,rfl,hM,.inl ⟨rfl,rfl⟩,⟨aa,rfl,.inl ⟨rfl,rfl⟩⟩,⟨aa,rfl,.inl ⟨rfl,rfl⟩⟩,fun i t x h=>by simp at h,fun t x h=>(h rfl).elim,.nil,.inl ⟨rfl,rfl⟩,fun t=>rfl,Nat.le_refl _⟩
theorem SS (hS:kL) (hN:kJ) (ρ:aK) {v:XV} {L:List aR} (hL:cP M b v L) (hb:b<=nx) (few:L.length<=1000) (fit:∀r ∈ L,R2 r) :
 ar am ρ 28 [v] M nx fun o=>(∃n rl,o.1 = .tup [.int .i64 (n:Nat),.int .i64 rl]/\Id L n rl)/\aq nx M o.2.1/\nx<=o.2.2:=by
 obtain⟨row,cw,gS⟩:=hL;have ay:=fun N=>cw.len (P:=am) (t:=22) jp.2.2.2.2.2 N
 have Zf:=cw.cell;refine ar.wk 24 [.tmp 2,.tmp 3] Tryz.func28 ?_;refine fM az ay ?_;refine aC (fun m' s=>∃i:Nat,i<=L.length/\m'=L.length - i/\(∀j r,j<i->L[j]?=some r->eA (L.take j) r=0)/\gG s.env 0=some v/\gG s.env 4=some (.mp (nx+2) 0)/\gG s.env 8=some v/\gG s.env 9=some (.int .i64 L.length)/\gG s.env 10=some (.int .i64 i) /\
  cZ s.M nx s.nx (nx+2) (L.take i)/\aq nx M s.M/\nx+3<=s.nx)
  L.length ⟨0,Z,Z,?_⟩ ?_
 ·refine dt az ?_
  refine⟨fun j r hj=>Z,?_,O,Z⟩;exact(Jd Z J).agr (aq.refl _ _) Z
 ·rintro m' ⟨env,M',aF⟩ ⟨i,hi,ir,Gs,e0,e4,e8,e9,dx,oO,ha,hn⟩
  simp only at e0 e4 e8 e9 dx oO ha hn;by_cases aL:(i:Int)<L.length
  ·have aP:i<L.length:=Z
   obtain⟨r,D_⟩:∃r,L[i]?=some r:=⟨L[i],by simp[aP]⟩;obtain⟨n,o,jw,bC,aU⟩:=cw.elem (P:=am) aP (t:=22) (t':=47) jp.2.2.2.1 iq.1;have aU:=aU M' (ha.le hb);have mP:=(gS i r D_).agr (ha.le hb);obtain⟨pk,pa,pb,pv,ve,dI,⟨p1,p2⟩,⟨q1,q2⟩,_,_⟩:=mP.cells;rw[dI]at aU mP;have bV:=eF i;obtain⟨f1,f2⟩:=fit r (mem_of_getElem? D_);have kB:L.take (i+1)=L.take i++[r]:=by rw[take_add_one,D_];rfl
   refine yq az e0 e4 e8 e9 dx aL bC aU p1 p2 (aI q1 q2) ?_;generalize xu:ap (ap M' _ _) _ _=M1;have a1:aq aF M' M1:=by rw[<-xu];exact O
   clear xu;refine gQ (f64 hS hN ρ (mP.agr (a1.le Z)) Z f1 f2 (oO.agr a1 (Nat.le_refl _)) Z (by rw[length_take];omega)) ?_;rintro⟨u,M2,n2⟩ ⟨k1,k2,k3,k4⟩;simp only at k1 k2 k3 k4;subst k1;have jX:aq nx M M2:=(ha.trans (a1.le Z)).trans k3;by_cases hq:eA (L.take i) r=0
   ·rw[if_pos hq,<-kB]at k2
    refine oq az e0 e4 e8 e9 dx hq bV ?_;refine⟨L.length - (i+1),Z,i+1,Z,rfl,fun j r' hj sA=>?_,rfl,k2.agr (aq.refl _ _) Z,jX,Z⟩;by_cases kX:j=i
    ·subst kX
     rw[D_]at sA;cases sA;exact hq
    ·exact Gs j r' Z sA
   ·refine ky az e0 e4 e8 e9 dx hq ?_
    exact⟨⟨i,_,rfl,Gs,.inr ⟨r,D_,rfl,hq⟩⟩,jX,Z⟩
  ·have gB:i=L.length:=Z
   refine oq az e0 e4 e8 e9 dx aL ay ?_;subst gB;exact⟨⟨_,_,rfl,Gs,.inl ⟨rfl,rfl⟩⟩,ha,Z⟩
end Go.Xs
namespace Go.Xs
open List Nat Option
variable{S:HS}{r:aR}
noncomputable section
open Go.Proofs
def dL (L:List aR):Nat->HS
 | 0=>vF
 | n+1=>match L[n]? with | some r=>(dL L n).take n r | none=>dL L n
theorem zt (S:HS) (n:Nat) (cr:List XV) (i:Int) (r:aR):∀k,(S.wr n cr).preds i r k=(S.preds i r k).wr n cr
 | 0=>rfl
 | k+1=>by
   unfold HS.preds;rw[zt S n cr i r k];cases r.es[k]? <;> rfl
theorem Dw (S:HS) (n:Nat) (cr:List XV) (i:Nat) (r:aR):(S.wr n cr).take i r=(S.take i r).wr n cr:=by
 unfold HS.take;by_cases h1:r.kind=1
 ·rw[if_pos h1,if_pos h1];rfl
 rw[if_neg h1,if_neg h1];by_cases h2:r.kind=2
 ·rw[if_pos h2,if_pos h2];rfl
 rw[if_neg h2,if_neg h2];by_cases h3:r.kind=3\/r.kind=4
 ·rw[if_pos h3,if_pos h3];rfl
 rw[if_neg h3,if_neg h3];by_cases h5:r.kind=5
 ·rw[if_pos h5,if_pos h5];exact zt ..
 rw[if_neg h5,if_neg h5];by_cases h6:r.kind=6
 ·rw[if_pos h6,if_pos h6]
  show (match S.txs[((S.num r.t).getD 0).toNat]? with | some a=>_ | none=>_)=_;cases S.txs[((S.num r.t).getD 0).toNat]? <;> rfl
 rw[if_neg h6,if_neg h6];show (match S.txs[((S.num r.t).getD 0).toNat]? with | some a=>_ | none=>_)=_;cases S.txs[((S.num r.t).getD 0).toNat]? <;> rfl
theorem kK.wr (h:kK S r) (n:Nat) (cr:List XV):kK (S.wr n cr) r:=⟨h.kind,h.tx,h.txs,h.mods,h.com,h.looks,h.cnt⟩
theorem kK.addr (h:kK S r) (cs:List XV):kK (S.addr cs) r:=⟨h.kind,h.tx,h.txs,h.mods,h.com,h.looks,h.cnt⟩
structure pS (S:HS):Prop where
 here:∀(k:Nat) (x j:Int),j ∈ S.places k x->0<=j/\j<S.mods.length
 few:S.txs.length<=100000/\S.mods.length<=100000/\∀k x,(S.places k x).length<=100000
def dl (S:HS) (k:Nat) (j:Nat):Prop:=∃x,(S.places k x).getLast?=some (j:Int)
def jN (L:List aR):HS:=(dL L L.length).done L.length (dL L L.length).txs.length fun j=>∃k,k<(dL L L.length).txs.length/\dl (dL L L.length) k j
def Ti (r:aR):Prop:=R2 r/\r.es.length<=1000
theorem wo {α β:Type} {f:α->β}:∀{l:List α},(l.map f).Nodup->∀{a b:α},a ∈ l->b ∈ l->f a=f b->a=b
 | [],_,a,b,ha,_,_=>by cases ha
 | c::l,hn,a,b,ha,hb,h=>by
   rw[map_cons,nodup_cons]at hn;rcases mem_cons.1 ha with e1 | Jo <;> rcases mem_cons.1 hb with e2 | rA
   ·rw[e1,e2]
   ·exact(hn.1 (by rw[<-e1,h];exact mem_map.2 ⟨b,rA,rfl⟩)).elim
   ·exact(hn.1 (by rw[<-e2,<-h];exact mem_map.2 ⟨a,Jo,rfl⟩)).elim
   ·exact wo hn.2 Jo rA h
theorem DH {α:Type} {f:α->Nat} {seen:List Nat} {b:Nat}:∀(l:List α),(l.filter fun e=>decide (f e ∉ seen++[b])).length<=(l.filter fun e=>decide (f e ∉ seen)).length
 | []=>Nat.le_refl _
 | a::l=>by
   have ih:=DH (f:=f) (seen:=seen) (b:=b) l;rw[filter_cons,filter_cons];by_cases h:f a ∈ seen
   ·have h':f a ∈ seen++[b]:=mem_append_left _ h
    simp only[h,h',not_true_eq_false,decide_false];simpa using ih
   ·by_cases h':f a ∈ seen++[b]
    ·simp only[h,h',not_true_eq_false,not_false_eq_true,decide_false,decide_true,if_true,length_cons]
     simp only[Bool.false_eq_true,if_false];omega
    ·simp only[h,h',not_false_eq_true,decide_true,if_true,length_cons]
     omega
theorem Dp {α:Type} {f:α->Nat} {seen:List Nat}:∀{l:List α} {e:α},f e ∉ seen->e ∈ l->(l.filter fun a=>decide (f a ∉ seen++[f e])).length<(l.filter fun a=>decide (f a ∉ seen)).length
 | [],e,_,he=>by cases he
 | a::l,e,zq,he=>by
   rw[filter_cons,filter_cons];rcases mem_cons.1 he with rfl | he
   ·have h':f e ∈ seen++[f e]:=aa
    have:=DH (f:=f) (seen:=seen) (b:=f e) l;simp only[zq,h',not_true_eq_false,not_false_eq_true,decide_false,decide_true,if_true,length_cons];simp only[Bool.false_eq_true,if_false];omega
   ·have ih:=Dp (f:=f) zq he
    by_cases h:f a ∈ seen
    ·have h':f a ∈ seen++[f e]:=mem_append_left _ h
     simp only[h,h',not_true_eq_false,decide_false];simpa using ih
    ·by_cases h':f a ∈ seen++[f e]
     ·simp only[h,h',not_true_eq_false,not_false_eq_true,decide_false,decide_true,if_true,length_cons]
      simp only[Bool.false_eq_true,if_false];omega
     ·simp only[h,h',not_false_eq_true,decide_true,if_true,length_cons]
      omega
structure KM (L:List aR) (M:Hp) (nx b:Nat) (o:ew):Prop where
 post:∃n rl,Id L n rl/\nx<=o.2.2/\((rl≠0/\o.1 = .tup [.nilp,.int .i64 (n:Nat),.int .i64 rl]/\aq nx M o.2.1) \/
  (rl=0/\∃h N cr,o.1 = .tup [.mp h 0,.int .i64 (n:Nat),.int .i64 0]/\HF o.2.1 o.2.2 N nx h ((jN L).wr L.length cr)/\aq nx M o.2.1 /\
    ∀j r,L[j]?=some r->eL o.2.1 (iJ o.2.2 N) r ((cr.drop (j*11)).take 11)))
theorem f9 (hS:kL) (hN:kJ) (ρ:aK) (j9:ρ.det=false) {M:Hp} {nx b:Nat} {v:XV} {L:List aR} (hL:cP M b v L) (hb:b<=nx) (few:L.length<=1000) (fit:∀r ∈ L,Ti r)
 (hT:(∀j r,L[j]?=some r->eA (L.take j) r=0)->(∀i r,L[i]?=some r->kK (dL L i) r)/\pS (dL L L.length)) :
 ar am ρ 9 [v] M nx (KM L M nx b):=by
 have Zf:cellsOf v=[v]/\ax v=true:=by
  obtain⟨row,cw,_⟩:=hL;exact cw.cell
 refine ar.wk 97 [.tmp 2,.tmp 3,.tmp 4] Tryz.func9 ?_;refine dt rX ?_;refine gQ (SS hS hN ρ (hL.agr (aq.refl _ _)) Z few fun r hr=>(fit r hr).1) ?_;rintro⟨u,M1,n1⟩ ⟨⟨n,rl,k1,k2⟩,k3,k4⟩;simp only at k1 k3 k4;subst k1;have NK:aq nx M M1:=k3.le Z;by_cases je:rl=0
 ·subst je
  have ay:∀N,kZ am N 22 v=some ⟨.int .i64 L.length,[],[]⟩:=fun N=>by
   obtain⟨row,cw,_⟩:=hL;exact cw.len (P:=am) (t:=22) jp.2.2.2.2.2 N
  have Gs:∀j r,L[j]?=some r->eA (L.take j) r=0:=by
   obtain⟨q1,q2 | ⟨r,_,q3,q4⟩⟩:=k2
   ·intro j r hj
    have:=(List.getElem?_eq_some_iff.1 hj).1;exact q1 j r Z hj
   ·exact(q4 rfl).elim
  obtain⟨hT,Qv⟩:=hT Gs;clear Gs;refine fM rX ay ?_;generalize rz:ap (ap (ap (ap M1 (n1+7) (bx.map [] 0)) (n1+8) (bx.map [] 0)) (n1+9) (bx.map [] 0)) (n1+11) _=M0;obtain⟨N0,hF0,YN⟩:=Pj (M:=M0) (nx:=n1+12) (lo:=nx) (h:=n1+11) (a:=n1+7) (b:=n1+8) (c:=n1+9) Z Z Z Z Z Z Z Z Z Z Z Z Z Z (by rw[<-rz];exact J) (by rw[<-rz];exact J) (by rw[<-rz];exact J) (by rw[<-rz];exact J);have YC:aq nx M M0:=by rw[<-rz];exact(by(repeat (refine aq.set ?_ Z _));exact NK)
  clear rz;refine aC (fun m' s=>∃(i:Nat) (N:Hp) (cr:List XV),i<=L.length/\m'=L.length - i/\gG s.env 0=some v/\gG s.env 5=some (.int .i64 n)/\gG s.env 7=some (.mp (n1+11) 0)/\gG s.env 28=some v/\gG s.env 29=some (.int .i64 L.length)/\gG s.env 30=some (.int .i64 i) /\
   HF s.M s.nx N nx (n1+11) ((dL L i).wr i cr)/\aq nx M s.M/\(∀j r,j<i->L[j]?=some r->eL s.M (iJ s.nx N) r ((cr.drop (j*11)).take 11))/\n1+12<=s.nx)
   L.length ⟨0,N0,[],Z,Z,?_⟩ ?_
  ·refine dt rX ?_
   exact⟨hF0.agr (aq.refl _ _) Z,YC,fun j r hj=>Z,Z⟩
  ·rintro m' ⟨env,M',aF⟩ ⟨i,N,cr,hi,ir,e0,e5,e7,NG,NH,NI,hF,Ur,RO,hn⟩
   simp only at e0 e5 e7 NG NH NI hF Ur RO hn;by_cases aL:(i:Int)<L.length
   ·have aP:i<L.length:=Z
    obtain⟨r,D_⟩:∃r,L[i]?=some r:=⟨L[i],by simp[aP]⟩;obtain⟨row,cw,gS⟩:=hL.agr (Ur.le hb);obtain⟨n,o,jw,bC,aU⟩:=cw.elem (P:=am) aP (t:=22) (t':=47) jp.2.2.2.1 iq.1;have aU:=aU M' (aq.refl _ _);have mP:=gS i r D_;obtain⟨pk,pa,pb,pv,ve,dI,⟨p1,p2⟩,⟨q1,q2⟩,_,_⟩:=mP.cells;rw[dI]at aU mP;clear gS cw dI;have bV:=eF i;obtain⟨⟨f1,f2⟩,fA⟩:=fit r (mem_of_getElem? D_);have aQ:=hT i r D_;clear hT fit hL NK k3 YC ay;refine yq rX e0 e5 e7 NG NH NI aL bC aU p1 (aI p2 (aI q1 q2)) ?_;generalize aW:ap (ap M' (aF+4) _) (aF+4) _=M2;have a2:aq (aF+4) M' M2:=by rw[<-aW];exact O
    have y2:gG M2 (aF+4)=some (.row [.int .i64 r.kind,.int .u64 r.t,.int .u64 r.x,.int .u64 r.w,.int .u64 r.n,.int .u64 r.v,.int .i64 pk,.int .u64 pa,.int .u64 pb,pv,ve]):=by rw[<-aW];exact J
    clear aW;refine gQ (Tv ρ (mP.agr (a2.le Z)) (show b<=aF+8 by omega) Z Z) ?_;rintro⟨u,M3,n3⟩ ⟨⟨cs',g1,g2⟩,g3,g4⟩;simp only at g1 g2 g3 g4;subst g1;obtain⟨pk',pa',pb',pv',ve',yJ,⟨MR,MS⟩,⟨MT,MU⟩,_,_⟩:=(g2.lt (b:=n3) fun k hk=>hk.2).cells;have cF:cs'.length=11:=by rw[yJ];rfl
    have a3:aq (aF+4) M' M3:=a2.trans (g3.le Z);have y3:=(g3 (aF+4) Z).trans y2;have hF3:HF M3 n3 N nx (n1+11) ((dL L i).wr i cr):=hF.agr (a3.le Z) Z;have hNb:gG N (aF+4)=none:=hF.out Z;have Q2:∀q,PK b (aF+8) n3 q->iJ n3 N q/\q≠aF+4:=fun q hq=>by
     obtain⟨h1,h2⟩:(q<b\/aF+8<=q)/\q<n3:=hq;refine⟨⟨h2,?_⟩,Z⟩;cases hn:gG N q with
     | none=>rfl
     | some x =>
       have:=hF.lt q x hn;have:=hF.ge q x hn;omega
    have Vt:dL L (i+1)=(dL L i).take i r:=by
     conv=>lhs;unfold dL
     rw[D_]
    obtain⟨M4,Gi⟩:∃M4,M4=ap M3 (aF+4) (.row cs'):=⟨_,rfl⟩;have o4:∀q,q≠aF+4->gG M4 q=gG M3 q:=fun q hq=>by rw[Gi,ao,if_neg fun e=>hq e.symm]
    have a4:aq (aF+4) M3 M4:=fun q hq=>o4 q Z
    have y4:gG M4 (aF+4)=some (.row cs'):=by rw[Gi,ao,if_pos rfl]
    have hF4:HF M4 n3 N nx (n1+11) ((dL L i).wr i cr):=hF3.keep (fun k x hk=>o4 k fun e=>by rw[e,hNb]at hk;cases hk) (Nat.le_refl _);have g5:eL M4 (iJ n3 N) r cs':=g2.keep fun q hq=>⟨o4 q (Q2 q hq).2,(Q2 q hq).1⟩
    have Ug:∀j r',j<i->L[j]?=some r'->eL M4 (iJ n3 N) r' ((cr.drop (j*11)).take 11):=fun j r' h1 h2=>(RO j r' h1 h2).keep fun q hq=>by
     have:=hq.1;exact⟨(o4 q Z).trans (a3 q Z),Z,hq.2⟩
    obtain⟨vrec,c1,nk,c3,c4,vm,c6,om,old,bA,hhn,AV,HV,MH⟩:=hF4.addr cF (show i<=100000 by omega);have hd:aw (n1+11) (aF+4)=False/\aw (aF+4) (n1+11)=False:=by simp only[aw,eq_iff_iff,iff_false];omega
    have JI:=(o4 (n1+11) Z).symm.trans bA;have yG:cr.length=i*11:=AV;clear g2 g3 y2 a2 RO hF hF3 hF4 Q2 mP;rcases HV with ⟨rfl,ZR,rfl⟩ | ⟨sk,rfl,bT,VQ,cf,aal,aaj,aai,rfl⟩
    ·rw[yJ]at Gi
     refine yq rX e0 e5 e7 NG NH NI y3 JI hd MR (aI MS (aI MT (aI MU yJ))) ?_;rw[<-Gi];refine⟨bn _ _ _ _ _ _ (fun q hq=>by simp only[mem_singleton]at hq ⊢;omega) (fun q hq=>aa) (fun q hq=>by simp at hq),?_⟩;have AW:i=0:=ZR;have Ze:cr=[]:=length_eq_zero_iff.1 Z;generalize mR:ap (ap (ap M4 (n3+7) _) (n3+8) _) (n1+11) _=M5;obtain⟨N5,NM,TW⟩:=MH M5 (n3+15) (n3+8) Z Z (fun j h1 h2 _=>by rw[<-mR];exact J) (by rw[<-mR];subst AW;exact J) (by rw[<-mR];show _=some (bx.row (cr++cs'));rw[Ze,yJ];exact J);have YI:aq (n1+11) M4 M5:=by rw[<-mR];exact O
     clear mR Gi MH;have T4:=g5.aside TW (q:=iJ (n3+15) N5) fun q hq=>⟨by have:=hq.1;omega,hq.2⟩
     rw[<-yJ];refine gQ (Yt ρ T4 NM i ((aQ.wr i cr).addr _)) ?_;rintro⟨u,M6,n6⟩ ⟨k1,MM,N6,k3,MN,k5⟩;simp only at k1 MM k3 MN k5;subst k1;rw[show (((dL L i).wr i cr).addr cs')=(dL L i).wr (i+1) (cr++cs') from rfl,Dw,<-Vt]at k3;refine oq rX e0 e5 e7 NG NH NI bV ?_;refine⟨L.length - (i+1),Z,i+1,N6,cr++cs',Z,rfl,rfl,k3.agr (aq.refl _ _) Z,((Ur.trans (a3.le Z)).trans (a4.le Z)).trans ((YI.le Z).trans (k5.le Z)),fun j r' hj sA=>?_,Z⟩;by_cases kX:j=i
     ·subst kX
      rw[D_]at sA;cases sA;rw[drop_append_of_le_length Z,drop_eq_nil_of_le Z,nil_append,take_of_length_le Z];exact T4.aside MN fun q hq=>⟨by have:=hq.1;omega,hq.2⟩
     ·have mS:j<i:=Z
      have hjm:(j+1)*11<=i*11:=mul_le_mul_right _ mS;rw[drop_append_of_le_length Z,take_append_of_le_length (by rw[length_drop];omega)];exact((Ug j r' mS sA).aside TW (q:=iJ (n3+15) N5) fun q hq=>⟨by have:=hq.1;omega,hq.2⟩).aside MN fun q hq=>⟨by have:=hq.1;omega,hq.2⟩
    ·have aak:sk≠aF+4:=fun e=>aaj (by rw[e];exact hNb)
     have UN:gG M3 sk=some (.row cr):=(o4 sk aak).symm.trans aal;have kB:List.take (i*11) cr=cr:=take_of_length_le Z;have py:aw (n1+11) (aF+4)=False/\aw (aF+4) (n1+11)=False/\aw (n1+11) sk=False/\aw sk (n1+11)=False/\aw (aF+4) sk=False/\aw sk (aF+4)=False:=by simp only[aw,eq_iff_iff,iff_false];omega
     have hn1':1<=i:=bT;have Uq:((dL L i).wr i cr).nrec=i:=rfl;rw[Uq]at JI;rw[yJ]at Gi;refine yq rX e0 e5 e7 NG NH NI y3 JI UN yG (aI kB (aI py (aI MR (aI MS (aI MT (aI MU yJ)))))) ?_;rw[<-Gi];refine⟨bn _ _ _ _ _ _ (fun q hq=>by simp only[mem_singleton]at hq ⊢;omega) (fun q hq=>aa) (fun q hq=>by simp at hq),?_⟩;generalize mR:ap (ap (vO (ap M4 (n3+7) _) sk) (n3+8) _) (n1+11) _=M5;obtain⟨N5,NM,TW⟩:=MH M5 (n3+15) (n3+8) Z Z (fun j h1 h2 h3=>by
      have h4:j≠sk:=by simpa using h3
      rw[<-mR];exact J) (by rw[<-mR];exact J) (by rw[<-mR];show _=some (bx.row (cr++cs'));rw[yJ];exact J)
     have hskx:nx<=sk:=aai;have YI:aq nx M4 M5:=by rw[<-mR];exact fun q hq=>J
     clear mR Gi MH;have T4:=g5.aside TW (q:=iJ (n3+15) N5) fun q hq=>⟨by have:=hq.1;omega,hq.2⟩
     rw[<-yJ];refine gQ (Yt ρ T4 NM i ((aQ.wr i cr).addr _)) ?_;rintro⟨u,M6,n6⟩ ⟨k1,MM,N6,k3,MN,k5⟩;simp only at k1 MM k3 MN k5;subst k1;rw[show (((dL L i).wr i cr).addr cs')=(dL L i).wr (i+1) (cr++cs') from rfl,Dw,<-Vt]at k3;refine oq rX e0 e5 e7 NG NH NI bV ?_;refine⟨L.length - (i+1),Z,i+1,N6,cr++cs',Z,rfl,rfl,k3.agr (aq.refl _ _) Z,((Ur.trans (a3.le Z)).trans (a4.le Z)).trans (YI.trans (k5.le Z)),fun j r' hj sA=>?_,Z⟩;by_cases kX:j=i
     ·subst kX
      rw[D_]at sA;cases sA;rw[drop_append_of_le_length Z,drop_eq_nil_of_le Z,nil_append,take_of_length_le Z];exact T4.aside MN fun q hq=>⟨by have:=hq.1;omega,hq.2⟩
     ·have mS:j<i:=Z
      have hjm:(j+1)*11<=i*11:=mul_le_mul_right _ mS;rw[drop_append_of_le_length Z,take_append_of_le_length (by rw[length_drop];omega)];exact((Ug j r' mS sA).aside TW (q:=iJ (n3+15) N5) fun q hq=>⟨by have:=hq.1;omega,hq.2⟩).aside MN fun q hq=>⟨by have:=hq.1;omega,hq.2⟩
   ·have gB:i=L.length:=Z
    obtain⟨S,NO⟩:∃S,S=(dL L L.length).wr L.length cr:=⟨_,rfl⟩;rw[gB,<-NO]at hF;have Qv:pS S:=by rw[NO];exact⟨Qv.here,Qv.few⟩
    rw[gB]at RO;have Zd:∀j r,L[j]?=some r->eL M' (iJ aF N) r ((cr.drop (j*11)).take 11):=fun j r hj=>RO j r (List.getElem?_eq_some_iff.1 hj).1 hj
    clear RO hT hF0 YN YC hL;obtain⟨mu,lt,ge,top,htop,tag,vrec,vtxs,vcom,vmods,vlook,nk,vk,ok,cn,cv,co,ptrs,lnum,lver,lobj,H⟩:=hF;have bA:gG M' (n1+11)=some (.row [vrec,vtxs,.mm nk,vcom,vmods,.mm vk,vlook,.mm ok]):=(mu _ _ H.row).1;have Xw:=fun N=>(H.txs.sl).len (P:=am) (t:=78) qW.2.2.2.2.2 N
    refine rf rX e0 e5 e7 NG NH NI aL bA Xw ?_;have Vl:=e0;have e5':=e5;have e7':=e7;have hTl:=Qv.few.1;clear e0 e5 e7 NG NH NI bA Xw aL;refine aC (fun m2 s=>∃(k:Nat) (N2:Hp),k<=S.txs.length/\m2=S.txs.length - k/\gG s.env 0=some v/\gG s.env 5=some (.int .i64 n)/\gG s.env 7=some (.mp (n1+11) 0)/\gG s.env 55=some vtxs/\gG s.env 56=some (.int .i64 S.txs.length)/\gG s.env 57=some (.int .i64 k) /\
     Mu N2 s.M/\(∀q x,gG N2 q=some x->q<aF/\nx<=q)/\eM N2 nx top (n1+11) (S.done L.length k fun j=>∃q,q<k/\dl S q j) tag vrec vtxs vcom vmods vlook nk vk ok cn cv co ptrs lnum lver lobj/\gM aF N M' N2 s.M/\aq nx M s.M/\aF<=s.nx)
     S.txs.length ⟨0,N,Z,Z,?_⟩ ?_
    ·refine dt rX ?_
     refine⟨by rw[Vl],by rw[e5'],by rw[e7'],mu,fun q x hq=>⟨lt q x hq,ge q x hq⟩,?_,fun q x h1 h2 h3=>⟨h3,h2⟩,Ur,Z⟩;have:(S.done L.length 0 fun j=>∃q,q<0/\dl S q j)=S:=by
      unfold HS.done;rw[BS,ki (Q:=fun _=>False) (fun j=>aa),Br]
     rw[this];exact H
    ·rintro m2 ⟨env,M2,n2⟩ ⟨k,N2,hk,JE,e0,e5,e7,RC,RE,RF,Rc,RW,H2,Qs,T0,fq⟩
     simp only at e0 e5 e7 RC RE RF Rc H2 Qs T0 fq;by_cases aL:(k:Int)<S.txs.length
     ·have aP:k<S.txs.length:=Z
      obtain⟨a,Y6⟩:∃a,S.txs[k]?=some a:=⟨S.txs[k],by simp[aP]⟩;have Qy:(S.done L.length k fun j=>∃q,q<k/\dl S q j).txs[k]?=some a:=by
       show (xx _ _ _)[k]?=_;rw[fw,Y6];simp
      obtain⟨w,Q3,QP⟩:=H2.known k a Qy;obtain⟨rk,mk,cm,lm,rfl,r1,r2,r3,r4,m1,MO,m3,m4,⟨FX,l0⟩,l1⟩:=QP;have ms2:xQ N2 M2:=fun q x h _=>(Rc q x h).1
      have Y3:=H2.txs;rw[show (S.done L.length k fun j=>∃q,q<k/\dl S q j).txs.length=S.txs.length from rp ..]at Y3;obtain⟨q,o,Oc,bC,aU⟩:=(Y3.sub ms2).sl.fldG (P:=am) aP (t:=78) qW.2.2.2.1;have aU:=aU 0 (.mp rk 0) Z (by rw[Nat.mul_one,getElem?_take,if_pos Z,getElem?_drop,Nat.add_zero];exact Q3) 84 1 Cq.1 M2 (aq.refl _ _);rw[Nat.add_zero]at aU;have Gr:=(Rc _ _ r4).1;have Uw:=(Rc _ _ m4).1;have m4x:=m4;have g0:=e0;have g5:=e5;have g7:=e7;have g55:=RC;have g56:=RE;have g57:=RF;simp only[d_,cons_append,nil_append]at Gr;have dmr:mk≠rk:=aZ m3 r3 aa;have j8:aw rk mk=False/\aw mk rk=False:=by simp only[aw,eq_iff_iff,iff_false];omega
      have bV:=eF k;have NZ:∀N,kZ am N 22 v=some ⟨.int .i64 L.length,[],[]⟩:=fun N=>ay N
      have UG:=Q3;clear Y3 Q3;have QQ:∀q,q<top->tag q ≠ .known k->q≠rk:=fun q _ h e=>h (by rw[e];exact r3)
      by_cases oN:a.s=3
      case' pos =>
       refine yq rX e0 e5 e7 RC RE RF aL bC aU Gr (aI Uw (aI oN (aI NZ (aI j8 (aI @qv (aI @s6 (aI @pP (aI @tf Co.2.2.2.2)))))))) ?_;obtain⟨it,JV⟩:∃it,it=n2+21:=⟨_,rfl⟩;rw[<-JV];generalize oM:ap M2 rk _=M3;have Z7:gG M3 rk=some (.row (d_ { a with e:=L.length } ++ [.mm mk])):=by rw[<-oM];simp only[d_,cons_append,nil_append,oN];exact J
       have o3:∀q,q≠rk->gG M3 q=gG M2 q:=fun q hq=>by rw[<-oM];exact J
       have Zu:aF<=it/\it+1<=n2+22:=Z;clear oM JV;obtain⟨N3,AP⟩:∃N3,N3=ap N2 rk (.row (d_ { a with e:=L.length } ++ [.mm mk])):=⟨_,rfl⟩;obtain⟨mu3,lt3',A3⟩:=zl Rc (fun q x h=>(RW q x h).1) (show rk<aF by omega) (by rw[r4];simp) (x:=.row (d_ { a with e:=L.length } ++ [.mm mk])) rfl Z7 (fun q _ hq=>o3 q hq);rw[<-AP]at mu3 lt3' A3;have K3:∀q,q<top->tag q ≠ .known k->gG N3 q=gG N2 q:=fun q h1 h2=>by rw[AP,ao,if_neg fun e=>QQ q h1 h2 e.symm]
       have lt3:∀q x,gG N3 q=some x->q<aF/\nx<=q:=fun q x h=>by
        rw[AP,ao]at h;split at h
        ·rename_i e;subst e;omega
        ·exact RW q x h
       have G3:aq nx M M3:=fun q hq=>(o3 q Z).trans (T0 q hq)
       have A3':gM aF N M' N3 M3:=Qs.trans A3 (Nat.le_refl _);have H3:eM N3 nx top (n1+11) (S.done L.length (k+1) fun j=>∃q,q<k/\dl S q j) tag vrec vtxs vcom vmods vlook nk vk ok cn cv co ptrs lnum lver lobj:=by
        refine H2.setTx (ts:=xx L.length (k+1) S.txs) (i:=k) (a:=a) (a':={ a with e:=L.length }) (by rw[rp];exact(rp ..).symm) (fun j hj=>?_) ?_ r3 UG Qy r4 (fun q h1 h2=>by rw[AP,ao,if_neg fun e=>h2 e.symm]) (by rw[AP,ao,if_pos rfl])
        ·show _=(xx _ _ _)[j]?
         rw[tU,getElem?_modify];have:¬ k=j:=fun e=>hj e.symm
         cases (xx (L.length:Int) k S.txs)[j]? <;> simp[this]
        ·rw[fw,Y6]
         simp[oN]
       have ZP:gG M3 mk=some (.map (cx vX lm) cm):=(o3 mk dmr).trans Uw;have oN:=True.intro
      case' neg =>
       refine yq rX e0 e5 e7 RC RE RF aL bC aU Gr (aI Uw (aI oN (aI NZ (aI j8 (aI @qv (aI @s6 (aI @pP (aI @tf Co.2.2.2.2)))))))) ?_;obtain⟨it,JV⟩:∃it,it=n2+14:=⟨_,rfl⟩;rw[<-JV];obtain⟨M3,oM⟩:∃M3,M3=M2:=⟨_,rfl⟩;obtain⟨N3,AP⟩:∃N3,N3=N2:=⟨_,rfl⟩;have Zu:aF<=it/\it+1<=n2+15:=Z;rw[<-oM];have mu3:Mu N3 M3:=by rw[AP,oM];exact Rc
       have K3:∀q,q<top->tag q ≠ .known k->gG N3 q=gG N2 q:=fun q h1 h2=>by rw[AP]
       have lt3:∀q x,gG N3 q=some x->q<aF/\nx<=q:=by rw[AP];exact RW
       have G3:aq nx M M3:=by rw[oM];exact T0
       have A3':gM aF N M' N3 M3:=by rw[oM,AP];exact Qs
       have H3:eM N3 nx top (n1+11) (S.done L.length (k+1) fun j=>∃q,q<k/\dl S q j) tag vrec vtxs vcom vmods vlook nk vk ok cn cv co ptrs lnum lver lobj:=by
        have:xx (L.length:Int) (k+1) S.txs=xx L.length k S.txs:=by
         refine ext_getElem? fun j=>?_
         rw[tU,getElem?_modify];by_cases hj:k=j
         ·subst hj
          rw[fw,Y6];simp[oN]
         ·cases (xx (L.length:Int) k S.txs)[j]? <;> simp[hj]
        rw[AP];unfold HS.done at H2 ⊢;rw[this];exact H2
       have ZP:gG M3 mk=some (.map (cx vX lm) cm):=by rw[oM];exact Uw
       clear oM AP JV;have oN:=True.intro
      all_goals
       clear Qy bC aU Gr j8 H2 Qs T0 RW UG oN e0 e5 e7 RC RE RF Uw;refine aC (fun m4 s=>∃(seen:List Nat) (st:Nat) (N4:Hp),m4=(lm.filter fun e=>decide (e.1 ∉ seen)).length/\gG s.env 0=some v/\gG s.env 5=some (.int .i64 n)/\gG s.env 7=some (.mp (n1+11) 0)/\gG s.env 55=some vtxs/\gG s.env 56=some (.int .i64 S.txs.length)/\gG s.env 57=some (.int .i64 k)/\gG s.env 77=some (.mp it 0) /\
        gG s.M it=some (.iter (some mk) cm seen st)/\cm<=st/\Mu N4 s.M/\(∀q x,gG N4 q=some x->q<aF/\nx<=q) /\
        eM N4 nx top (n1+11) (S.done L.length (k+1) fun j=>(∃q,q<k/\dl S q j)\/∃e ∈ lm,e.1 ∈ seen/\(S.places k e.2.1).getLast?=some (j:Int)) tag vrec vtxs vcom vmods vlook nk vk ok cn cv co ptrs lnum lver lobj /\
        (∀q,q<top->tag q ≠ .mods->gG N4 q=gG N3 q)/\gM aF N M' N4 s.M/\aq nx M s.M/\it<s.nx)
        _ ⟨[],cm,N3,rfl,?_⟩ ?_
       ·refine dt rX ?_
        refine⟨g0,g5,g7,g55,g56,g57,Nat.le_refl _,fun q x hq=>?_,lt3,?_,fun _ _ _=>trivial,fun q x h1 h2 h3=>?_,fun q hq=>?_,Z⟩
        ·obtain⟨q1,q2⟩:=mu3 q x hq
         have:=(lt3 q x hq).1;exact⟨by rw[ao,if_neg Z];exact q1,q2⟩
        ·have:(S.done L.length (k+1) fun j=>(∃q,q<k/\dl S q j)\/∃e ∈ lm,e.1 ∈ ([]:List Nat)/\(S.places k e.2.1).getLast?=some (j:Int))=S.done L.length (k+1) fun j=>∃q,q<k/\dl S q j:=by
          unfold HS.done;rw[ki (Q:=fun j=>∃q,q<k/\dl S q j) fun j=>by simp]
         rw[this];exact H3
        ·obtain⟨q1,q2⟩:=A3' q x h1 h2 h3
         exact⟨by rw[ao,if_neg Z];exact q1,q2⟩
        ·rw[ao,if_neg Z];exact G3 q hq
       ·rintro m4 ⟨Yq,M4,n4⟩ ⟨seen,st,N4,VH,f0,gd,f7,WI,SO,Ms,JQ,JB,bw,Oj,V1,H4,K4,A4,G4,QX⟩
        simp only at f0 gd f7 WI SO Ms JQ JB Oj H4 A4 G4 QX;have ZQ:gG M4 mk=some (.map (cx vX lm) cm):=(Oj mk _ (by rw[K4 mk MO (by rw[m3];simp),K3 mk MO (by rw[m3];simp)];exact m4x)).1;refine gk rX @JQ @qv ?_;refine Cf j9 JB ZQ FX.lt bw (Nat.le_refl _) ?_ ?_
        ·intro dy
         have hP:eM N4 nx top (n1+11) (S.done L.length (k+1) fun j=>∃q,q<k+1/\dl S q j) tag vrec vtxs vcom vmods vlook nk vk ok cn cv co ptrs lnum lver lobj:=by
          have:(S.done L.length (k+1) fun j=>(∃q,q<k/\dl S q j)\/∃e ∈ lm,e.1 ∈ seen/\(S.places k e.2.1).getLast?=some (j:Int))=S.done L.length (k+1) fun j=>∃q,q<k+1/\dl S q j:=by
           unfold HS.done;rw[ki (Q:=fun j=>∃q,q<k+1/\dl S q j) fun j=>?_];constructor
           ·rintro(⟨q,h1,h2⟩ | ⟨e,h1,h2,h3⟩)
            ·exact⟨q,Z,h2⟩
            ·exact⟨k,Z,e.2.1,h3⟩
           ·rintro⟨q,h1,h2⟩
            by_cases hq:q=k
            ·subst hq
             obtain⟨x,hx⟩:=h2;right;cases hl:aH lm x with
             | none =>
               rw[show S.places q x=[] from l0 x hl]at hx;cases hx
             | some u =>
               obtain⟨b',rA⟩:=ju hl;exact⟨(b',x,u),rA,dy _ rA,hx⟩
            ·exact .inl ⟨q,Z,h2⟩
          rw[<-this];exact H4
         clear K4 K3 dy;refine iQ rX f0 gd @f7 @WI SO @Ms bV ?_;exact⟨S.txs.length - (k+1),Z,k+1,N4,Z,rfl,rfl,Oj,V1,hP,A4,G4,Z⟩
        ·intro e he zq
         have jc:=gH FX.kd e he;obtain⟨cf,Bd⟩:=l1 e.2.1 e.2.2 jc;have ms4:xQ N4 M4:=fun q x h _=>(Oj q x h).1
         have cw:=((Bd.keep (M':=N4) (tag':=tag) (fun q h1 h2=>⟨by rw[K4 q h1 (by rw[h2];simp),K3 q h1 (by rw[h2];simp)],h2⟩) (Nat.le_refl _)).sub ms4).sl;have ZV:0<(S.places k e.2.1).length:=length_pos_iff.2 cf;have hpf:=Qv.few.2.2 k e.2.1;obtain⟨j0,Xi,Zy,D4⟩:∃j0:Nat,(S.places k e.2.1)[(S.places k e.2.1).length - 1]?=some (j0:Int)/\j0<S.mods.length/\(S.places k e.2.1).getLast?=some (j0:Int):=by
          obtain⟨z,hz⟩:∃z,(S.places k e.2.1)[(S.places k e.2.1).length - 1]?=some z:=⟨(S.places k e.2.1)[(S.places k e.2.1).length - 1],by simp[ZV]⟩;obtain⟨h1,h2⟩:=Qv.here k e.2.1 z (mem_of_getElem? hz);refine⟨z.toNat,by rw[hz];congr 1;omega,Z,?_⟩;rw[getLast?_eq_getElem?,hz];congr 1;omega
         obtain⟨q,o,Oc,bC,aU⟩:=cw.fldG (P:=am) (i:=(S.places k e.2.1).length - 1) (by show _<(S.places k e.2.1).length;omega) (t:=88) yU.2.2.2.1;have hlx:∀N,kZ am N 88 e.2.2=some ⟨.int .i64 ((S.places k e.2.1).length:Nat),[],[]⟩:=fun N=>cw.len (P:=am) (t:=88) yU.2.2.2.2.2 N
         have aU:=aU 0 (.int .i64 j0) Z (by
          rw[Nat.mul_one,getElem?_take,if_pos Z,getElem?_drop,Nat.add_zero,getElem?_map];show Option.map _ (S.places k e.2.1)[_]?=_;rw[Xi];rfl) 3 1 dA.1
         rw[Nat.add_zero]at aU;obtain⟨z1,z2,z3⟩:=H4.mods;obtain⟨P4,hP4⟩:∃P4:Nat->Prop,P4=fun j=>(∃q,q<k/\dl S q j)\/∃e ∈ lm,e.1 ∈ seen/\(S.places k e.2.1).getLast?=some (j:Int):=⟨_,rfl⟩
         rw[<-hP4]at H4 z1 z2 z3;have F2:(S.done L.length (k+1) P4).mods.length=S.mods.length:=im ..;rw[F2]at z1 z2 z3;obtain⟨crow,NS⟩:∃crow,crow=(S.done L.length (k+1) P4).mods.flatMap cO:=⟨_,rfl⟩;rw[<-NS]at z2 z3;rcases z3 with ⟨_,z0⟩ | ⟨_,mkey,Ec,y1,y2,y3,y4⟩
         ·omega
         have VI:=Qv.few.2.1;have Zx:∀κ,br am 80 vmods (.int κ (j0:Int))=some (.mp mkey (j0*8)):=fun κ=>by
          rw[Ec,cy,nu.2.2.2.1,ev _ _ _ _ _ Z Z];simp
         have F_:IntKind.i64.wrap (((S.places k e.2.1).length:Int) - 1)=(((S.places k e.2.1).length - 1:Nat):Int):=by rw[wrap_i64 Z Z];omega
         have xm:((S.done L.length (k+1) fun j=>∃q,q<k/\dl S q j).places k e.2.1).length=(S.places k e.2.1).length:=rfl;have hrow4:=(Oj _ _ H4.row).1;have hmr4:=(Oj _ _ y4).1;have hhh:=H4.h_hi;generalize mR:ap M4 it _=M5;have Jx:i7 M5 (.mp it 0)=some ⟨.tup [.int .u64 e.2.1,e.2.2],[it,mk],[]⟩:=rj (vf:=vX) (l:=lm) (by rw[<-mR];exact J) (by rw[<-mR];exact J) FX.nd he;have w1:gG M5 (n1+11)=some (.row [vrec,vtxs,.mm nk,vcom,vmods,.mm vk,vlook,.mm ok]):=by rw[<-mR];exact J
         have w2:gG M5 mkey=some (.row crow):=by rw[<-mR];exact J
         have w3:gG M5 it=some (.iter (some mk) cm (seen++[e.1]) cm):=by rw[<-mR];exact J
         have ZH:=aU M5 (by rw[<-mR];exact(aq.refl _ _).set Z _);have G5:aq nx M M5:=by rw[<-mR];exact(by(repeat (refine aq.set ?_ Z _));exact G4)
         have mu5:Mu N4 M5:=fun q x hq=>by
          obtain⟨q1,q2⟩:=Oj q x hq;have:=(V1 q x hq).1;exact⟨by rw[<-mR,ao,if_neg Z];exact q1,q2⟩
         have A5:gM aF N M' N4 M5:=fun q x h1 h2 h3=>by
          obtain⟨q1,q2⟩:=A4 q x h1 h2 h3;exact⟨by rw[<-mR,ao,if_neg Z];exact q1,q2⟩
         clear mR aU A4 G4 Oj Bd cw;clear K3 xm;refine ii rX f0 gd @f7 @WI SO @Ms @JQ @yA Jx w1 (aI w2 (aI hlx (aI bC (aI ZH (aI Zx (aI F_ z2)))))) ?_;generalize NU:bp crow (j0*8+7) [XV.bool true]=crow';have Ui:crow'=(fJ (fun j=>P4 j\/j=j0) S.mods).flatMap cO:=by
          rw[<-NU,NS];exact(KO P4 S.mods Zy).symm
         obtain⟨mu6,lt6,A6⟩:=zl mu5 (fun q x h=>(V1 q x h).1) (show mkey<aF by omega) (by rw[y4];simp) (x:=.row crow') rfl (M':=ap M5 mkey (.row crow')) (by rw[ao,if_pos rfl]) (fun q _ hq=>by rw[ao,if_neg fun e=>hq e.symm]);have lt7:∀q x,gG (ap N4 mkey (.row crow')) q=some x->q<aF/\nx<=q:=fun q x h=>by
          rw[ao]at h;split at h
          ·rename_i e1;subst e1;omega
          ·exact V1 q x h
         have hH6:=H4.setMods (ms:=fJ (fun j=>P4 j\/j=j0) S.mods) (M':=ap N4 mkey (.row crow')) (fun q h1 h2=>by rw[ao,if_neg fun e1=>h2 (by rw[<-e1];exact y3)])
          ⟨by rw[im];exact z1,by rw[<-Ui,im,<-NU,ib _ _ _ (by simp only[length_cons,length_nil];omega)];exact z2,.inr ⟨by rw[im];omega,mkey,by rw[im];exact Ec,y1,y2,y3,by rw[ao,if_pos rfl,Ui]⟩⟩
         have hH7:eM (ap N4 mkey (.row crow')) nx top (n1+11) (S.done L.length (k+1) fun j=>(∃q,q<k/\dl S q j)\/∃e' ∈ lm,e'.1 ∈ seen++[e.1]/\(S.places k e'.2.1).getLast?=some (j:Int)) tag vrec vtxs vcom vmods vlook nk vk ok cn cv co ptrs lnum lver lobj:=by
          have:fJ (fun j=>(∃q,q<k/\dl S q j)\/∃e' ∈ lm,e'.1 ∈ seen++[e.1]/\(S.places k e'.2.1).getLast?=some (j:Int)) S.mods=fJ (fun j=>P4 j\/j=j0) S.mods:=by
           refine ki (fun j=>?_) _;rw[hP4];constructor
           ·rintro(h | ⟨e',h1,h2,h3⟩)
            ·exact .inl (.inl h)
            ·rcases mem_append.1 h2 with h2 | h2
             ·exact .inl (.inr ⟨e',h1,h2,h3⟩)
             ·rw[mem_singleton]at h2
              have:e'=e:=wo FX.nd h1 he h2;subst this;rw[D4]at h3;right;simp only[Option.some.injEq]at h3;omega
           ·rintro((h | ⟨e',h1,h2,h3⟩) | h)
            ·exact .inl h
            ·exact .inr ⟨e',h1,mem_append_left _ h2,h3⟩
            ·subst h
             exact .inr ⟨e,he,aa,D4⟩
          unfold HS.done;rw[this];exact hH6
         refine⟨_,?_,seen++[e.1],cm,ap N4 mkey (.row crow'),rfl,J,Nat.le_refl _,mu6,lt7,hH7,fun q h1 h2=>?_,A5.trans A6 (Nat.le_refl _),(by(repeat (refine aq.set ?_ Z _));exact G5),Z⟩
         ·rw[VH]
          exact Dp zq he
         ·rw[ao,if_neg fun e1=>h2 (by rw[<-e1];exact y3)]
          exact K4 q h1 h2
     ·have F0:k=S.txs.length:=Z
      refine oq rX e0 e5 e7 RC RE RF aL ?_;refine⟨n,0,k2,ak,.inr ⟨rfl,n1+11,N2,cr,rfl,⟨Rc,fun q x hq=>by have:=(RW q x hq).1;simp only;omega,fun q x hq=>(RW q x hq).2,top,ak,tag,vrec,vtxs,vcom,vmods,vlook,nk,vk,ok,cn,cv,co,ptrs,lnum,lver,lobj,?_⟩,T0,fun j r hj=>(Zd j r hj).aside Qs fun q hq=>⟨by have:=hq.1;simp only;omega,hq.2⟩⟩⟩;rw[F0,NO]at H2;exact H2
 ·refine fM rX je ?_
  exact⟨n,rl,k2,ak,.inl ⟨je,rfl,NK⟩⟩
end
end Go.Xs
namespace Go.Xs
open List Nat Option
noncomputable section
open Go.Proofs Go.RowKit
theorem names:(am.funcs.toList.all fun fn=>!(fn.name == "runtime.NumGoroutine"))=true:=U
theorem Ws:Extern.findNext Tryz.f294=none/\Extern.find Tryz.f294=some Extern.BytealgCount.count:=⟨U,U⟩
theorem Xj:Extern.findNext Tryz.f372=none/\Extern.find Tryz.f372=some Extern.BytealgIndexByte.indexByte:=⟨U,U⟩
theorem I2 (ρ:aK):Dt am ρ (KD 294 372) :=
 K7 ⟨_,Tryz.func294,U,mV names _ _ Tryz.func294,Ws⟩ ⟨_,Tryz.func372,U,mV names _ _ Tryz.func372,Xj⟩
def Nd:Option (List ew)->Option ew
 | some [r]=>some r
 | _=>none
def lB (o:Option (List ew)):ew:=match Nd o with | some r=>r | none=>(.un,.nil,0)
theorem GP {o:Option (List ew)} (h:(Nd o).isSome=true):o=some [lB o]:=by
 match o,h with
 | some [r],_=>rfl
theorem ft.run {P:Program} {ρ:aK} {call:fB} (hc:i9 P ρ call) {g:Nat} {args:List XV} {M:Hp} {nx:Nat} {r:ew} (h:call g args M nx=some [r]):ft P ρ g args M nx fun x=>x=r:=fun w σ vs aQ aM c_ o a K Q hK =>
 hc g args M nx [r] h w σ vs aQ aM c_ o a K Q fun v w' ⟨r',hr,hp⟩=>hK v w' ⟨r',by simpa using hr,hp⟩
def qP (s:List Nat):Option (List ew):=Ty am (fun _ _ _=>none) (KD 294 372) 100000 60 57 [.str s] .nil 0
theorem CV (ρ:aK) {s:List Nat} {cells:List XV} (h1:(Nd (qP s)).isSome=true) (h2:(lB (qP s)).1 = .tup [.agg cells,.int .i64 0]) (ks:List Nat) (M:Hp) (nx:Nat) :
 ar am ρ 57 [.str s] M nx fun r=>r.1 = .tup [.agg (ml nx cells),.int .i64 0]/\r.2.2=(lB (qP s)).2.2+nx/\aq nx M r.2.1/\∀k cs,k ∈ ks->gG (lB (qP s)).2.1 k=some (.row cs)->gG r.2.1 (k+nx)=some (.row (ml nx cs)):=by
 have h0:ft am ρ 57 [.str s] .nil 0 fun x=>x=lB (qP s):=ft.run (LH (ρ:=ρ) follows (mV names) (fun _ _ _ _ _ h=>by cases h) (I2 ρ) (fuel:=100000) 60) (GP h1)
 rw[show lB (qP s)=((lB (qP s)).1,(lB (qP s)).2.1,(lB (qP s)).2.2) from rfl,h2]at h0;exact ar.shift (fun σ vs hv=>by simpa only [bb,VR] using hv) h0 ks M nx
def QT (M:Hp) (nx:Nat) (r:aR) (o:ew):Prop:=(∃cs,o.1 = .tup [.agg cs,.int .i64 0]/\eL o.2.1 (fun k=>nx<=k/\k<o.2.2) r cs)/\aq nx M o.2.1/\nx<=o.2.2
def KK:Ex:=.mk 0 0 0 []
theorem gq (ρ:aK) {s:List Nat} {k t x w n v:Int} (h1:(Nd (qP s)).isSome=true) (h2:(lB (qP s)).1 = .tup [.agg [.int .i64 k,.int .u64 t,.int .u64 x,.int .u64 w,.int .u64 n,.int .u64 v,.int .i64 0,.int .u64 0,.int .u64 0,.nils,.nils],.int .i64 0]) (M:Hp) (nx:Nat) :
 ar am ρ 57 [.str s] M nx (QT M nx ⟨k,t,x,w,n,v,KK,[]⟩):=(CV ρ h1 h2 [] M nx).mono fun r ⟨q1,q2,q3,_⟩ =>
 ⟨⟨_,q1,[.int .i64 0,.int .u64 0,.int .u64 0,.nils],.nils,rfl,⟨.nils,[],rfl,⟨aa,.inl ⟨rfl,rfl,rfl⟩⟩,trivial⟩,⟨aa,.inl ⟨rfl,rfl,rfl⟩⟩⟩,q3,Z⟩
def NC:List (List Nat×aR):=[([98,101,103,105,110,32,49],⟨1,1,0,0,0,0,KK,[]⟩),([119,114,105,116,101,32,49,32,53,32,55],⟨3,1,5,0,0,7,KK,[]⟩),([99,111,109,109,105,116,32,49],⟨6,1,0,0,0,0,KK,[]⟩),([98,101,103,105,110,32,50],⟨1,2,0,0,0,0,KK,[]⟩),([112,114,101,100,32,50,32,97,108,108,32,53,58,49,46,49,58,49],⟨5,2,0,0,0,0,.mk 1 0 0 [],[⟨5,1,1,true⟩]⟩),([98,101,103,105,110,32,51],⟨1,3,0,0,0,0,KK,[]⟩),([100,101,108,101,116,101,32,51,32,53],⟨4,3,5,0,0,0,KK,[]⟩),([119,114,105,116,101,32,51,32,54,32,49],⟨3,3,6,0,0,1,KK,[]⟩),([99,111,109,109,105,116,32,51],⟨6,3,0,0,0,0,KK,[]⟩),([99,111,109,109,105,116,32,50],⟨6,2,0,0,0,0,KK,[]⟩)]
theorem Pe (ρ:aK):∀p ∈ NC,∀(M:Hp) (nx:Nat),ar am ρ 57 [.str p.1] M nx (QT M nx p.2):=by
 intro p hp;simp only[NC,mem_cons,not_mem_nil,or_false]at hp;rcases hp with rfl | rfl | rfl | rfl | rfl | rfl | rfl | rfl | rfl | rfl
 ·exact gq ρ U U
 ·exact gq ρ U U
 ·exact gq ρ U U
 ·exact gq ρ U U
 ·intro M nx
  refine(CV ρ (s:=[112,114,101,100,32,50,32,97,108,108,32,53,58,49,46,49,58,49]) (cells:=[.int .i64 5,.int .u64 2,.int .u64 0,.int .u64 0,.int .u64 0,.int .u64 0,.int .i64 1,.int .u64 0,.int .u64 0,.nils,.sl 1559 4 0 1 1]) U U [1559] M nx).mono fun r ⟨q1,q2,q3,q4⟩=>?_
  have hn:(lB (qP [112,114,101,100,32,50,32,97,108,108,32,53,58,49,46,49,58,49])).2.2=1574:=U;have hr:=q4 1559 [.int .u64 5,.int .u64 1,.int .u64 1,.bool true] (mem_cons_self ..) U;rw[hn]at q2;exact⟨⟨_,q1,[.int .i64 1,.int .u64 0,.int .u64 0,.nils],.sl (1559+nx) 4 0 1 1,rfl,⟨.nils,[],rfl,⟨aa,.inl ⟨rfl,rfl,rfl⟩⟩,trivial⟩,⟨aa,.inr ⟨1559+nx,0,1,_,rfl,⟨Z,Z⟩,by unfold vR;rw[hr],by simp[ml],rfl⟩⟩⟩,q3,Z⟩
 ·exact gq ρ U U
 ·exact gq ρ U U
 ·exact gq ρ U U
 ·exact gq ρ U U
 ·exact gq ρ U U
def iS:List aR:=NC.map (·.2)
end
end Go.Xs
namespace Go.Xs
open List Nat Option
noncomputable section
open Go.Proofs
theorem Rp (hS:kL) (hN:kJ) (ρ:aK) (j9:ρ.det=false) {M:Hp} {nx K0:Nat} (hK0:K0<nx) (z0:gG M K0=some (.row (NC.map fun p=>.str p.1))) {Q:ew->Prop}
 (hNew:∀M' n' v,aq nx M M'->nx<=n'->cP M' n' v iS->ar am ρ 9 [v] M' n' fun o=>∃h,o.1 = .tup [.mp h 0,.int .i64 10,.int .i64 0]/\aq n' M' o.2.1/\n'<=o.2.2/\∀N n2,aq o.2.2 o.2.1 N->o.2.2<=n2->Q (.mp h 0,N,n2)) :
 ar am ρ 25 [.sl K0 1 0 10 10] M nx fun o=>Q o/\aq nx M o.2.1/\nx<=o.2.2:=by
 have hwl:NC.length=10:=rfl;have MK:iS.length=10:=rfl;have cw:bE M nx (.sl K0 1 0 10 10) 1 10 (NC.map fun p=>XV.str p.1):=⟨Z,.inr ⟨K0,0,10,_,rfl,hK0,by unfold vR;rw[z0],by simp[hwl],rfl⟩⟩;have ay:=fun N=>cw.len (P:=am) (t:=71) LG.2.2.2.2.2 N
 refine ar.wk 35 [.tmp 2] Tryz.func25 ?_;refine bR cS ?_;refine aC (fun m' s=>∃(i K:Nat) (vv:XV) (rw:List XV),i<=10/\m'=10 - i/\gG s.env 0=some (.sl K0 1 0 10 10)/\gG s.env 3=some vv/\gG s.env 4=some (.int .i64 (i:Int))/\rw.length=i*11/\(vv = .nils/\i=0\/0<i/\vv = .sl K 11 0 i i/\gG s.M K=some (.row rw))/\nx<=K/\K<s.nx /\
  (∀j r,j<i->iS[j]?=some r->cU s.M K r ((rw.drop (j*11)).take 11))/\aq nx M s.M) 10 ⟨0,nx,.nils,[],Z,Z,?_⟩ ?_
 ·refine bR cS ?_
  refine⟨.inl trivial,Z,Z,fun j e h=>absurd h (not_lt_zero _),aq.refl _ _⟩
 ·rintro m' ⟨env,M',aF⟩ ⟨i,K,vv,rw',hi,ir,e0,e3,e4,je,vi,Gg,Gh,fF,ha⟩
  simp only at e0 e3 e4 vi Gh fF ha;by_cases aL:(i:Int)<10
  ·have aP:i<10:=Z
   obtain⟨p,hp⟩:∃p,NC[i]?=some p:=⟨NC[i]' Z,getElem?_eq_getElem _⟩;have Wk:iS[i]?=some p.2:=by unfold iS;rw[getElem?_map,hp];rfl
   have bV:=eF i;obtain⟨n,o,jw,bC,Gl⟩:=cw.fld (P:=am) aP (t:=71) LG.2.2.2.1;have aU:=Gl 0 (.str p.1) af (by
    rw[Nat.mul_one,getElem?_take,if_pos af,getElem?_drop,Nat.add_zero,getElem?_map,hp];rfl) 9 _ S6.1 M' ha
   rw[Nat.add_zero]at aU;refine iQ cS e0 e3 e4 aL ay bC aU ?_;refine gQ (Pe ρ p (mem_of_getElem? hp) M' _) ?_;rintro⟨u,M2,n2⟩ ⟨⟨cs,g1,g2⟩,g3,g4⟩;simp only at g1 g2 g3 g4;subst g1;have a2:aq aF M' M2:=g3.le Z;have g2K:∀(H:Hp) (K':Nat),n2<=K'->(∀q,q<n2->q≠K->gG H q=gG M2 q)->cU H K' p.2 cs:=fun H K' Ml hH=>cU.pp.2 (g2.keep fun q hq=>⟨hH q Z Z,show q<K' by omega⟩)
   have g2:=g2K M2 n2 (Nat.le_refl _) fun _ _ _=>rfl
   obtain⟨pk,pa,pb,pv,ve,dI,⟨p1,p2⟩,⟨q1,q2⟩,_⟩:=g2.cells;have CL:cs.length=11:=by rw[dI];rfl
   have qB:∀(H:Hp) (K':Nat) (oQ:List XV),n2<=K'->oQ=rw'++cs->(∀q,q<n2->q≠K->gG H q=gG M2 q)->∀j r',j<i+1->iS[j]?=some r'->cU H K' r' ((oQ.drop (j*11)).take 11):=fun H K' oQ Ml Oe hH j r' hj sA=>by
    subst Oe;rw[mf je CL hj];split
    ·rename_i kX
     exact cU.pp.2 ((cU.pp.1 (fF j r' kX sA)).keep fun q hq=>⟨by have hq:q<K:=hq;rw[hH q Z Z,a2 q Z],by have hq:q<K:=hq;show q<K';omega⟩)
    ·have:j=i:=Z
     subst this;rw[Wk]at sA;cases sA;exact g2K H K' Ml hH
   rcases vi with ⟨rfl,rfl⟩ | ⟨AW,rfl,hK⟩
   ·have mP:rw'=[]:=length_eq_zero_iff.1 Z
    subst mP;rw[dI]at qB;subst dI;have MJ:IntKind.i64.wrap (0+1)=((1:Nat):Int):=af;refine CU cS p1 p2 q1 q2 MJ e0 e3 e4 ?_;refine⟨9,Z,1,n2+9,_,_,Z,rfl,rfl,rfl,rfl,.inr ⟨Z,rfl,if_pos (show aw _ _ from rfl)⟩,Z,Z,qB _ (n2+9) _ Z rfl fun q hq nP=>J,fun q hq=>?_⟩;have:=(a2 q Z).trans (ha q hq);exact J
   ·have qK:=(a2 K Z).trans hK
    have kB:rw'.take (i*11)=rw':=take_of_length_le Z;rw[dI]at qB;subst dI;refine ii cS qK je kB p1 p2 q1 q2 bV e0 e3 e4 ?_;refine⟨10 - (i+1),Z,i+1,n2+9,_,_,Z,rfl,rfl,rfl,by rw[length_append,je];simp only[length_cons,length_nil];omega,.inr ⟨Z,rfl,if_pos (show aw _ _ from rfl)⟩,Z,Z,qB _ (n2+9) _ Z rfl fun q hq nP=>J,fun q hq=>?_⟩;have:=(a2 q Z).trans (ha q hq);exact J
  ·have gB:i=10:=Z
   refine iC cS e0 e3 e4 aL ay ?_;have gS:cP M' (aF+5) vv iS:=by
    refine⟨rw',⟨Z,?_⟩,fun j r hr=>(fF j r (by have:=(List.getElem?_eq_some_iff.1 hr).1;omega) hr).wk Z⟩;rcases vi with ⟨rfl,h0⟩ | ⟨h0,rfl,hK⟩
    ·omega
    ·exact .inr ⟨K,0,i,rw',by rw[gB,MK],Z,by unfold vR;rw[hK],Z,by rw[drop_zero,take_of_length_le Z]⟩
   refine gQ (hNew M' _ vv ha Z gS) ?_;rintro⟨u,M4,n4⟩ ⟨hh,g1,g2,g3,g4⟩;simp only at g1 g2 g3 g4;subst g1;refine bR cS ?_;exact⟨g4 _ _ (aq.refl _ _) Z,ha.trans (g2.le Z),Z⟩
end
end Go.Xs
namespace Go.Xs
open List Nat Option
variable{k:Nat}{l:List aR}{r:aR}
noncomputable section
theorem Fi (i:Nat):mc i≠0:=by
 unfold mc;split
 ·decide
 ·split
  ·decide
  ·omega
theorem qn {l:List aR} {r:aR}:∀(n i:Nat),ruleGo l r n i=0->∀j,i<=j->j<i+n->kM j l r=true
 | 0,i,_,j,h1,h2=>Z
 | n+1,i,h,j,h1,h2=>by
   unfold ruleGo at h;split at h
   ·rename_i hk
    by_cases e:j=i
    ·subst e;exact hk
    ·exact qn n (i+1) h j Z Z
   ·exact(Fi i h).elim
theorem lY (h:eA l r=0) (j:Nat) (hj:j<12):kM j l r=true:=qn 12 0 h j Z Z
theorem ru (h:eA l r=0):1<=r.kind/\r.kind<=7:=by
 have:=lY h 0 Z;simp only[kM,Bool.and_eq_true,decide_eq_true_eq]at this;exact this
theorem jH (h:eA l r=0) (h1:r.kind=1):bH l r.t=none:=by
 have:=lY h 3 Z;simp only[kM,h1,decide_true,Bool.not_true,Bool.false_or,Bool.not_eq_true']at this;cases he:bH l r.t with
 | none=>rfl
 | some b=>rw[he]at this;cases this
theorem pd (h:eA l r=0) (h1:r.kind≠1):∃b,bH l r.t=some b:=by
 have:=lY h 4 Z;simp only[kM,h1,decide_false,Bool.false_or]at this;exact isSome_iff_exists.1 this
structure qV (S:HS) (l:List aR):Prop where
 num:∀t k,S.num t=some k->∃(j:Nat) (a:ku),k=(j:Int)/\S.txs[j]?=some a/\a.t=t
 txs:∀(j:Nat) a,S.txs[j]?=some a->S.num a.t=some (j:Int)
 fresh:∀t,bH l t=none->S.num t=none
 begun:∀t b,bH l t=some b->S.num t≠none
 com:∀(j j':Nat) a b,S.txs[j]?=some a->S.txs[j']?=some b->a.s=1->b.s=1->j=j'\/(a.n<b.n/\a.e<b.e)\/(b.n<a.n/\b.e<a.e)
 comb:∀(j:Nat) a,S.txs[j]?=some a->a.s=1->a.n<S.com.length/\0<=a.e/\a.e<l.length
 com0:∀(j:Nat) a,S.txs[j]?=some a->a.s=1->0<=a.n
 mods:∀(j:Nat) m,S.mods[j]?=some m->∃k:Nat,S.num m.t=some (k:Int)/\(j:Int) ∈ S.places k m.x/\m.w=m.t/\1<=m.n/\m.n<=((S.places k m.x).length:Int)/\S.ver m.x m.w m.n=some (j:Int)/\m.fin=false
 places:∀(k:Nat) x z,z ∈ S.places k x->∃(j:Nat) (m:fS),z=(j:Int)/\S.mods[j]?=some m/\m.x=x/\S.num m.t=some (k:Int)
 vers:∀x w n z,S.ver x w n=some z->∃(j:Nat) (m:fS),z=(j:Int)/\S.mods[j]?=some m/\m.x=x/\m.w=w/\m.n=n
 ntx:S.txs.length<=l.length
 nmod:S.mods.length<=l.length
 ncom:S.com.length<=l.length
 npl:∀k x,(S.places k x).length<=l.length
 nlook:S.looks.length<=1001*l.length
 nobj:∀x,0<=(S.obj x).getD 0/\(S.obj x).getD 0<=1001*(l.length:Int)
theorem eJ {t:Int} {o:Option Bool} (h:r.kind≠1) (h6:r.kind≠6) (h7:r.kind≠7):de t o r=o:=by
 unfold de;by_cases e:r.t=t
 ·rw[if_pos e,if_neg h,if_neg (by rintro(q | q)<;>contradiction)]
 ·rw[if_neg e]
theorem qV.start:qV vF []:=by
 exact⟨(fun t k h=>by cases h),(fun j a h=>by simp[vF]at h),(fun t _=>rfl),(fun t b h=>by cases h),(fun j j' a b h=>by simp[vF]at h),(fun j a h=>by simp[vF]at h),(fun j a h=>by simp[vF]at h),(fun j m h=>by simp[vF]at h),(fun k x z h=>by simp[vF]at h),(fun x w n z h=>by cases h),by simp[vF],by simp[vF],by simp[vF],by simp[vF],by simp[vF],by simp[vF]⟩
variable {S:HS} {l:List aR} {r:aR}
theorem qV.looks {S':HS} (h:qV S l) (he:∀t,bH (l++[r]) t=bH l t) (e1:S'.num=S.num) (e2:S'.txs=S.txs) (e3:S'.com=S.com) (e4:S'.mods=S.mods) (e5:S'.places=S.places) (e6:S'.ver=S.ver)
 (h1:S'.looks.length<=S.looks.length+1001) (h2:∀x,0<=(S'.obj x).getD 0/\(S'.obj x).getD 0<=(S.obj x).getD 0+1001):qV S' (l++[r]):=by
 refine⟨?_,?_,?_,?_,?_,?_,?_,?_,?_,?_,?_,?_,?_,?_,?_,?_⟩
 ·rw[e1,e2];exact h.num
 ·rw[e1,e2];exact h.txs
 ·intro t ht;rw[he]at ht;rw[e1];exact h.fresh t ht
 ·intro t b ht;rw[he]at ht;rw[e1];exact h.begun t b ht
 ·rw[e2];exact h.com
 ·intro j a h1 h2
  rw[e2]at h1;have:=h.comb j a h1 h2;rw[e3,length_append];simp only[length_cons,length_nil];omega
 ·rw[e2];exact h.com0
 ·rw[e1,e4,e5,e6];exact h.mods
 ·rw[e1,e4,e5];exact h.places
 ·rw[e4,e6];exact h.vers
 ·rw[e2,length_append];have:=h.ntx;omega
 ·rw[e4,length_append];have:=h.nmod;omega
 ·rw[e3,length_append];have:=h.ncom;omega
 ·intro k x;rw[e5,length_append];have:=h.npl k x;omega
 ·rw[length_append];have:=h.nlook;simp only[length_cons,length_nil];omega
 ·intro x
  have:=h.nobj x;have:=h2 x;rw[length_append];simp only[length_cons,length_nil];omega
theorem qV.begin (h:qV S l) (h1:r.kind=1) (hf:bH l r.t=none) (i:Int):qV (S.begin i r) (l++[r]):=by
 have Bc:=h.fresh _ hf;have qy:∀t,bH (l++[r]) t=if r.t=t then some false else bH l t:=fun t=>by
  rw[bL];unfold de;rw[if_pos h1]
 have Q0:∀t (k:Nat),S.num t=some (k:Int)->k<S.txs.length:=fun t k hk=>by
  obtain⟨j,a,e,h2,_⟩:=h.num t _ hk;have:=(List.getElem?_eq_some_iff.1 h2).1;omega
 have ow:∀(j:Nat) a,(S.txs++[(⟨r.t,i,0,3,-1⟩:ku)])[j]?=some a->S.txs[j]?=some a\/(j=S.txs.length/\a=⟨r.t,i,0,3,-1⟩):=fun j a hj=>by
  by_cases hl:j<S.txs.length
  ·rw[getElem?_append_left hl]at hj;exact .inl hj
  ·have:=(List.getElem?_eq_some_iff.1 hj).1
   simp only[length_append,length_cons,length_nil]at this;have e:j=S.txs.length:=Z;subst e;rw[getElem?_concat_length]at hj;cases hj;exact .inr ⟨rfl,rfl⟩
 have gE:∀(k:Nat) t x,S.num t=some (k:Int)->(S.begin i r).places k x=S.places k x:=fun k t x hk=>by
  have:=Q0 t k hk;exact if_neg Z
 have hplN:∀x,S.places S.txs.length x=[]\/True:=fun _=>.inr trivial
 refine⟨fun t k hk=>?_,fun j a hj=>?_,fun t ht=>?_,fun t b ht=>?_,fun j j' a b hj mS ha hb=>?_,fun j a hj ha=>?_,fun j a hj ha=>?_,fun j m hm=>?_,fun k x z hz=>?_,h.vers,?_,?_,?_,fun k x=>?_,?_,fun x=>?_⟩
 ·have ia:(if t=r.t then some (S.txs.length:Int) else S.num t)=some k:=hk
  split at ia
  ·rename_i e
   cases ia;exact⟨S.txs.length,⟨r.t,i,0,3,-1⟩,rfl,by show (S.txs++[_])[S.txs.length]?=_;rw[getElem?_concat_length],e.symm⟩
  ·obtain⟨j,a,e,h2,h3⟩:=h.num t k ia
   have:=(List.getElem?_eq_some_iff.1 h2).1;exact⟨j,a,e,by show (S.txs++[_])[j]?=_;rw[getElem?_append_left this];exact h2,h3⟩
 ·show (if a.t=r.t then some (S.txs.length:Int) else S.num a.t)=_
  rcases ow j a hj with hj | ⟨e,rfl⟩
  ·have:=h.txs j a hj
   rw[if_neg fun e=>by rw[e,Bc]at this;cases this];exact this
  ·rw[if_pos rfl,e]
 ·rw[qy]at ht
  split at ht
  ·cases ht
  ·rename_i e
   show (if t=r.t then some (S.txs.length:Int) else S.num t)=_;rw[if_neg fun q=>e q.symm];exact h.fresh t ht
 ·rw[qy]at ht
  show (if t=r.t then some (S.txs.length:Int) else S.num t)≠_;split at ht
  ·rename_i e;rw[if_pos e.symm];simp
  ·rename_i e
   rw[if_neg fun q=>e q.symm];exact h.begun t b ht
 ·rcases ow j a hj with hj | ⟨_,rfl⟩
  ·rcases ow j' b mS with mS | ⟨_,rfl⟩
   ·exact h.com j j' a b hj mS ha hb
   ·cases hb
  ·cases ha
 ·rcases ow j a hj with hj | ⟨_,rfl⟩
  ·have:=h.comb j a hj ha
   rw[length_append];simp only[length_cons,length_nil];show a.n<S.com.length/\_;omega
  ·cases ha
 ·rcases ow j a hj with hj | ⟨_,rfl⟩
  ·exact h.com0 j a hj ha
  ·cases ha
 ·obtain⟨k,h2,h3,h4,h5,h6,h7,h8⟩:=h.mods j m hm
  have cf:m.t≠r.t:=fun e=>by rw[e,Bc]at h2;cases h2
  refine⟨k,?_,?_,h4,h5,?_,h7,h8⟩
  ·show (if m.t=r.t then some (S.txs.length:Int) else S.num m.t)=_
   rw[if_neg cf];exact h2
  ·rw[gE k _ _ h2];exact h3
  ·rw[gE k _ _ h2];exact h6
 ·have Rb:z ∈ (if k=S.txs.length then [] else S.places k x):=hz
  split at Rb
  ·cases Rb
  ·obtain⟨j,m,e1,e2,e3,e4⟩:=h.places k x z Rb
   refine⟨j,m,e1,e2,e3,?_⟩;show (if m.t=r.t then some (S.txs.length:Int) else S.num m.t)=_;rw[if_neg fun e=>by rw[e,Bc]at e4;cases e4];exact e4
 ·show (S.txs++[_]).length<=_
  have:=h.ntx;simp only[length_append,length_cons,length_nil];omega
 ·rw[length_append];have:=h.nmod;show S.mods.length<=_;omega
 ·rw[length_append];have:=h.ncom;show S.com.length<=_;omega
 ·show (if k=S.txs.length then [] else S.places k x).length<=_
  have:=h.npl k x;rw[length_append];split
  ·simp
  ·omega
 ·rw[length_append];have:=h.nlook;show S.looks.length<=_;omega
 ·have:=h.nobj x
  rw[length_append];simp only[length_cons,length_nil];show 0<=(S.obj x).getD 0/\(S.obj x).getD 0<=_;omega
theorem qV.modify (h:qV S l) (Vq:r.kind=3\/r.kind=4) (hk:S.num r.t=some (k:Int)) (i:Int):qV (S.modify i r k) (l++[r]):=by
 have he:∀t,bH (l++[r]) t=bH l t:=fun t=>by rw[bL,eJ Z Z Z]
 obtain⟨nm,F6⟩:∃nm:fS,nm=⟨i,r.t,r.x,r.t,(((S.places k r.x).length+1:Nat):Int),r.v,decide (r.kind=4),false⟩:=⟨_,rfl⟩;have F3:(S.modify i r k).mods=S.mods++[nm]:=by rw[F6];rfl
 have ow:∀(j:Nat) m,(S.mods++[nm])[j]?=some m->S.mods[j]?=some m\/(j=S.mods.length/\m=nm):=fun j m hj=>by
  by_cases hl:j<S.mods.length
  ·rw[getElem?_append_left hl]at hj;exact .inl hj
  ·have:=(List.getElem?_eq_some_iff.1 hj).1
   simp only[length_append,length_cons,length_nil]at this;have e:j=S.mods.length:=Z;subst e;rw[getElem?_concat_length]at hj;cases hj;exact .inr ⟨rfl,rfl⟩
 have dz:∀(j:Nat) m,S.mods[j]?=some m->(S.mods++[nm])[j]?=some m:=fun j m hj=>by
  rw[getElem?_append_left (List.getElem?_eq_some_iff.1 hj).1];exact hj
 have gE:∀(j:Nat) x,(S.modify i r k).places j x=if j=k/\x=r.x then S.places k r.x++[(S.mods.length:Int)] else S.places j x:=fun _ _=>rfl
 have Q5:∀x w n,(S.modify i r k).ver x w n=if x=r.x/\w=r.t/\n=(((S.places k r.x).length+1:Nat):Int) then some (S.mods.length:Int) else S.ver x w n:=fun _ _ _=>rfl
 refine⟨h.num,h.txs,fun t ht=>h.fresh t (by rw[he]at ht;exact ht),fun t b ht=>h.begun t b (by rw[he]at ht;exact ht),h.com,fun j a hj ha=>?_,h.com0,fun j m hm=>?_,fun k' x z hz=>?_,fun x w n z hz=>?_,?_,?_,?_,fun k' x=>?_,?_,fun x=>?_⟩
 ·have:=h.comb j a hj ha
  rw[length_append];simp only[length_cons,length_nil];show a.n<S.com.length/\_;omega
 ·rw[F3]at hm
  rcases ow j m hm with hm | ⟨e,rfl⟩
  ·obtain⟨k',h2,h3,h4,h5,h6,h7,h8⟩:=h.mods j m hm
   refine⟨k',h2,?_,h4,h5,?_,?_,h8⟩
   ·rw[gE]
    split
    ·rename_i e;obtain⟨e1,e2⟩:=e;subst e1;rw[e2]at h3;exact mem_append_left _ h3
    ·exact h3
   ·rw[gE]
    split
    ·rename_i e;obtain⟨e1,e2⟩:=e;subst e1;rw[e2]at h6
     rw[length_append];simp only[length_cons,length_nil];omega
    ·exact h6
   ·rw[Q5,if_neg]
    ·exact h7
    ·rintro⟨e1,e2,e3⟩
     rw[h4]at e2;rw[e2,hk]at h2;cases h2;rw[e1,e3]at h6;omega
  ·subst F6
   refine⟨k,hk,?_,rfl,?_,?_,?_,rfl⟩
   ·rw[gE,if_pos ⟨rfl,rfl⟩,e];simp
   ·simp only;omega
   ·rw[gE,if_pos ⟨rfl,rfl⟩,length_append]
    simp only[length_cons,length_nil];omega
   ·rw[Q5,if_pos ⟨rfl,rfl,rfl⟩,e]
 ·rw[gE]at hz
  rw[F3];split at hz
  ·rename_i e
   obtain⟨rfl,rfl⟩:=e;rcases mem_append.1 hz with hz | hz
   ·obtain⟨j,m,e1,e2,e3,e4⟩:=h.places _ _ z hz
    exact⟨j,m,e1,dz j m e2,e3,e4⟩
   ·rw[mem_singleton]at hz
    exact⟨S.mods.length,nm,hz,getElem?_concat_length,by rw[F6],by rw[F6];exact hk⟩
  ·obtain⟨j,m,e1,e2,e3,e4⟩:=h.places _ _ z hz
   exact⟨j,m,e1,dz j m e2,e3,e4⟩
 ·rw[Q5]at hz
  rw[F3];split at hz
  ·rename_i e
   cases hz;exact⟨S.mods.length,nm,rfl,getElem?_concat_length,by rw[F6];exact e.1.symm,by rw[F6];exact e.2.1.symm,by rw[F6];exact e.2.2.symm⟩
  ·obtain⟨j,m,e1,e2,e3⟩:=h.vers x w n z hz
   exact⟨j,m,e1,dz j m e2,e3⟩
 ·rw[length_append];have:=h.ntx;show S.txs.length<=_;omega
 ·rw[F3];have:=h.nmod;simp only[length_append,length_cons,length_nil];omega
 ·rw[length_append];have:=h.ncom;show S.com.length<=_;omega
 ·rw[gE,length_append]
  have:=h.npl k' x;have:=h.npl k r.x;split
  ·simp only[length_append,length_cons,length_nil];omega
  ·omega
 ·rw[length_append];have:=h.nlook;show S.looks.length<=_;omega
 ·have:=h.nobj x
  rw[length_append];simp only[length_cons,length_nil];show 0<=(if x=r.x then some ((S.obj r.x).getD 0+1) else S.obj x).getD 0/\(if x=r.x then some ((S.obj r.x).getD 0+1) else S.obj x).getD 0<=_;split
  ·rename_i e;subst e;simp only[getD_some];omega
  ·omega
theorem qV.endTx (h:qV S l) (Vr:r.kind=6\/r.kind=7) {a a':ku} (hk:S.num r.t=some (k:Int)) (ha:S.txs[k]?=some a) (ht:a'.t=r.t) {com':List Int} (hc:S.com.length<=com'.length/\com'.length<=l.length+1)
 (hs:a'.s=1->a'.n=(S.com.length:Int)/\S.com.length<com'.length/\a'.e=(l.length:Int)):qV (S.endTx k a' com') (l++[r]):=by
 have kA:=(List.getElem?_eq_some_iff.1 ha).1;have qL:a.t=r.t:=by
  obtain⟨j,b,e,h2,h3⟩:=h.num _ _ hk;have:j=k:=Z;subst this;rw[ha]at h2;cases h2;exact h3
 have ow:∀(j:Nat),(S.txs.set k a')[j]?=if j=k then some a' else S.txs[j]?:=fun j=>by
  by_cases e:j=k
  ·subst e;rw[getElem?_set_self kA,if_pos rfl]
  ·rw[getElem?_set_ne fun q=>e q.symm,if_neg e]
 have qy:∀t,bH (l++[r]) t=if r.t=t then some true else bH l t:=fun t=>by
  rw[bL];unfold de;by_cases e:r.t=t
  ·rw[if_pos e,if_pos e,if_neg Z,if_pos Vr]
  ·rw[if_neg e,if_neg e]
 refine⟨fun t k' ia=>?_,fun j b hj=>?_,fun t oe=>?_,fun t b oe=>?_,fun j j' b c hj mS hb jY=>?_,fun j b hj hb=>?_,fun j b hj hb=>?_,h.mods,h.places,h.vers,?_,?_,?_,fun k x=>?_,?_,fun x=>?_⟩
 ·obtain⟨j,b,e,h2,h3⟩:=h.num t k' ia
  by_cases ej:j=k
  ·subst ej
   rw[ha]at h2;cases h2;exact⟨j,a',e,by show (S.txs.set j a')[j]?=_;rw[ow,if_pos rfl],by rw[ht,<-qL];exact h3⟩
  ·exact⟨j,b,e,by show (S.txs.set k a')[j]?=_;rw[ow,if_neg ej];exact h2,h3⟩
 ·have mS:(S.txs.set k a')[j]?=some b:=hj
  rw[ow]at mS;split at mS
  ·rename_i e
   cases mS;rw[ht,e];exact hk
  ·exact h.txs j b mS
 ·rw[qy]at oe
  split at oe
  ·cases oe
  ·exact h.fresh t oe
 ·rw[qy]at oe
  split at oe
  ·rename_i e
   rw[<-e];show S.num r.t≠none;rw[hk];simp
  ·exact h.begun t b oe
 ·have mj:(S.txs.set k a')[j]?=some b:=hj
  have f_:(S.txs.set k a')[j']?=some c:=mS;rw[ow]at mj f_;split at mj
  ·rename_i e
   cases mj;split at f_
   ·rename_i e';left;omega
   ·have h1:=h.comb j' c f_ jY
    obtain⟨h2,h3,h4⟩:=hs hb;right;right;omega
  ·split at f_
   ·cases f_
    have h1:=h.comb j b mj hb;obtain⟨h2,h3,h4⟩:=hs jY;right;left;omega
   ·exact h.com j j' b c mj f_ hb jY
 ·have mj:(S.txs.set k a')[j]?=some b:=hj
  rw[ow]at mj;rw[length_append];simp only[length_cons,length_nil];show b.n<com'.length/\_;split at mj
  ·cases mj
   obtain⟨h2,h3,h4⟩:=hs hb;omega
  ·have h1:=h.comb j b mj hb
   omega
 ·have mj:(S.txs.set k a')[j]?=some b:=hj
  rw[ow]at mj;split at mj
  ·cases mj
   obtain⟨h2,h3,h4⟩:=hs hb;omega
  ·exact h.com0 j b mj hb
 ·show (S.txs.set k a').length<=_
  have:=h.ntx;simp only[length_set,length_append,length_cons,length_nil];omega
 ·rw[length_append];have:=h.nmod;show S.mods.length<=_;omega
 ·rw[length_append]
  simp only[length_cons,length_nil];exact hc.2
 ·rw[length_append];have:=h.npl k x;show (S.places k x).length<=_;omega
 ·rw[length_append];have:=h.nlook;show S.looks.length<=_;omega
 ·have:=h.nobj x
  rw[length_append];simp only[length_cons,length_nil];show 0<=(S.obj x).getD 0/\(S.obj x).getD 0<=_;omega
theorem oR (S:HS) (i:Int) (r:aR):∀n,(S.preds i r n).num=S.num/\(S.preds i r n).txs=S.txs/\(S.preds i r n).com=S.com/\(S.preds i r n).mods=S.mods/\(S.preds i r n).places=S.places/\(S.preds i r n).ver=S.ver
 | 0=>⟨rfl,rfl,rfl,rfl,rfl,rfl⟩
 | n+1=>by
   have ih:=oR S i r n;unfold HS.preds;cases r.es[n]? with
   | none=>exact ih
   | some e=>exact ih
theorem qV.take (h:qV S l) (hr:eA l r=0) (he:r.es.length<=1000):qV (S.take l.length r) (l++[r]):=by
 obtain⟨k1,k2⟩:=ru hr;by_cases e1:r.kind=1
 ·have:S.take l.length r=S.begin l.length r:=by simp only[HS.take,if_pos e1]
  rw[this];exact h.begin e1 (jH hr e1) _
 obtain⟨b,hb⟩:=pd hr e1;have cf:=h.begun _ _ hb;obtain⟨kk,sT⟩:=ne_none_iff_exists'.1 cf;obtain⟨k,a,rfl,ha,qL⟩:=h.num _ _ sT;have hk:((S.num r.t).getD 0).toNat=k:=by rw[sT];rfl
 by_cases e2:r.kind=2
 ·have:S.take l.length r=S.look ⟨l.length,0,r.t,r.x,r.w,r.n,false,false⟩:=by simp[HS.take,e2]
  rw[this];refine h.looks (fun t=>by rw[bL,eJ Z Z Z]) rfl rfl rfl rfl rfl rfl (by simp[HS.look]) fun x=>?_
  have:=h.nobj x;have:=h.nobj r.x;show 0<=(if x=r.x then some ((S.obj r.x).getD 0+1) else S.obj x).getD 0/\(if x=r.x then some ((S.obj r.x).getD 0+1) else S.obj x).getD 0<=_;split
  ·rename_i e;subst e;simp only[getD_some];omega
  ·omega
 by_cases DW:r.kind=3\/r.kind=4
 ·have:S.take l.length r=S.modify l.length r k:=by simp only[HS.take,if_neg e1,if_neg e2,if_pos DW,hk]
  rw[this];exact h.modify DW sT _
 by_cases e5:r.kind=5
 ·have:S.take l.length r=S.preds l.length r r.es.length:=by simp[HS.take,e5]
  rw[this];obtain⟨q1,q2,q3,q4,q5,q6⟩:=oR S l.length r r.es.length;obtain⟨b1,b2⟩:=nr (S:=S) (i:=l.length) (r:=r) r.es.length;refine h.looks (fun t=>by rw[bL,eJ Z Z Z]) q1 q2 q3 q4 q5 q6 Z fun x=>?_
  have h1:=h.nobj x;have h2:=b2 x;omega
 by_cases e6:r.kind=6
 ·have:S.take l.length r=S.endTx k ⟨r.t,a.b,l.length,1,(S.com.length:Int)⟩ (S.com++[r.t]):=by simp only[HS.take,if_neg e1,if_neg e2,if_neg DW,if_neg e5,if_pos e6,hk,ha]
  rw[this];have:=h.ncom;exact h.endTx (.inl e6) sT ha rfl (by simp only[length_append,length_cons,length_nil];omega) fun _=>⟨rfl,by simp only[length_append,length_cons,length_nil];omega,rfl⟩
 ·have:S.take l.length r=S.endTx k ⟨r.t,a.b,l.length,2,a.n⟩ S.com:=by simp only[HS.take,if_neg e1,if_neg e2,if_neg DW,if_neg e5,if_neg e6,hk,ha]
  rw[this];have:=h.ncom;exact h.endTx (.inr Z) sT ha rfl Z fun q=>by cases q
theorem oc {L:List aR} (hw:∀j r,L[j]?=some r->eA (L.take j) r=0) (he:∀r ∈ L,r.es.length<=1000):∀i,i<=L.length->qV (dL L i) (L.take i)
 | 0,_=>by rw[take_zero];exact qV.start
 | i+1,hi=>by
   have ih:=oc hw he i Z;obtain⟨r,hr⟩:∃r,L[i]?=some r:=⟨L[i],aa⟩;have kB:L.take (i+1)=L.take i++[r]:=by rw[take_add_one,hr];rfl
   have hl:(L.take i).length=i:=by rw[length_take];omega
   have:=ih.take (hw i r hr) (he r (mem_of_getElem? hr));rw[hl]at this;rw[kB];unfold dL;rw[hr];exact this
theorem qV.takeOk (h:qV S l) (hl:l.length<=60) (hr:eA l r=0) (he:r.es.length<=1000):kK S r:=by
 have h1:=h.ntx;have h2:=h.nmod;have h3:=h.ncom;have h4:=h.nlook
 refine⟨ru hr,fun e1=>?_,Z,Z,Z,Z,fun x=>?_⟩
 ·obtain⟨b,hb⟩:=pd hr e1
  obtain⟨kk,sT⟩:=ne_none_iff_exists'.1 (h.begun _ _ hb);obtain⟨k,a,rfl,ha,qL⟩:=h.num _ _ sT;exact⟨k,a,sT,ha,qL,by have:=h.npl k r.x;omega⟩
 ·have:=h.nobj x;omega
theorem qV.placesOk (h:qV S l) (hl:l.length<=60):pS S:=by
 have h1:=h.ntx;have h2:=h.nmod
 refine⟨fun k x j hj=>?_,Z,Z,fun k x=>by have:=h.npl k x;omega⟩;obtain⟨j',m,e1,e2,_⟩:=h.places k x j hj;have:=(List.getElem?_eq_some_iff.1 e2).1;omega
theorem B4 {L:List aR} (hl:L.length<=60) (he:∀r ∈ L,r.es.length<=1000) (hw:∀j r,L[j]?=some r->eA (L.take j) r=0):(∀i r,L[i]?=some r->kK (dL L i) r)/\pS (dL L L.length):=by
 refine⟨fun i r hr=>?_,?_⟩
 ·have hi:=(List.getElem?_eq_some_iff.1 hr).1
  exact(oc hw he i Z).takeOk (by rw[length_take];omega) (hw i r hr) (he r (mem_of_getElem? hr))
 ·have:=oc hw he L.length (Nat.le_refl _)
  rw[take_length]at this;exact this.placesOk hl
end
end Go.Xs
namespace Go.Xs
open List Nat Option
noncomputable section
open Go.Proofs
end
end Go.Xs
namespace Go.Xs
open List Nat Option
noncomputable section
open Go.Proofs
end
end Go.Xs
namespace Go.Xs
open List Nat Option
noncomputable section
open Classical
structure sC (S:HS):Prop where
 nums:∀t k,S.num t=some k->∃(j:Nat) (a:ku),k=(j:Int)/\S.txs[j]?=some a/\a.t=t
 vers:∀x w n z,S.ver x w n=some z->∃(j:Nat) (m:fS),z=(j:Int)/\S.mods[j]?=some m
 mods:∀(j:Nat) m,S.mods[j]?=some m->S.ver m.x m.w m.n=some (j:Int)/\m.w=m.t/\1<=m.n/\∃(k:Nat) (a:ku),S.num m.t=some (k:Int)/\S.txs[k]?=some a/\a.t=m.t
 com:∀(j j':Nat) a b,S.txs[j]?=some a->S.txs[j']?=some b->a.s=1->b.s=1->j=j'\/(a.n<b.n/\a.e<b.e)\/(b.n<a.n/\b.e<a.e)
 comb:∀(j:Nat) a,S.txs[j]?=some a->a.s=1->0<=a.n/\0<=a.e/\a.e<=1000
 fin1:∀(j j':Nat) m m',S.mods[j]?=some m->S.mods[j']?=some m'->m.fin=true->m'.fin=true->m.t=m'.t->m.x=m'.x->j=j'
 nmod:S.mods.length<=60
theorem zT {L:List aR} (hl:L.length<=60) (he:∀r ∈ L,r.es.length<=1000) (hw:∀j r,L[j]?=some r->eA (L.take j) r=0):sC (jN L):=by
 have h:=oc hw he L.length (Nat.le_refl _);rw[take_length]at h;obtain⟨S,hS⟩:∃S,S=dL L L.length:=⟨_,rfl⟩;have hH:jN L=S.done L.length S.txs.length fun j=>∃k,k<S.txs.length/\dl S k j:=by rw[hS];rfl
 rw[<-hS]at h;rw[hH];have gt:∀(j:Nat) a,(xx (L.length:Int) S.txs.length S.txs)[j]?=some a->∃a0,S.txs[j]?=some a0/\a.t=a0.t/\a.s=a0.s/\a.n=a0.n/\(a.s=1->a.e=a0.e):=fun j a hj=>by
  rw[fw]at hj;cases h0:S.txs[j]? with
  | none=>rw[h0]at hj;cases hj
  | some a0 =>
    rw[h0]at hj;simp only[map_some,Option.some.injEq]at hj;subst hj;refine⟨a0,rfl,?_⟩;split
    ·rename_i e;exact⟨rfl,rfl,rfl,fun q=>by simp only at q;omega⟩
    ·exact⟨rfl,rfl,rfl,fun _=>rfl⟩
 have tg:∀(j:Nat) a0,S.txs[j]?=some a0->∃a,(xx (L.length:Int) S.txs.length S.txs)[j]?=some a/\a.t=a0.t:=fun j a0 h0=>by
  rw[fw,h0];refine⟨_,rfl,?_⟩;simp only;split<;>rfl
 obtain⟨P,hP⟩:∃P:Nat->Prop,P=fun j=>∃k,k<S.txs.length/\dl S k j:=⟨_,rfl⟩
 rw[<-hP];have gm:∀(j:Nat) m,(fJ P S.mods)[j]?=some m->∃m0,S.mods[j]?=some m0/\m = { m0 with fin:=m0.fin||decide (P j) }:=fun j m hj=>by
  rw[ie]at hj;cases h0:S.mods[j]? with
  | none=>rw[h0]at hj;cases hj
  | some m0 =>
    rw[h0]at hj;simp only[map_some,Option.some.injEq]at hj;exact⟨m0,rfl,hj.symm⟩
 have mg:∀(j:Nat) m0,S.mods[j]?=some m0->∃m,(fJ P S.mods)[j]?=some m:=fun j m0 h0=>by
  rw[ie,h0];exact⟨_,rfl⟩
 refine⟨fun t k hk=>?_,fun x w n z hz=>?_,fun j m hj=>?_,fun j j' a b hj mS ha hb=>?_,fun j a hj ha=>?_,fun j j' m m' hj mS hf Zl ht hx=>?_,?_⟩
 ·obtain⟨j,a0,e,h1,h2⟩:=h.num t k hk
  obtain⟨a,h3,h4⟩:=tg j a0 h1;exact⟨j,a,e,h3,by rw[h4];exact h2⟩
 ·obtain⟨j,m0,e,h1,_⟩:=h.vers x w n z hz
  obtain⟨m,h2⟩:=mg j m0 h1;exact⟨j,m,e,h2⟩
 ·obtain⟨m0,h1,rfl⟩:=gm j m hj
  obtain⟨k,h2,h3,h4,h5,h6,h7,h8⟩:=h.mods j m0 h1;obtain⟨k',a0,e,h9,Gf⟩:=h.num _ _ h2;obtain⟨a,RJ,uO⟩:=tg k' a0 h9;exact⟨h7,h4,h5,k',a,by rw[<-e];exact h2,RJ,by rw[uO];exact Gf⟩
 ·obtain⟨a0,h1,e1,e2,e3,e4⟩:=gt j a hj
  obtain⟨b0,u9,JS,NF,TT,e4'⟩:=gt j' b mS;have:=h.com j j' a0 b0 h1 u9 (by rw[<-e2];exact ha) (by rw[<-NF];exact hb);rw[e3,TT,e4 ha,e4' hb];exact this
 ·obtain⟨a0,h1,e1,e2,e3,e4⟩:=gt j a hj
  have:=h.comb j a0 h1 (by rw[<-e2];exact ha);have h0:=h.com0 j a0 h1 (by rw[<-e2];exact ha);rw[e3,e4 ha];omega
 ·obtain⟨m0,h1,rfl⟩:=gm j m hj
  obtain⟨m0',u9,rfl⟩:=gm j' m' mS;obtain⟨k,h2,h3,h4,h5,h6,h7,h8⟩:=h.mods j m0 h1;obtain⟨k',DY,RK,Yz,h5',h6',h7',h8'⟩:=h.mods j' m0' u9;simp only[h8,h8',Bool.false_or,decide_eq_true_eq]at hf Zl;rw[hP]at hf Zl;obtain⟨q,_,x,hq⟩:=hf;obtain⟨q',_,x',nP⟩:=Zl;obtain⟨i1,n1,f1,f2,f3,f4⟩:=h.places q x _ (mem_of_getLast? hq);obtain⟨i2,n2,g1,g2,g3,g4⟩:=h.places q' x' _ (mem_of_getLast? nP);have z1:i1=j:=Z;have z2:i2=j':=Z;subst z1;subst z2;rw[h1]at f2;rw[u9]at g2;cases f2;cases g2;have oe:m0.t=m0'.t:=ht;have Gt:m0.x=m0'.x:=hx;rw[oe,g4]at f4;have eq:q'=q:=by
   simp only[Option.some.injEq]at f4;omega
  rw[<-f3,Gt,g3,<-eq,nP]at hq;simp only[Option.some.injEq]at hq;omega
 ·have:=h.nmod
  show (fJ P S.mods).length<=60;rw[im];omega
end
end Go.Xs
namespace Go.Xs
open List Nat Option
variable{S:HS}{j:Nat}
noncomputable section
structure Je (l:List bO):Prop where
 up:l.Pairwise fun a b=>a.wr<b.wr/\a.en<b.en/\¬ (a.w=b.w/\a.n=b.n)
 born:∀e ∈ l,1<=e.n/\0<=e.en/\e.en<=1000
theorem sC.txR (h:sC S) {m:fS} (hj:S.mods[j]?=some m):∃(k:Nat) (a:ku),S.num m.t=some (k:Int)/\S.txs[k]?=some a/\Xs.txR S m.t=(a,true):=by
 obtain⟨h1,h2,h3,k,a,h4,h5,h6⟩:=h.mods j m hj;refine⟨k,a,h4,h5,?_⟩;unfold Xs.txR Ho;rw[h4];have:((k:Int)).toNat=k:=Z;simp only[this,h5]
theorem DC {x:Int} {e:bO} (he:e ∈ dk S S.mods x):∃(j:Nat) (m:fS),S.mods[j]?=some m/\m.x=x/\mL S m=true/\e=gf S m:=by
 unfold dk at he;obtain⟨m,hm,rfl⟩:=mem_map.1 he;rw[mem_filter]at hm;obtain⟨hm,hc⟩:=hm;rw[Bool.and_eq_true,decide_eq_true_eq]at hc;obtain⟨j,hj⟩:=getElem?_of_mem hm;exact⟨j,m,hj,hc.1,hc.2,rfl⟩
theorem sC.apart (h:sC S) {j':Nat} {m m':fS} (hj:S.mods[j]?=some m) (mS:S.mods[j']?=some m') (hx:m.x=m'.x) (hc:mL S m=true) (jY:mL S m'=true) :
 j=j'\/((gf S m).wr<(gf S m').wr/\(gf S m).en<(gf S m').en)\/((gf S m').wr<(gf S m).wr/\(gf S m').en<(gf S m).en):=by
 obtain⟨k,a,h1,h2,h3⟩:=h.txR hj;obtain⟨k',a',u9,DY,RK⟩:=h.txR mS;unfold mL at hc jY;rw[Bool.and_eq_true,decide_eq_true_eq]at hc jY;rw[h3]at hc;rw[RK]at jY;simp only[gf,h3,RK];rcases h.com k k' a a' h2 DY hc.2 jY.2 with e | e | e
 ·left
  subst e;rw[h2]at DY;cases DY;have ht:m.t=m'.t:=by
   obtain⟨_,_,_,q,b,g1,g2,g3⟩:=h.mods j m hj;obtain⟨_,_,_,q',b',DX,RH,RI⟩:=h.mods j' m' mS;rw[h1]at g1;rw[u9]at DX;have e1:q=k:=by simp only[Option.some.injEq]at g1;omega
   have e2:q'=k:=by simp only[Option.some.injEq]at DX;omega
   subst e1;rw[e2,g2]at RH;cases RH;rw[<-g3,<-RI]
  exact h.fin1 j j' m m' hj mS hc.1 jY.1 ht hx
 ·exact .inr (.inl e)
 ·exact .inr (.inr e)
theorem Fm (h:sC S) (x:Int):(dk S S.mods x).Pairwise fun a b=>a.wr≠b.wr:=by
 unfold dk;rw[pairwise_map,pairwise_filter,pairwise_iff_getElem];intro i j hi hj eS h1 h2;rw[Bool.and_eq_true,decide_eq_true_eq]at h1 h2;have:=h.apart (j:=i) (j':=j) (m:=S.mods[i]) (m':=S.mods[j]) aa aa (by rw[h1.1,h2.1]) h1.2 h2.2;omega
theorem P6 (h:sC S) {x:Int} {l:List bO} (hp:l.Perm (dk S S.mods x)) (hs:l.Pairwise fun a b=>a.wr<=b.wr):Je l:=by
 have pB:∀e ∈ l,∃(j:Nat) (m:fS),S.mods[j]?=some m/\m.x=x/\mL S m=true/\e=gf S m:=fun e he=>DC (hp.mem_iff.1 he)
 have cf:l.Pairwise fun a b=>a.wr≠b.wr:=(hp.pairwise_iff (fun h=>Ne.symm h)).2 (Fm h x)
 refine⟨?_,fun e he=>?_⟩
 ·have:=hs.and cf
  refine Pairwise.imp_of_mem ?_ this;rintro a b ha hb ⟨h1,h2⟩;obtain⟨j,m,e1,e2,e3,rfl⟩:=pB a ha;obtain⟨j',m',JS,NF,TT,rfl⟩:=pB b hb;rcases h.apart e1 JS (by rw[e2,NF]) e3 TT with q | q | q
  ·subst q
   rw[e1]at JS;cases JS;exact(h2 rfl).elim
  ·refine⟨q.1,q.2,fun hv=>?_⟩
   have v1:=(h.mods j m e1).1;have v2:=(h.mods j' m' JS).1;have oP:m.w=m'.w/\m.n=m'.n:=hv;rw[e2,oP.1,oP.2]at v1;rw[NF,v1]at v2;simp only[Option.some.injEq]at v2;have:j=j':=Z;subst this;rw[e1]at JS;cases JS;exact h2 rfl
  ·omega
 ·obtain⟨j,m,e1,e2,e3,rfl⟩:=pB e he
  obtain⟨v1,v2,v3,_⟩:=h.mods j m e1;obtain⟨k,a,h1,h2,h3⟩:=h.txR e1;unfold mL at e3;rw[Bool.and_eq_true,decide_eq_true_eq,h3]at e3;have:=h.comb k a h2 e3.2;simp only[gf,h3];exact⟨v3,Z,Z⟩
end
end Go.Xs
namespace Go.Xs
open List Nat Option
variable{S:HS}
noncomputable section
theorem Lk:∀{l m:List Int},l.Nodup->(∀x ∈ l,x ∈ m)->l.length<=m.length
 | [],m,_,_=>aa
 | a::l,m,hn,hs=>by
   rw[nodup_cons]at hn;have ha:=hs a (mem_cons_self ..);have:=Lk (l:=l) (m:=m.erase a) hn.2 fun x hx=>by
    have cf:x≠a:=fun e=>hn.1 (e ▸ hx)
    exact(mem_erase_of_ne cf).2 (hs x (mem_cons_of_mem _ hx))
   have hl:=length_erase_of_mem ha;have:0<m.length:=length_pos_of_mem ha;rw[length_cons];omega
structure YT (S:HS) (i:Nat):Prop where
 obj:∀x,(S.obj x).isSome=true->x ∈ S.looks.map (·.x)++S.mods.map (·.x)
 looks:S.looks.length<=60*i
 mods:S.mods.length<=i
theorem zD {a:my} (h:∀x,(S.obj x).isSome=true->x ∈ S.looks.map (·.x)++S.mods.map (·.x)):∀x,((S.look a).obj x).isSome=true->x ∈ (S.look a).looks.map (·.x)++(S.look a).mods.map (·.x):=fun x hx=>by
 simp only[HS.look]at hx ⊢;split at hx
 ·rename_i e;subst e;simp
 ·have:=h x hx
  simp only[map_append,mem_append,mem_map]at this ⊢;rcases this with q | q
  ·exact .inl (.inl q)
  ·exact .inr q
theorem xc {S:HS} {i:Int} {r:aR} (h:∀x,(S.obj x).isSome=true->x ∈ S.looks.map (·.x)++S.mods.map (·.x)):∀n,(∀x,((S.preds i r n).obj x).isSome=true->x ∈ (S.preds i r n).looks.map (·.x)++(S.preds i r n).mods.map (·.x))/\(S.preds i r n).looks.length<=S.looks.length+n/\(S.preds i r n).mods=S.mods
 | 0=>⟨h,by simp[HS.preds],rfl⟩
 | n+1=>by
   obtain⟨h1,h2,h3⟩:=xc h n;unfold HS.preds;split
   ·exact⟨zD h1,by simp only[HS.look,length_append,length_cons,length_nil];omega,h3⟩
   ·exact⟨h1,Z,h3⟩
theorem Ki {i:Nat} {r:aR} (h:YT S i) (he:r.es.length<=60):YT (S.take i r) (i+1):=by
 obtain⟨h1,h2,h3⟩:=h;unfold HS.take;split
 ·exact⟨h1,by simp only[HS.begin];omega,by simp only[HS.begin];omega⟩
 split
 ·exact⟨zD h1,by simp only[HS.look,length_append,length_cons,length_nil];omega,by simp only[HS.look];omega⟩
 split
 ·refine⟨fun x hx=>?_,by simp only[HS.modify];omega,by simp only[HS.modify,length_append,length_cons,length_nil];omega⟩
  simp only[HS.modify]at hx ⊢;split at hx
  ·rename_i e;subst e;simp
  ·have:=h1 x hx
   simp only[map_append,mem_append]at this ⊢;rcases this with q | q
   ·exact .inl q
   ·exact .inr (.inl q)
 split
 ·obtain⟨g1,g2,g3⟩:=xc (S:=S) (i:=i) (r:=r) h1 r.es.length
  exact⟨g1,Z,by rw[g3];omega⟩
 split
 ·split
  ·exact⟨h1,by simp only[HS.endTx];omega,by simp only[HS.endTx];omega⟩
  ·exact⟨h1,Z,Z⟩
 ·split
  ·exact⟨h1,by simp only[HS.endTx];omega,by simp only[HS.endTx];omega⟩
  ·exact⟨h1,Z,Z⟩
theorem uG {L:List aR} (he:∀r ∈ L,r.es.length<=60):∀i,i<=L.length->YT (dL L i) i
 | 0,_=>⟨fun x hx=>by simp[dL,vF]at hx,by simp[dL,vF],by simp[dL,vF]⟩
 | i+1,hi=>by
   have ih:=uG he i Z;obtain⟨r,hr⟩:∃r,L[i]?=some r:=⟨L[i]' Z,getElem?_eq_getElem _⟩;unfold dL;rw[hr];exact Ki ih (he r (mem_of_getElem? hr))
def uY (S:HS) (x:Int):List bO:=open Classical in if h:∃l:List bO,l.Perm (dk S S.mods x)/\l.Pairwise (fun a b=>a.wr<=b.wr) then Classical.choose h else []
def zW (S:HS):List Int:=open Classical in if h:∃ys,D3 S ys then Classical.choose h else []
theorem Hb:∀{l m:List bO},l.Pairwise (fun a b=>a.wr<b.wr)->m.Pairwise (fun a b=>a.wr<b.wr)->(∀e,e ∈ l ↔ e ∈ m)->l=m
 | [],[],_,_,_=>rfl
 | [],b::m,_,_,h=>by have:=(h b).2 (mem_cons_self ..);cases this
 | a::l,[],_,_,h=>by have:=(h a).1 (mem_cons_self ..);cases this
 | a::l,b::m,h1,h2,h=>by
   rw[pairwise_cons]at h1 h2;have qJ:a=b:=by
    rcases mem_cons.1 ((h a).1 (mem_cons_self ..)) with e | e
    ·exact e
    ·rcases mem_cons.1 ((h b).2 (mem_cons_self ..)) with e' | e'
     ·exact e'.symm
     ·have:=h1.1 b e';have:=h2.1 a e;omega
   subst qJ;rw[Hb h1.2 h2.2 fun e=>⟨fun he=>?_,fun he=>?_⟩]
   ·rcases mem_cons.1 ((h e).1 (mem_cons_of_mem _ he)) with e' | e'
    ·subst e';have:=h1.1 e he;omega
    ·exact e'
   ·rcases mem_cons.1 ((h e).2 (mem_cons_of_mem _ he)) with e' | e'
    ·subst e';have:=h2.1 e he;omega
    ·exact e'
theorem Ld (h:sC S) {x:Int} {l m:List bO} (h1:l.Perm (dk S S.mods x)) (h2:l.Pairwise fun a b=>a.wr<=b.wr) (h3:m.Perm (dk S S.mods x)) (h4:m.Pairwise fun a b=>a.wr<=b.wr):l=m :=
 Hb ((P6 h h1 h2).up.imp fun h=>h.1) ((P6 h h3 h4).up.imp fun h=>h.1) fun e=>by rw[h1.mem_iff,h3.mem_iff]
theorem Kf (h:sC S) {x:Int} {l:List bO} (h1:l.Perm (dk S S.mods x)) (h2:l.Pairwise fun a b=>a.wr<=b.wr):l=uY S x:=by
 have hx:∃l:List bO,l.Perm (dk S S.mods x)/\l.Pairwise (fun a b=>a.wr<=b.wr):=⟨l,h1,h2⟩;unfold uY;rw[dif_pos hx];exact Ld h h1 h2 (Classical.choose_spec hx).1 (Classical.choose_spec hx).2
theorem GB:∀{l m:List Int},l.Pairwise (· < ·)->m.Pairwise (· < ·)->(∀e,e ∈ l ↔ e ∈ m)->l=m
 | [],[],_,_,_=>rfl
 | [],b::m,_,_,h=>by have:=(h b).2 (mem_cons_self ..);cases this
 | a::l,[],_,_,h=>by have:=(h a).1 (mem_cons_self ..);cases this
 | a::l,b::m,h1,h2,h=>by
   rw[pairwise_cons]at h1 h2;have qJ:a=b:=by
    rcases mem_cons.1 ((h a).1 (mem_cons_self ..)) with e | e
    ·exact e
    ·rcases mem_cons.1 ((h b).2 (mem_cons_self ..)) with e' | e'
     ·exact e'.symm
     ·have:=h1.1 b e';have:=h2.1 a e;omega
   subst qJ;rw[GB h1.2 h2.2 fun e=>⟨fun he=>?_,fun he=>?_⟩]
   ·rcases mem_cons.1 ((h e).1 (mem_cons_of_mem _ he)) with e' | e'
    ·subst e';have:=h1.1 e he;omega
    ·exact e'
   ·rcases mem_cons.1 ((h e).2 (mem_cons_of_mem _ he)) with e' | e'
    ·subst e';have:=h2.1 e he;omega
    ·exact e'
theorem QU {ys:List Int} (h:D3 S ys):ys=zW S:=by
 have hx:∃ys,D3 S ys:=⟨ys,h⟩;unfold zW;rw[dif_pos hx];have h2:=Classical.choose_spec hx;exact GB h.1 h2.1 fun e=>by rw[h.2,h2.2]
theorem Oq (S:HS) (x:Int):(dk S S.mods x).length<=S.mods.length:=by
 unfold dk;rw[length_map];exact length_filter_le _ _
theorem LZ (S:HS) (x:Int):(uY S x).length<=S.mods.length:=by
 unfold uY;split
 ·rename_i h
  rw[(Classical.choose_spec h).1.length_eq];exact Oq S x
 ·simp
structure E0 (L:List aR):Prop where
 len:L.length<=60
 es:∀r ∈ L,r.es.length<=60
 exs:∀r ∈ L,dV r.p<=60
 pos:∀r ∈ L,gI r.p
theorem No {L:List aR} (hf:E0 L) (hw:∀j r,L[j]?=some r->eA (L.take j) r=0) {M N:Hp} {nx lo h:Nat} {cr:List XV} (hF:HF M nx N lo h ((jN L).wr L.length cr))
 (hR:∀j r,L[j]?=some r->eL M (iJ nx N) r ((cr.drop (j*11)).take 11)):vN M nx h ((jN L).wr L.length cr) L (uY (jN L)) (zW (jN L)):=by
 have he:∀r ∈ L,r.es.length<=1000:=fun r hr=>by have:=hf.es r hr;omega
 have vW:=zT hf.len he hw;have VM:=uG hf.es L.length (Nat.le_refl _);have MD:((jN L).wr L.length cr).looks=(dL L L.length).looks:=rfl;have JF:((jN L).wr L.length cr).mods.length=(dL L L.length).mods.length:=by
  show (fJ _ _).length=_;rw[im]
 obtain⟨hi,h1,h2⟩:=hF.hist;refine { hist:=⟨lo,hi,h2,h1⟩,n:=rfl,recs:=fun j r hr=>(hR j r hr).lt fun k hk=>hk.1,few:=by have:=hf.len;omega,fewr:=fun r hr=>by have:=hf.es r hr;have:=hf.exs r hr;omega,fewk:=?_,fewo:=fun l hn hx=>?_,nums:=fun t k hk=>?_,vers:=vW.vers,fewm:=?_,exs:=fun r hr _=>⟨by have:=hf.exs r hr;omega,hf.pos r hr⟩,pos:=fun x e hx=>?_,row:=fun x l h1 h2=>Kf vW h1 h2,rowl:=fun x=>?_,objs:=fun ys h=>QU h }
 ·have:=VM.looks;have:=hf.len;rw[MD];omega
 ·have:=Lk hn fun x hxl=>VM.obj x (hx x hxl)
  rw[length_append,length_map,length_map]at this;have:=VM.looks;have:=VM.mods;have:=hf.len
  omega
 ·obtain⟨j,a,e1,e2,_⟩:=vW.nums t k hk
  exact⟨j,a,e1,e2⟩
 ·have:=VM.mods;have:=hf.len;omega
 ·obtain⟨j,m,e1,_,_,rfl⟩:=DC hx
  exact(vW.mods j m e1).2.2.1
 ·have:=LZ (jN L) x;have:=vW.nmod;omega
end
end Go.Xs
namespace Go.Xs
open List Nat Option
noncomputable section
theorem Q8:∀j r,iS[j]?=some r->eA (iS.take j) r=0:=by
 have h:((List.range 10).all fun j=>match iS[j]? with | some r=>decide (eA (iS.take j) r=0) | none=>true)=true:=U;intro j r hj;have hl:j<10:=by have:=(List.getElem?_eq_some_iff.1 hj).1;exact this
 rw[List.all_eq_true]at h;have:=h j (mem_range.2 hl);rw[hj]at this;simpa using this
theorem EJ:E0 iS:=by
 refine⟨af,?_,?_,?_⟩
 ·have h:(iS.all fun r=>decide (r.es.length<=60))=true:=U
  simpa using h
 ·have h:(iS.all fun r=>decide (dV r.p<=60))=true:=U
  simpa using h
 ·intro r hr
  simp only[iS,NC,map_cons,map_nil,mem_cons,not_mem_nil,or_false]at hr;rcases hr with rfl | rfl | rfl | rfl | rfl | rfl | rfl | rfl | rfl | rfl<;>simp[KK,gI,o_]
theorem JO:sC (jN iS):=zT af (fun r hr=>by have:=EJ.es r hr;omega) Q8
theorem G7:(jN iS).mods=[⟨1,1,5,1,1,7,false,true⟩,⟨6,3,5,3,1,0,true,true⟩,⟨7,3,6,3,1,1,false,true⟩]:=by
 have h0:(dL iS iS.length).mods=[⟨1,1,5,1,1,7,false,false⟩,⟨6,3,5,3,1,0,true,false⟩,⟨7,3,6,3,1,1,false,false⟩]:=U;have h1:(dL iS iS.length).txs.length=3:=U;have p:∀j:Nat,j<3->∃k,k<(dL iS iS.length).txs.length/\dl (dL iS iS.length) k j:=by
  rw[h1];intro j hj
  match j,hj with
  | 0,_=>exact⟨0,af,5,U⟩
  | 1,_=>exact⟨2,af,5,U⟩
  | 2,_=>exact⟨2,af,6,U⟩
 unfold jN HS.done;simp only;rw[h0];simp only[fJ,List.mapIdx_cons,List.mapIdx_nil,Bool.false_or,Nat.zero_add,Nat.reduceAdd];simp only[eq_true (p 0 af),eq_true (p 1 af),eq_true (p 2 af),decide_true]
theorem OO:uY (jN iS) 5=[⟨1,1,0,2⟩,⟨3,1,1,8⟩]:=by
 refine(Kf JO ?_ aa).symm;rw[G7];have:dk (jN iS) [⟨1,1,5,1,1,7,false,true⟩,⟨6,3,5,3,1,0,true,true⟩,⟨7,3,6,3,1,1,false,true⟩] 5=[⟨1,1,0,2⟩,⟨3,1,1,8⟩]:=U;rw[this]
theorem P3:uY (jN iS) 6=[⟨3,1,1,8⟩]:=by
 refine(Kf JO ?_ aa).symm;rw[G7];have:dk (jN iS) [⟨1,1,5,1,1,7,false,true⟩,⟨6,3,5,3,1,0,true,true⟩,⟨7,3,6,3,1,1,false,true⟩] 6=[⟨3,1,1,8⟩]:=U;rw[this]
theorem SE:zW (jN iS)=[5,6]:=by
 refine(QU ⟨aa,fun x=>⟨fun hx=>?_,fun hx=>?_⟩⟩).symm
 ·simp only[mem_cons,not_mem_nil,or_false]at hx
  rcases hx with rfl | rfl<;>kernel_rfl
 ·have:=(uG EJ.es iS.length (Nat.le_refl _)).obj x hx
  rw[show (dL iS iS.length).looks.map (·.x)++(dL iS iS.length).mods.map (·.x)=[5,5,5,6] by kernel_rfl]at this;simp only[mem_cons,not_mem_nil,or_false]at this ⊢;omega
theorem OF {l:List my} {p t x:Int}:(iH l p t x).x=x:=by
 unfold iH;split
 ·rename_i k hk
  have:=List.find?_some hk;simpa using this
 ·rfl
theorem I1 {S:HS} {Y:List Int} {R R':Int->List bO} (h:∀x ∈ Y,R x=R' x) (j:Nat) (r:aR):nl S Y R j r=nl S Y R' j r:=by
 unfold nl;split
 ·rw[List.flatMap_map,List.flatMap_map]
  induction Y with
  | nil=>rfl
  | cons y Y ih =>
    rw[flatMap_cons,flatMap_cons,ih fun x hx=>h x (mem_cons_of_mem _ hx)];unfold Gd;rw[OF,h y (mem_cons_self ..)]
 ·rfl
theorem pM {f g:Nat->aR->List aB} (h:∀j r,f j r=g j r) (ask:Int->Bool):∀(L:List aR) (j:Nat),fI f ask j L=fI g ask j L
 | [],_=>rfl
 | r::L,j=>by rw[fI,fI,h,pM h ask L]
def WE:List aB:=[⟨0,2,4,5,1,1,1,1,4⟩,⟨2,1,5,5,1,1,3,1,4⟩,⟨2,1,5,6,0,0,3,1,4⟩]
theorem ws_T (cr:List XV):fI (nl ((jN iS).wr iS.length cr) (zW (jN iS)) (uY (jN iS))) (fun _=>true) 0 iS=WE:=by
 rw[SE,pM (I1 (R':=fun x=>if x=5 then [⟨1,1,0,2⟩,⟨3,1,1,8⟩] else [⟨3,1,1,8⟩]) fun x hx=>?_)]
 ·kernel_rfl
 ·simp only[mem_cons,not_mem_nil,or_false]at hx
  rcases hx with rfl | rfl
  ·rw[OO];rfl
  ·rw[P3];rfl
theorem Mb {a b:aB} (h1:Ir a b=false) (h2:Ir b a=false):a=b:=by
 unfold Ir at h1 h2;have:=CJ (l:=oK a) (m:=oK b) rfl h1 h2;exact M_ this
theorem wh {l m:List aB} (h:l.Perm m) (h1:l.Pairwise fun a b=>Ir b a=false) (h2:m.Pairwise fun a b=>Ir b a=false):l=m :=
 List.Perm.eq_of_pairwise (fun a b _ _ h3 h4=>Mb h4 h3) h1 h2 h
end
end Go.Xs
namespace Go.Xs
open List Nat Option
noncomputable section
open Go.RowKit
def Ce:List XV->Option (List (List Nat))
 | []=>some []
 | .str s::vs=>match Ce vs with | some l=>some (s::l) | none=>none
 | _=>none
def yu (sep:List Nat):List (List Nat)->List Nat
 | []=>[]
 | x::xs=>sep++(x++yu sep xs)
def Ar (sep:List Nat):List (List Nat)->List Nat
 | []=>[]
 | x::xs=>x++yu sep xs
def ro (f:Nat):Bw:=fun g args M=>match Nat.beq g f,args with
 | true,[.sl n 1 off len cap,.str sep]=>match bA M n with
   | some cs=>match Nat.ble 1 len,Nat.ble len fE,Nat.ble (off+len) cs.length,Ce ((cs.drop off).take len) with
     | true,true,true,some xs=>match Nat.ble (Ar sep xs).length fE with
       | true=>some (.str (Ar sep xs))
       | false=>none
     | _,_,_,_=>none
   | none=>none
 | _,_=>none
abbrev Jf (l:List UInt8):List Nat:=l.map fun b=>b.toNat
theorem wS (sep:List UInt8):∀(xs:List (List UInt8)),yu (Jf sep) (xs.map Jf)=Jf (Lib.joinTail sep xs)
 | []=>rfl
 | x::xs=>by
   simp only[map_cons,yu,wS sep xs];simp[Lib.joinTail,Jf]
theorem KA (sep:List UInt8) (xs:List (List UInt8)):Ar (Jf sep) (xs.map Jf)=Jf (Lib.join xs sep):=by
 cases xs with
 | nil=>rfl
 | cons x xs =>
   rw[map_cons,Ar,wS,Lib.join_cons];simp[Jf]
theorem Bg {ρ:aK} {σ:cb}:∀{cs:List XV} {xs:List (List Nat)} {us:List Value},Ce cs=some xs->bb ρ σ cs us->∃ts:List ByteArray,us=ts.map .string/\ts.map (fun t=>Jf t.data.toList)=xs
 | [],xs,us,h,hv=>by
   simp only[Ce,Option.some.injEq]at h;subst h;simp only[bb]at hv;exact⟨[],hv,rfl⟩
 | c::cs,xs,us,h,hv=>by
   unfold Ce at h;split at h<;>(try (cases h;done))
   ·rename_i e;cases e
   ·rename_i s vs e
    cases e;split at h<;>(try (cases h;done))
    rename_i l hl;cases h;simp only[bb,VR]at hv;obtain⟨u,us',rfl,⟨t,rfl,ht⟩,hv⟩:=hv;obtain⟨ts,e1,e2⟩:=Bg hl hv;exact⟨t::ts,by rw[e1];rfl,by rw[map_cons,e2,<-ht]⟩
theorem DS {P:Program} {ρ:aK} {f:Nat} {fn:Func} (h1:P.funcs[f]?=some fn) (h2:(fn.name == "runtime.NumGoroutine")=false) (h3:fn.body.isNone=false)
 (hJ:∀(bk o c:Nat) (xs:List ByteArray) (sep:ByteArray) (w:World),(∀(j:Nat) x,xs[j]?=some x->w.cell? ⟨bk,o+j,none⟩=some (.string x))->bk<w.heap.size->xs.length<=140737488355328->xs.length<=c ->
   (Lib.join (xs.map (·.data.toList)) sep.data.toList).length<=140737488355328 ->
   Calls P f #[.slice (some ⟨bk,o,none⟩) xs.length c,.string sep] w fun e w'=>e = .returned (.string ⟨(Lib.join (xs.map (·.data.toList)) sep.data.toList).toArray⟩)/\Below w.heap.size w w'):Dt P ρ (ro f):=by
 intro g args M v hv w σ vs aQ CR o a K Q hK;unfold ro at hv;split at hv<;>(try (cases hv;done))
 rename_i n off len cap sep hg;split at hv<;>(try (cases hv;done))
 rename_i cs dI;split at hv<;>(try (cases hv;done))
 rename_i xs ay NW sU hxs;split at hv<;>(try (cases hv;done))
 rename_i Jr;cases hv;have:=eq_of_beq_eq_true hg;subst this;have ay:=le_of_ble_eq_true ay;have sU:=le_of_ble_eq_true sU;have Jr:=le_of_ble_eq_true Jr;unfold fE at Jr;simp only[bb,VR]at CR;obtain⟨u1,us1,rfl,⟨b,room,cap',off',hσ,rfl,q1,q2,q3,q4⟩,u2,Sa,rfl,⟨tsep,rfl,hsep⟩,rfl⟩:=CR;have q3:off'=(⟨b,off,none⟩:Addr):=by
  rcases q3 with q | q
  ·exact q
  ·omega
 subst q3;obtain⟨b',room',us,t,fz,hm,lJ,hh,cJ,cF,hfz,US⟩:=sZ aQ dI;rw[hσ]at lJ;cases lJ;obtain⟨ws,g1,g2,g3⟩:=nR hh US off len sU;obtain⟨ts,e1,e2⟩:=Bg hxs g1;have Xw:ts.length=len:=by rw[<-g2,e1,length_map]
 have NW:=le_of_ble_eq_true NW;unfold fE at NW;have hj:=KA tsep.data.toList (ts.map (·.data.toList));have e3:(ts.map (·.data.toList)).map Jf=xs:=by rw[<-e2,List.map_map];rfl
 have yY:Ar sep xs=Jf (Lib.join (ts.map (·.data.toList)) tsep.data.toList):=by rw[<-e3,<-hj,<-hsep]
 have hc:=hJ b off cap' ts tsep w (fun j x hx=>g3 j _ (by rw[e1,getElem?_map,hx];rfl)) (Array.getElem?_eq_some_iff.1 hh).1 Z Z (by
  rw[yY]at Jr;simp only[Jf,length_map]at Jr;omega)
 rw[Xw]at hc;refine Bp aQ h1 h2 h3 hc ?_ hK;simp only[VR];exact⟨_,rfl,by rw[yY]⟩
end
end Go.Xs
namespace Go.Xs
open List Nat Option
noncomputable section
open Go.Proofs Go.RowKit
def WT (L:List aR):Prop:=∀j r,L[j]?=some r->eA (L.take j) r=0
structure ZT (L:List aR) (M:Hp) (nx:Nat) (o:ew):Prop where
 post:(¬ WT L/\∃n rl:Int,rl≠0/\o.1 = .tup [.nilp,.int .i64 n,.int .i64 rl])\/(WT L/\∃h cr,o.1 = .tup [.mp h 0,.int .i64 L.length,.int .i64 0]/\vN o.2.1 o.2.2 h ((jN L).wr L.length cr) L (uY (jN L)) (zW (jN L)))
 agr:aq nx M o.2.1
 le:nx<=o.2.2
theorem oH (hS:kL) (hN:kJ) (ρ:aK) (j9:ρ.det=false) {M:Hp} {nx b:Nat} {v:XV} {L:List aR} (hL:cP M b v L) (hb:b<=nx) (hf:E0 L):ar am ρ 9 [v] M nx (ZT L M nx):=by
 have he:∀r ∈ L,r.es.length<=1000:=fun r hr=>by have:=hf.es r hr;omega
 have hl:=hf.len;refine(f9 hS hN ρ j9 hL hb Z (fun r hr=>⟨⟨by have:=hf.exs r hr;omega,hf.pos r hr⟩,he r hr⟩) fun Gs=>B4 hl he Gs).mono fun o ⟨n,rl,⟨c1,c2⟩,jT,hp⟩=>?_
 rcases hp with ⟨je,ho,ha⟩ | ⟨je,h,N,cr,ho,hF,ha,hR⟩
 ·refine⟨.inl ⟨fun hw=>?_,n,rl,je,ho⟩,ha,jT⟩
  rcases c2 with ⟨_,e⟩ | ⟨r,h1,h2,h3⟩
  ·exact je e
  ·exact h3 (by rw[<-h2];exact hw n r h1)
 ·have hn:n=L.length:=by
   rcases c2 with ⟨e,_⟩ | ⟨r,h1,h2,h3⟩
   ·exact e
   ·exact(h3 je).elim
  have hw:WT L:=fun j r hj=>c1 j r (by rw[hn];exact(List.getElem?_eq_some_iff.1 hj).1) hj
  subst hn;exact⟨.inr ⟨hw,h,cr,ho,No hf hw hF hR⟩,ha,jT⟩
def nM:Prop:=∀ρ,Dt am ρ (ro 58)
def Es (e:aB):Option (List ew):=Ty am (fun _ _ _=>none) (fun g args M=>match KD 294 372 g args M with | some v=>some v | none=>ro 58 g args M) 100000 60 26 [.agg (aG e)] .nil 0
theorem vc (hJ:nM) (ρ:aK) {e:aB} {s:List Nat} (h1:(Nd (Es e)).isSome=true) (h2:(lB (Es e)).1 = .str s) (M:Hp) (nx:Nat):ar am ρ 26 [.agg (aG e)] M nx (fe nx M (.str s)):=by
 have h0:ft am ρ 26 [.agg (aG e)] .nil 0 fun x=>x=lB (Es e):=ft.run (LH (ρ:=ρ) follows (mV names) (fun _ _ _ _ _ h=>by cases h) (Dt.or (I2 ρ) (hJ ρ)) (fuel:=100000) 60) (GP h1)
 rw[show lB (Es e)=((lB (Es e)).1,(lB (Es e)).2.1,(lB (Es e)).2.2) from rfl,h2]at h0;refine(ar.shift (fun σ vs hv=>by simpa only [aG,bb,VR] using hv) h0 [] M nx).mono fun r ⟨q1,q2,q3,_⟩=>⟨q1,q3,Z⟩
theorem VB (hJ:nM) (ρ:aK) (M:Hp) (nx:Nat):ar am ρ 26 [.agg (aG ⟨0,2,4,5,1,1,1,1,4⟩)] M nx (fe nx M (.str [48,32,112,119,114,32,50,32,53,32,49,46,49,32,49,46,49,32,52])):=vc hJ ρ U U M nx
theorem Vs (hJ:nM) (ρ:aK) (M:Hp) (nx:Nat):ar am ρ 26 [.agg (aG ⟨2,1,5,5,1,1,3,1,4⟩)] M nx (fe nx M (.str [50,32,112,114,119,32,49,32,53,32,49,46,49,32,51,46,49,32,52])):=vc hJ ρ U U M nx
theorem Uk (hJ:nM) (ρ:aK) (M:Hp) (nx:Nat):ar am ρ 26 [.agg (aG ⟨2,1,5,6,0,0,3,1,4⟩)] M nx (fe nx M (.str [50,32,112,114,119,32,49,32,54,32,48,46,48,32,51,46,49,32,52])):=vc hJ ρ U U M nx
theorem f8 (hS:kL) (hN:kJ) (hI:Ci) (hE:nQ) (hJ:nM) (ρ:aK) (j9:ρ.det=false) (M:Hp) (nx:Nat):ar am ρ 8 [] M nx fun r=>r.1 = .bool true/\aq nx M r.2.1/\nx<=r.2.2:=by
 refine ar.wk 39 [.tmp 0] Tryz.func8 ?_;refine bR wH ?_;generalize xu:ap M (nx+1) _=M1;have a1:aq nx M M1:=by rw[<-xu];exact O
 have z1:gG M1 (nx+1)=some (.row (NC.map fun p=>.str p.1)):=by rw[<-xu,ao,if_pos rfl];rfl
 clear xu;refine gQ (Rp hS hN ρ j9 (show nx+1<nx+2 by omega) z1 (Q:=fun o=>∃h cr,o.1 = .mp h 0/\vN o.2.1 o.2.2 h ((jN iS).wr iS.length cr) iS (uY (jN iS)) (zW (jN iS))) fun M' n' v ha hn gS=>(oH hS hN ρ j9 gS (Nat.le_refl _) EJ).mono fun o ⟨hp,h2,h3⟩=>?_) ?_
 ·rcases hp with ⟨hw,_⟩ | ⟨_,h,cr,ho,Wk⟩
  ·exact(hw Q8).elim
  ·exact⟨h,ho,h2,h3,fun N n2 hN fq=>⟨h,cr,rfl,Wk.agr hN fq⟩⟩
 rintro⟨u,M2,n2⟩ ⟨⟨h,cr,g1,g2⟩,g3,g4⟩;simp only at g1 g2 g3 g4;subst g1;have a2:aq nx M M2:=a1.trans (g3.le Z);clear a1 z1 g3;have hT:=ws_T cr;have hl:(fI (nl ((jN iS).wr iS.length cr) (zW (jN iS)) (uY (jN iS))) (fun _=>true) 0 iS).length<=1000:=by rw[hT];decide
 refine bR wH ?_;refine gQ (DN hS hN hI hE ρ j9 (g2.agr (aq.refl _ _) Z) hl) ?_;rintro⟨ua,M3,n3⟩ ⟨la,k1,k2,k3,k4,k5⟩;simp only at k1 k2 k3 k4 k5;rw[hT]at k1;obtain rfl:=wh k1 k2 af;have Wt:bE M3 n3 ua 9 1 ([WE[0]].flatMap aG):=k3.at fun k hk=>hk.2
 have a3:aq nx M M3:=a2.trans (k4.le Z);clear k1 k2 k3;refine bR wH ?_;refine gQ (KB hS hN hI hE ρ j9 (g2.agr (k4.le Z) Z) hl) ?_;rintro⟨ub,M4,n4⟩ ⟨lb,k6,k7,k8,k9,k10⟩;simp only at k6 k7 k8 k9 k10;rw[hT]at k6;obtain rfl:=wh k6 k7 af;have Xr:bE M4 n4 ub 9 2 ([WE[1],WE[2]].flatMap aG):=k8.at fun k hk=>hk.2
 have Wt:=(Wt.agr (k9.le Z)).wk (b':=n4) Z;have a4:aq nx M M4:=a3.trans (k9.le Z);clear k6 k7 k8 k9 k4 hT hl g2 a2 a3;have TN:=Wt.cell;have Jh:=Xr.cell;have hlA:=fun N=>Wt.len (P:=am) (t:=29) Lc.2.2.2.2.2 N
 have Xo:=fun N=>Xr.len (P:=am) (t:=29) Lc.2.2.2.2.2 N
 obtain⟨q1,o1,_,x1,d1⟩:=Wt.elem (P:=am) (i:=0) af (t:=29) (t':=35) Lc.2.2.2.1 jW.1;obtain⟨q2,o2,_,x2,d2⟩:=Xr.elem (P:=am) (i:=0) af (t:=29) (t':=35) Lc.2.2.2.1 jW.1;obtain⟨q3,o3,_,x3,d3⟩:=Xr.elem (P:=am) (i:=1) af (t:=29) (t':=35) Lc.2.2.2.1 jW.1;have x1:∀k,br am 29 ua (.int k 0)=some (.mp q1 o1):=x1;have x2:∀k,br am 29 ub (.int k 0)=some (.mp q2 o2):=x2;have x3:∀k,br am 29 ub (.int k 1)=some (.mp q3 o3):=x3;have d1:∀N,aq n4 M4 N->b_ am N 35 (.mp q1 o1)=some ⟨.agg [.int .i64 0,.int .i64 2,.int .i64 4,.int .u64 5,.int .u64 1,.int .u64 1,.int .u64 1,.int .u64 1,.int .i64 4],[q1],[]⟩:=d1;have d2:∀N,aq n4 M4 N->b_ am N 35 (.mp q2 o2)=some ⟨.agg [.int .i64 2,.int .i64 1,.int .i64 5,.int .u64 5,.int .u64 1,.int .u64 1,.int .u64 3,.int .u64 1,.int .i64 4],[q2],[]⟩:=d2;have d3:∀N,aq n4 M4 N->b_ am N 35 (.mp q3 o3)=some ⟨.agg [.int .i64 2,.int .i64 1,.int .i64 5,.int .u64 6,.int .u64 0,.int .u64 0,.int .u64 3,.int .u64 1,.int .i64 4],[q3],[]⟩:=d3;have t1:∀b,io am g0 9 .eql b (.str [48,32,112,119,114,32,50,32,53,32,49,46,49,32,49,46,49,32,52]) (.str (List.map (fun c:UInt8=>c.toNat) [48,32,112,119,114,32,50,32,53,32,49,46,49,32,49,46,49,32,52]))=some (.bool true):=fun b=>by cases b<;>kernel_rfl
 have t2:∀b,io am g0 9 .eql b (.str [50,32,112,114,119,32,49,32,53,32,49,46,49,32,51,46,49,32,52]) (.str (List.map (fun c:UInt8=>c.toNat) [50,32,112,114,119,32,49,32,53,32,49,46,49,32,51,46,49,32,52]))=some (.bool true):=fun b=>by cases b<;>kernel_rfl
 have t3:∀b,io am g0 9 .eql b (.str [50,32,112,114,119,32,49,32,54,32,48,46,48,32,51,46,49,32,52]) (.str (List.map (fun c:UInt8=>c.toNat) [50,32,112,114,119,32,49,32,54,32,48,46,48,32,51,46,49,32,52]))=some (.bool true):=fun b=>by cases b<;>kernel_rfl
 have e1:=d1 M4 (aq.refl _ _);refine iQ wH TN.1 TN.2 Jh.1 Jh.2 hlA x1 e1 ?_;refine lG (VB hJ ρ M4 _) fun M5 n5 g2 g3=>?_
 have e2:=d2 M5 (g2.le Z);refine CU wH TN.1 TN.2 Jh.1 Jh.2 Xo x2 e2 t1 ?_;refine lG (Vs hJ ρ M5 _) fun M6 n6 g5 g6=>?_
 have a6:aq n4 M4 M6:=(g2.le Z).trans (g5.le Z);have e3:=d3 M6 a6;refine CU wH TN.1 TN.2 Jh.1 Jh.2 Xo x3 e3 t2 ?_;refine lG (Uk hJ ρ M6 _) fun M7 n7 g8 g9=>?_
 refine mI wH t3 ?_;exact⟨a4.trans ((a6.trans (g8.le Z)).le Z),Z⟩
end
end Go.Xs
namespace Go.Xs
open List Nat Option
open Go.Proofs
theorem Nl:∀(sz:Nat) (ρ:aK) (e:Ex) (M:Hp) (nx b:Nat) (cs:List XV),dV e<sz->bG M b e cs->b<=nx->dV e<=100000->ar am ρ 55 [.agg cs] M nx fun r=>kO nx e r/\aq nx M r.2.1/\nx<=r.2.2:=by
 intro sz
 induction sz with
 | zero=>intro ρ e M nx b cs h;omega
 | succ sz ih =>
 intro ρ e M nx b cs cJ he hb ip;refine ar.closed fun cF c_=>?_
 obtain⟨k,x,y,ps⟩:=e;simp only[bG]at he;obtain⟨v,row,rfl,cw,jd⟩:=he;have hv:=cw.cell;have Us:aO nx v=true:=by
  simp only[aE,aO]at c_;split at c_
  ·rename_i q;split at q
   ·rename_i q2;exact q2
   ·cases q
  ·cases c_
 have D5:ps.length<=100000:=by
  have:=lz ps;simp only[dV]at ip;omega
 have ay:=fun N=>cw.len (P:=am) (t:=42) eP.2.2.2.2.2 N
 refine ar.wk 31 [.cell 2 44] Tryz.func55 ?_;refine Ao fT hv.1 hv.2 ?_;refine aC (fun m' s=>∃(i K:Nat) (vv:XV) (rw:List XV),i<=ps.length/\m'=ps.length - i/\gG s.env 1=some (.mp nx 0)/\gG s.env 2=some (.mp (nx+1) 0)/\gG s.env 3=some (.mp (nx+9) 0)/\gG s.env 4=some (.int .i64 i) /\
  gG s.M nx=some (.row [.int .i64 k,.int .u64 x,.int .u64 y,v])/\gG s.M (nx+1)=some (.row [.int .i64 0,.int .u64 0,.int .u64 0,.nils])/\gG s.M (nx+9)=some (.row [.int .i64 k,.int .u64 x,.int .u64 y,vv])/\rw.length=i*4/\(vv = .nils/\i=0\/0<i/\vv = .sl K 4 0 i i/\gG s.M K=some (.row rw))/\nx+9<K/\K<s.nx /\
  (∀j e,j<i->ps[j]?=some e->ji s.M (fun q=>nx+9<q/\q<K) e ((rw.drop (j*4)).take 4))/\aq nx M s.M/\nx+12<=s.nx/\Cl s.nx s.M) ps.length ⟨0,nx+10,.nils,[],Z,Z,?_⟩ ?_
 ·refine bR fT ?_
  refine⟨.inl trivial,Z,Z,fun j e h=>absurd h (not_lt_zero _),O,Z,?_⟩;refine((((cF.le (show nx<=nx+12 by omega)).set Z ?_).set Z rfl).set Z rfl).set Z rfl;simp only[cp,aE,aO];rw[aO.le Z Us]
 ·rintro m' ⟨env,M',aF⟩ ⟨i,K,vv,rw',hi,ir,e1,e2,e3,e4,z0,z1,z9,je,vi,Gg,Gh,fF,ha,hn,jZ⟩
  simp only at e1 e2 e3 e4 z0 z1 z9 vi Gh fF ha hn jZ;have MI:cellsOf vv=[vv]/\ax vv=true:=by
   rcases vi with ⟨rfl,_⟩ | ⟨_,rfl,_⟩<;>exact⟨rfl,rfl⟩
  by_cases aL:(i:Int)<ps.length
  ·have aP:i<ps.length:=Z
   obtain⟨c,hc⟩:∃c,ps[i]?=some c:=⟨ps[i],by simp[aP]⟩;have bV:=eF i;obtain⟨n,o,jw,bC,aU⟩:=cw.elem (P:=am) aP (t:=42) (t':=44) eP.2.2.2.1 fu.1;have aU:=aU M' (ha.le hb);have hE:=cj.get jd hc;have NL:=hE;obtain⟨k',x',y',ps'⟩:=c;simp only[bG]at NL;obtain⟨v',row',dI,ox,_⟩:=NL;rw[dI]at aU hE;have oP:=ox.cell;have CI:aO aF v'=true:=by
    refine aO.le Z (cw.kltRow cF v' ?_);refine mem_of_mem_drop (i:=i*4) (mem_of_mem_take (i:=4) ?_);rw[dI];simp
   have Bh:dV (.mk k' x' y' ps')<sz/\dV (.mk k' x' y' ps')<=100000:=by
    have:=fb (mem_of_getElem? hc);simp only[dV]at cJ ip this ⊢;omega
   refine ii fT e1 e2 e3 e4 ay aL bC aU oP.1 oP.2 (aI z0 z9) ?_;have TZ:∀N,aq (aF+12) M' N->bG N b (.mk k' x' y' ps') [.int .i64 k',.int .u64 x',.int .u64 y',v']:=fun N hN=>hE.agr ((ha.trans (hN.le Z)).le hb)
   obtain⟨v1,N,bD,hC,⟨TR,qx,sP⟩,Mj,jT,lH,mN⟩:=bN.made' (P:=am) (ρ:=ρ) (g:=55) (args:=[.agg [.int .i64 k',.int .u64 x',.int .u64 y',v']]) (M:=M') (nx:=aF+12) (Q:=kO (aF+12) (.mk k' x' y' ps')) (jZ.le Z)
    (by simp only[aE,aO];rw[aO.le Z CI]) (fun N hN=>ih { ρ with det:=true } _ N (aF+12) b _ Bh.1 (TZ N hN) Z Bh.2)
    (fun N _ hN=>kO.ex Bh.2 hN)
   simp only at qx sP;subst qx;obtain⟨k1,x1,y1,w1,rfl,qC⟩:=sP.shape;have dz:∀q,q<aF+12->gG (bi M' (dH N (aF+12) bD)) q=gG M' q:=fun q hq=>by rw[bW,if_neg Z]
   have mO:∀q,q<bD->gG (bi M' (dH N (aF+12) bD)) q=gG N q:=fun q hq=>by
    by_cases h:aF+12<=q
    ·rw[bW,if_pos ⟨h,hq⟩]
    ·rw[dz q Z,Mj q Z]
   have iO:=eI N (aF+12) bD;have uR:Cl bD (bi M' (dH N (aF+12) bD)):=fun q o ho=>by
    by_cases h:q<bD
    ·rw[mO q h]at ho
     exact lH q o ho
    ·rw[bW,if_neg Z]at ho
     exact jZ.le Z q o ho
   refine aT hC af ?_;have q0:=(dz nx Z).trans z0;have q1:=(dz (nx+1) Z).trans z1;have q9:=(dz (nx+9) Z).trans z9;have AZ:aO bD w1=true:=by
    simp only[aO,aE]at mN;split at mN
    ·assumption
    ·cases mN
   have MB:aE bD [.int .i64 k1,.int .u64 x1,.int .u64 y1,w1]=true:=by simp only[aE,aO,AZ]
   have CC:ji (bi M' (dH N (aF+12) bD)) (fun q=>aF+12<=q/\q<bD) (.mk k' x' y' ps') [.int .i64 k1,.int .u64 x1,.int .u64 y1,w1]:=sP.keep fun q hq=>by
    obtain⟨r1,r2⟩:aF+12<=q/\q<bD:=hq;exact⟨mO q r2,r1,r2⟩
   have QE:∀j e,j<i->ps[j]?=some e->ji (bi M' (dH N (aF+12) bD)) (fun q=>nx+9<q/\q<K) e ((rw'.drop (j*4)).take 4):=fun j e hj he=>(fF j e hj he).keep fun q hq=>by
    obtain⟨r1,r2⟩:nx+9<q/\q<K:=hq;exact⟨dz q Z,r1,r2⟩
   have Mp:aq nx M (bi M' (dH N (aF+12) bD)):=fun q hq=>(dz q Z).trans (ha q hq)
   have R4:∀q,aF+12<=q->q<bD->gG (bi M' (dH N (aF+12) bD)) q=gG N q:=fun q _ h=>mO q h
   clear cF c_ ih jd cw hE TZ ay bC aU hC;rcases vi with ⟨rfl,rfl⟩ | ⟨AW,rfl,hK⟩
   ·have mP:rw'=[]:=length_eq_zero_iff.1 Z
    subst mP;have xj:Nat.blt (bD+1) (bD+7)=true:=by rw[blt_eq];omega
    have MJ:IntKind.i64.wrap (0+1)=((1:Nat):Int):=af;refine dp fT q9 qC.1 qC.2 @aA MJ e1 e2 e3 e4 ?_;refine⟨⟨bn _ _ _ _ _ _ (fun q hq=>by simp only[mem_singleton]at hq ⊢;omega) (fun q hq=>aa) (fun q hq=>by simp at hq),bn _ _ _ _ _ _ (fun q hq=>by have:=iO q hq;simp only[mem_singleton];omega) (fun q hq=>aa) (fun q hq=>by simp at hq)⟩,
     ps.length - 1,Z,1,bD+1,_,[.int .i64 k1,.int .u64 x1,.int .u64 y1,w1],Z,rfl,rfl,q0,q1,rfl,rfl,.inr ⟨Z,rfl,by rw[if_neg (by simp only[aw];omega),if_pos (show aw _ _ from rfl)]⟩,Z,Z,fun j e hj he=>?_,(by(repeat (refine aq.set ?_ Z _));exact Mp),Z,?_⟩
    ·have:j=0:=Z
     subst this;rw[hc]at he;cases he;refine CC.keep fun q hq=>?_
     obtain⟨r1,r2⟩:aF+12<=q/\q<bD:=hq;exact⟨J,Z,Z⟩
    ·exact(((uR.le Z).set Z (by simp only[cp];exact aE.le Z MB)).set Z (by simp only[cp];exact aE.le Z MB)).set Z (by simp only[cp,aE,aO,xj])
   ·have qK:=(dz K Z).trans hK
    have xj:Nat.blt (bD+1) (bD+7)=true:=by rw[blt_eq];omega
    have kB:rw'.take (i*4)=rw':=take_of_length_le Z;have QQ:aE bD rw'=true:=by
     have:=(uR _ _ qK).2;simpa only [cp] using this
    refine ii fT q9 qK je kB qC.1 qC.2 @aA bV e1 e2 (aI e3 e4) ?_;refine⟨⟨bn _ _ _ _ _ _ (fun q hq=>by simp only[mem_singleton]at hq ⊢;omega) (fun q hq=>aa) (fun q hq=>by simp at hq),bn _ _ _ _ _ _ (fun q hq=>by have:=iO q hq;simp only[mem_singleton];omega) (fun q hq=>aa) (fun q hq=>by simp at hq)⟩,
     ps.length - (i+1),Z,i+1,bD+1,_,rw'++[.int .i64 k1,.int .u64 x1,.int .u64 y1,w1],Z,rfl,rfl,q0,q1,rfl,by rw[length_append,je];simp only[length_cons,length_nil];omega,.inr ⟨Z,rfl,by rw[if_neg (by simp only[aw];omega),if_pos (show aw _ _ from rfl)]⟩,Z,Z,fun j e hj he=>?_,fun q hq=>(by have:=Mp q hq;exact J),Z,?_⟩
    ·rw[mf je rfl hj]
     split
     ·rename_i kX
      refine(QE j e kX he).keep fun q hq=>?_
      obtain⟨r1,r2⟩:nx+9<q/\q<K:=hq;exact⟨J,r1,Z⟩
     ·have:j=i:=Z
      subst this;rw[hc]at he;cases he;refine CC.keep fun q hq=>?_
      obtain⟨r1,r2⟩:aF+12<=q/\q<bD:=hq;exact⟨J,Z,Z⟩
    ·exact((((uR.le Z).set Z (by simp only[cp];exact aE.le Z MB)).del).set Z (by simp only[cp];exact jA (aE.le Z QQ) (aE.le Z MB))).set Z (by simp only[cp,aE,aO,xj])
  ·have gB:i=ps.length:=Z
   refine ii fT e1 e2 e3 e4 ay aL z0 z1 z9 MI.1 MI.2 ?_;refine⟨⟨_,rfl,?_⟩,(by(repeat (refine aq.set ?_ Z _));exact ha),Z⟩;simp only[ji];refine⟨vv,rw',rfl,⟨Z,by rw[je,gB],?_⟩,eO.of fun j e he=>?_⟩
   ·rcases vi with ⟨rfl,h0⟩ | ⟨h0,rfl,hK⟩
    ·exact .inl ⟨rfl,Z⟩
    ·exact .inr ⟨K,by rw[gB],show nx<=K/\K<aF+7 by omega,J⟩
   ·refine(fF j e (by have:=(List.getElem?_eq_some_iff.1 he).1;omega) he).keep fun q hq=>?_
    obtain⟨r1,r2⟩:nx+9<q/\q<K:=hq;exact⟨J,Z,Z⟩
def Tz (nx:Nat) (r:aR) (o:ew):Prop:=∃cs,o.1 = .agg cs/\lg o.2.1 (fun k=>nx<=k/\k<o.2.2) r cs
theorem Ry (ρ:aK) {r:aR} {M:Hp} {nx b:Nat} {cs:List XV} (hr:cU M b r cs) (hb:b<=nx) (hc:dV r.p<=100000) (he:r.es.length<=100000) :
 ar am ρ 23 [.agg cs] M nx fun o=>Tz nx r o/\aq nx M o.2.1/\nx<=o.2.2:=by
 obtain⟨pk,pa,pb,pv,ve,rfl,⟨p1,p2⟩,⟨q1,q2⟩,dZ,hp⟩:=hr.cells;unfold jm at dZ;refine ar.wk 14 [.cell 2 47] Tryz.func23 ?_;refine mY oU p1 p2 q1 q2 ?_;generalize xu:ap (ap M _ _) _ _=M1;have a1:aq nx M M1:=by rw[<-xu];exact O
 have m1:gG M1 nx=some (.row [.int .i64 r.kind,.int .u64 r.t,.int .u64 r.x,.int .u64 r.w,.int .u64 r.n,.int .u64 r.v,.int .i64 pk,.int .u64 pa,.int .u64 pb,pv,ve]):=by rw[<-xu];exact J
 have m2:gG M1 (nx+1)=some (.row [.int .i64 0,.int .u64 0,.int .u64 0,.int .u64 0,.int .u64 0,.int .u64 0,.int .i64 0,.int .u64 0,.int .u64 0,.nils,.nils]):=by rw[<-xu];exact J
 clear xu;refine gQ (Nl _ ρ r.p M1 (nx+4) b _ (lt_succ_self _) (hp.agr (a1.le hb)) Z hc) ?_;rintro⟨u,M2,n2⟩ ⟨⟨TR,g1,g2⟩,g3,g4⟩;simp only at g1 g2 g3 g4;subst g1;obtain⟨k1,x1,y1,w1,rfl,qC⟩:=g2.shape;have z1:=(g3 nx Z).trans m1;have z2:=(g3 (nx+1) Z).trans m2;have a2:aq nx M M2:=a1.trans (g3.le Z);obtain⟨rds,mr,F8⟩:=(dZ.agr (a2.le hb)).el2;have je:=dZ.row_len;by_cases h0:r.es.length=0
 ·have QF:r.es=[]:=length_eq_zero_iff.1 h0
  have fF:∀o,el2 (ap M2 nx o) ve (some 4)=some ([],0,rds):=fun o=>by
   have:=F8 _ ((aq.refl b M2).set (k:=nx) Z o);rw[QF]at this;exact this
  have dX:∀N key,oC am N key 45 .nils ve (some (4,32,[.int .u64 0,.int .u64 0,.int .u64 0,.bool false])) (some ([],0,rds))=some ⟨.nils,rds,[]⟩:=fun _ _=>rfl
  refine CU oU z1 z2 q1 q2 qC.1 qC.2 fF dX ?_;refine⟨⟨_,rfl,[.int .i64 k1,.int .u64 x1,.int .u64 y1,w1],.nils,rfl,g2.keep fun k hk=>?_,⟨Z,by rw[QF];rfl,.inl ⟨rfl,h0⟩⟩⟩,(by(repeat (refine aq.set ?_ Z _));exact a2),Z⟩;obtain⟨r1,r2⟩:nx+4<=k/\k<n2:=hk;exact⟨J,show nx<=k/\k<n2+11 by omega⟩
 ·have fF:∀o,el2 (ap M2 nx o) ve (some 4)=some (r.es.flatMap dY,r.es.length,rds):=fun o=>F8 _ ((aq.refl b M2).set (k:=nx) Z o)
  obtain⟨m,hm⟩:∃m,r.es.length=m+1:=⟨r.es.length - 1,Z⟩;rw[hm]at fF;have dX:∀N key,oC am N key 45 .nils ve (some (4,32,[.int .u64 0,.int .u64 0,.int .u64 0,.bool false])) (some (r.es.flatMap dY,m+1,rds))=some ⟨.sl key 4 0 (m+1) (m+1),rds,[(key,some (.row (r.es.flatMap dY)))]⟩:=fun N key=>pO _ _ _ _ _ _ _ _ Z Z rfl (by simp only[fE];omega) (re _)
  refine CU oU z1 z2 q1 q2 qC.1 qC.2 fF dX ?_;refine⟨⟨_,rfl,[.int .i64 k1,.int .u64 x1,.int .u64 y1,w1],_,rfl,g2.keep fun k hk=>?_,⟨Z,je,.inr ⟨_,by rw[hm],show nx<=n2+6/\n2+6<n2+11 by omega,J⟩⟩⟩,(by(repeat (refine aq.set ?_ Z _));exact a2),Z⟩;obtain⟨r1,r2⟩:nx+4<=k/\k<n2:=hk;exact⟨J,show nx<=k/\k<n2+11 by omega⟩
end Go.Xs
namespace Go.Xs
open List Nat Option
variable{L l:List aR}{r:aR}
structure jn (l l':List aR):Prop where
 row:∀t x,bd l t x=bd l' t x
 ends:∀t,bH l t=bH l' t
 objs:∀t,P_ l t=P_ l' t
def f6 (r:aR):Bool:=!decide (r.kind=5)
def hW:Ex:=.mk 5 0 0 [.mk 1 0 0 []]
def eo (r:aR):aR:=if r.kind=5 then ⟨r.kind,r.t,r.x,r.w,r.n,r.v,hW,r.es.map fun e=>⟨e.x,e.w,e.n,false⟩⟩ else r
theorem ud (h:r.kind=5):gn r=false:=by unfold gn;rw[h];decide
theorem jn.filter (l:List aR):jn (l.filter f6) l:=by
 have e1:∀t x r,(oI t x r&&f6 r)=oI t x r:=fun t x r=>by
  unfold f6 oI;by_cases h:r.kind=5
  ·rw[ud h];rfl
  ·simp[h]
 refine⟨fun t x=>?_,fun t=>?_,fun t=>?_⟩
 ·unfold bd
  rw[List.filter_filter];simp only[e1]
 ·unfold bH
  rw[List.foldl_filter];congr 1;funext o r;unfold f6 de;by_cases h:r.kind=5
  ·simp[h]
  ·simp[h]
 ·unfold P_
  rw[List.filter_filter];congr 1;congr 1;funext r;unfold f6;by_cases h:r.kind=5
  ·rw[ud h];rfl
  ·simp[h]
theorem mh (r:aR):(eo r).kind=r.kind/\(eo r).t=r.t/\(eo r).x=r.x/\(eo r).w=r.w/\(eo r).n=r.n/\(eo r).v=r.v:=by
 unfold eo;split<;>exact⟨rfl,rfl,rfl,rfl,rfl,rfl⟩
theorem jn.map (l:List aR):jn (l.map eo) l:=by
 refine⟨fun t x=>?_,fun t=>?_,fun t=>?_⟩
 ·induction l with
  | nil=>rfl
  | cons a l ih =>
    obtain⟨h1,h2,h3,h4,h5,h6⟩:=mh a;have e:oI t x (eo a)=oI t x a:=by unfold oI gn;rw[h1,h2,h3]
    have e2:nv (eo a)=nv a:=by unfold nv;rw[h1,h6]
    unfold bd at ih ⊢;rw[map_cons,filter_cons,filter_cons,e];split
    ·rw[map_cons,map_cons,ih,e2]
    ·exact ih
 ·unfold bH
  rw[List.foldl_map];congr 1;funext o r;obtain⟨h1,h2,_⟩:=mh r;unfold de;rw[h1,h2]
 ·induction l with
  | nil=>rfl
  | cons a l ih =>
    obtain⟨h1,h2,h3,_⟩:=mh a;unfold P_ at ih ⊢;rw[map_cons,filter_cons,filter_cons,show gn (eo a)=gn a by unfold gn;rw[h1],h2];split
    ·rw[map_cons,map_cons,ih,h3]
    ·exact ih
section
variable {l l':List aR} (h:jn l l')
include h
theorem jn.made (x w n:Int):rV l x w n=rV l' x w n:=by unfold rV;rw[h.row]
theorem jn.there (x w n:Int):lV l x w n=lV l' x w n:=by unfold lV;rw[h.made]
theorem jn.matchS (p:Ex) (x w n:Int):matchS l p x w n=matchS l' p x w n:=by unfold Xs.matchS;rw[h.made]
theorem jn.keeps (i:Nat) (r:aR):kM i l r=kM i l' r:=by
 unfold kM;split
 ·rfl
 ·rfl
 ·rfl
 ·rw[h.ends]
 ·rw[h.ends]
 ·rw[h.ends]
 ·unfold CT;rw[h.there]
 ·unfold FB;rw[h.row]
 ·rfl
 ·unfold tN;simp only[h.there]
 ·unfold ka;rw[h.objs];simp only[h.row]
 ·unfold uu;simp only[h.matchS]
theorem jn.ruleGo (r:aR):∀n i,ruleGo l r n i=ruleGo l' r n i
 | 0,_=>rfl
 | n+1,i=>by unfold Xs.ruleGo;rw[h.keeps,jn.ruleGo r n (i+1)]
theorem jn.rule (r:aR):eA l r=eA l' r:=h.ruleGo r 12 0
end
theorem rF (x v:Int):jf x v hW=false:=by simp[hW,jf,ny]
theorem Bv (l:List aR) (x w n:Int):matchS l hW x w n=false:=by
 unfold matchS;split
 ·unfold xS;rw[rF];simp
 ·rfl
theorem mJ {α:Type} (f:α->Bool):∀(L:List α) (j:Nat) (r:α),(L.filter f)[j]?=some r->∃i,L[i]?=some r/\(L.filter f).take j=(L.take i).filter f/\f r=true
 | [],j,r,h=>by simp at h
 | a::L,j,r,h=>by
   rw[filter_cons]at h ⊢;by_cases ha:f a=true
   ·rw[if_pos ha]at h ⊢
    cases j with
    | zero =>
      simp only[getElem?_cons_zero,Option.some.injEq]at h;subst h;exact⟨0,rfl,rfl,ha⟩
    | succ j =>
      rw[getElem?_cons_succ]at h;obtain⟨i,h1,h2,h3⟩:=mJ f L j r h;exact⟨i+1,by rw[getElem?_cons_succ];exact h1,by rw[take_succ_cons,take_succ_cons,filter_cons,if_pos ha,h2],h3⟩
   ·rw[if_neg ha]at h ⊢
    obtain⟨i,h1,h2,h3⟩:=mJ f L j r h;exact⟨i+1,by rw[getElem?_cons_succ];exact h1,by rw[take_succ_cons,filter_cons,if_neg ha,h2],h3⟩
theorem pj (hw:∀j r,L[j]?=some r->eA (L.take j) r=0):∀j r,(L.filter f6)[j]?=some r->eA ((L.filter f6).take j) r=0:=fun j r h=>by
 obtain⟨i,h1,h2,_⟩:=mJ f6 L j r h;rw[h2,(jn.filter _).rule];exact hw i r h1
theorem PJ (h:∀j,j<12->kM j l r=true):eA l r=0:=by
 have:∀n i,i+n<=12->ruleGo l r n i=0:=by
  intro n
  induction n with
  | zero=>intro i _;rfl
  | succ n ih=>intro i hi;unfold ruleGo;rw[if_pos (h i Z)];exact ih (i+1) Z
 exact this 12 0 Z
theorem AY:∀(es:List En),tQ (es.map fun e=>⟨e.x,e.w,e.n,false⟩)=tQ es
 | []=>rfl
 | [_]=>rfl
 | a::c::l=>by simp only[map_cons,tQ];rw[<-AY (c::l)];rfl
theorem nO:∀(es:List En),lu es es=true
 | []=>rfl
 | e::es=>by simp[lu,Ky,nO es]
theorem oA:yw hW=true/\iW hW hW=true/\gI hW/\dV hW=2:=by
 refine⟨af,af,?_,rfl⟩;simp[hW,gI,o_]
theorem zu {i:Nat} (hi:i<12) (h:∀j,j<12->kM j l r=true):kM i (l.map eo) (eo r)=true:=by
 rw[(jn.map l).keeps];by_cases hk:r.kind=5
 ·have e:eo r=⟨r.kind,r.t,r.x,r.w,r.n,r.v,hW,r.es.map fun e=>⟨e.x,e.w,e.n,false⟩⟩:=by unfold eo;rw[if_pos hk]
  have hh:=h i hi;rw[e];have hc:i=0\/i=1\/i=2\/i=3\/i=4\/i=5\/i=6\/i=7\/i=8\/i=9\/i=10\/i=11:=Z;rcases hc with rfl | rfl | rfl | rfl | rfl | rfl | rfl | rfl | rfl | rfl | rfl | rfl
  ·exact hh
  ·simp only[kM,fL,Nh,gR,hk,nO,oA]at hh ⊢
   simp at hh ⊢;exact⟨hh.2.1,hh.2.2.1,hh.2.2.2.1,oA.2.1,nO _⟩
  ·exact hh
  ·exact hh
  ·exact hh
  ·exact hh
  ·exact hh
  ·exact hh
  ·simp only[kM]at hh ⊢
   rw[AY];exact hh
  ·simp only[kM,tN,List.all_map]at hh ⊢
   exact hh
  ·simp only[kM,ka,List.any_map]at hh ⊢
   exact hh
  ·simp only[kM,uu,List.all_map,List.all_eq_true,Function.comp]at hh ⊢
   intro e _;rw[Bv];rfl
 ·rw[show eo r=r by unfold eo;rw[if_neg hk]]
  exact h i hi
theorem vl (hw:∀j r,L[j]?=some r->eA (L.take j) r=0):∀j r,(L.map eo)[j]?=some r->eA ((L.map eo).take j) r=0:=fun j r h=>by
 rw[getElem?_map]at h;obtain⟨r0,h0,rfl⟩:=map_eq_some_iff.1 h;rw[<-List.map_take];exact PJ fun i hi=>zu hi fun j hj=>lY (hw _ _ h0) j hj
end Go.Xs
namespace Go.Xs
open List Nat Option
variable{L l:List aR}{M:Hp}{S:HS}{b nx:Nat}{p q:Nat->Prop}{r:aR}{v:XV}
noncomputable section
open Go.Proofs
def nF (M:Hp) (p:Nat->Prop) (css:List (List XV)) (l:List aR):Prop:=css.length=l.length/\∀(j:Nat) (r:aR) (c:List XV),l[j]?=some r->css[j]?=some c->c.length=11/\eL M p r c
theorem nF.keep {M':Hp} {css:List (List XV)} (h:nF M p css l) (hk:∀k,p k->gG M' k=gG M k/\q k):nF M' q css l :=
 ⟨h.1,fun j r c h1 h2=>⟨(h.2 j r c h1 h2).1,(h.2 j r c h1 h2).2.keep hk⟩⟩
theorem nF.push {css:List (List XV)} (h:nF M p css l) {c:List XV} (hc:c.length=11) (hr:eL M p r c):nF M p (css++[c]) (l++[r]):=by
 refine⟨by rw[length_append,length_append,h.1];rfl,fun j r' c' h1 h2=>?_⟩;by_cases hj:j<l.length
 ·rw[getElem?_append_left hj]at h1
  rw[getElem?_append_left (by rw[h.1];exact hj)]at h2;exact h.2 j r' c' h1 h2
 ·rw[getElem?_append_right Z]at h1
  rw[getElem?_append_right (by rw[h.1];omega),h.1]at h2;obtain⟨z,hz⟩:∃z,z=j - l.length:=⟨_,rfl⟩;rw[<-hz]at h1 h2;cases z with
  | zero =>
    simp only[getElem?_cons_zero,Option.some.injEq]at h1 h2;subst h1 h2;exact⟨hc,hr⟩
  | succ z=>simp at h1
theorem My:∀{css:List (List XV)} {j:Nat} {c:List XV},(∀(i:Nat) d,css[i]?=some d->d.length=11)->css[j]?=some c->((css.flatMap fun c=>c).drop (j*11)).take 11=c
 | [],j,c,_,h=>by simp at h
 | d::css,0,c,hl,h=>by
   simp only[getElem?_cons_zero,Option.some.injEq]at h;subst h;have:=hl 0 d rfl;rw[flatMap_cons,Nat.zero_mul,drop_zero,take_append_of_le_length Z,take_of_length_le Z]
 | d::css,j+1,c,hl,h=>by
   have hd:=hl 0 d rfl;rw[flatMap_cons,show (j+1)*11=d.length+j*11 by omega,drop_length_add_append];exact My (fun i e he=>hl (i+1) e (by simpa using he)) (by simpa using h)
theorem nF.at {css:List (List XV)} (h:nF M p css l) (hv:gY M q v 11 (fun c=>c) css) (hp:∀k,p k->k<b) (hq:∀k,q k->k<b):cP M b v l:=by
 refine⟨_,by rw[<-h.1];exact dG.at hv hq,fun i r hr=>?_⟩;have hi:=(List.getElem?_eq_some_iff.1 hr).1;obtain⟨c,hc⟩:∃c,css[i]?=some c:=⟨css[i]'(by rw[h.1];exact hi),getElem?_eq_getElem _⟩;rw[My (fun j d hd=>(h.2 j _ d (getElem?_eq_getElem (by rw[<-h.1];exact(List.getElem?_eq_some_iff.1 hd).1)) hd).1) hc];exact(h.2 i r c hr hc).2.lt hp
theorem lg.pp {cs:List XV} (h:lg M p r cs):eL M p r cs:=by
 obtain⟨pc,ve,h1,h2,h3⟩:=h;exact⟨pc,ve,h1,h2.pp,h3.pp⟩
def TX (e:En):En:=⟨e.x,e.w,e.n,false⟩
def OM (es:List En) (k:Nat):List En:=(es.take k).map TX++es.drop k
theorem Hx (es:List En):(es.flatMap dY).length=es.length*4:=gX (f:=dY) (sz:=4) (fun _=>rfl) es
theorem Fj (es:List En) (k:Nat):(OM es k).length=es.length:=by
 unfold OM;rw[length_append,length_map,length_take,length_drop];omega
theorem Og {es:List En} {k:Nat} (hk:k<es.length):bp ((OM es k).flatMap dY) (k*4+3) [.bool false]=(OM es (k+1)).flatMap dY:=by
 obtain⟨e,he⟩:∃e,es[k]?=some e:=⟨es[k],by simp[hk]⟩;have h1:es.drop k=e::es.drop (k+1):=by rw[drop_eq_getElem_cons hk];congr 1;exact(List.getElem?_eq_some_iff.1 he).2
 have h2:es.take (k+1)=es.take k++[e]:=by rw[take_add_one,he];rfl
 unfold OM;rw[h1,h2,map_append,flatMap_append,flatMap_append,flatMap_append,flatMap_cons];have hl:(((es.take k).map TX).flatMap dY).length=k*4:=by rw[Hx,length_map,length_take];omega
 rw[<-hl,wY,append_assoc];congr 1;generalize (es.drop (k+1)).flatMap dY=B;show bp (.int .u64 e.x :: .int .u64 e.w :: .int .u64 e.n :: .bool e.m::B) (2+1) [.bool false]=_;simp only[Kq,KQ,P1,Pd];rfl
theorem rH (h:r.kind=5):eo r=⟨r.kind,r.t,r.x,r.w,r.n,r.v,hW,OM r.es r.es.length⟩:=by
 unfold eo OM;rw[if_pos h,take_length,drop_length,append_nil];rfl
theorem wv (h:¬ r.kind=5):eo r=r:=by
 unfold eo;rw[if_neg h]
theorem rE {f:Nat->aR->List aB} {ask:Int->Bool}:∀{L:List aR} {j:Nat},(∀r ∈ L,∀j,f j r=[])->fI f ask j L=[]
 | [],_,_=>rfl
 | r::L,j,h=>by
   rw[fI,h r (mem_cons_self ..),rE fun x hx=>h x (mem_cons_of_mem _ hx)];split<;>rfl
theorem mb {L:List bO} {own:Int} {q:Int->Int->Bool} (hq:∀w n,q w n=false):∀(l:List bO),∀s ∈ iF L q own l false,s.c=false
 | [],s,h=>by cases h
 | e::es,s,h=>by
   unfold iF at h;split at h
   ·exact mb hq es s h
   ·rw[hq]at h
    rcases mem_cons.1 h with rfl | h
    ·rfl
    ·exact mb hq es s h
theorem rM:∀{l:List ff} {i:Nat},(∀s ∈ l,s.c=false)->gV (fun _ s=>Vz s) l i=[]
 | [],_,_=>rfl
 | s::l,i,h=>by
   have:=h s (mem_cons_self ..);unfold gV;rw[rM fun x hx=>h x (mem_cons_of_mem _ hx)];unfold Vz;simp[this]
theorem KE {x own:Int} {l:List bO} {k:my} {num:Int}:Rh (gZ (fP S hW x) own l) k num=[]:=by
 have hq:∀w n,fP S hW x w n=false:=fun w n=>by
  unfold fP xS;rw[rF];simp
 have hr:∀s ∈ gZ (fP S hW x) own l,s.c=false:=fun s hs=>by
  unfold gZ at hs;rcases mem_cons.1 hs with rfl | hs
  ·rfl
  ·exact mb hq l s hs
 generalize gZ (fP S hW x) own l=row at hr;have hA:v7 row k.w k.n=[]:=by
  unfold v7 xv;split
  ·rfl
  ·exact rM fun s hs=>hr s (mem_of_mem_take hs)
 have hB:vw row k.w k.n=[]:=by
  unfold vw xv;split
  ·rfl
  ·exact rM fun s hs=>hr s (mem_of_mem_drop hs)
 unfold Rh;rw[hA,hB];rfl
theorem Ft {Y:List Int} {R:Int->List bO} (h:¬ r.kind=5) (j:Nat):nl S Y R j r=[]:=by
 unfold nl;rw[if_neg fun q=>h q.1]
theorem IT {Y:List Int} {R:Int->List bO} (h:r.p=hW) (j:Nat):nl S Y R j r=[]:=by
 unfold nl;split
 ·rw[List.flatMap_eq_nil_iff]
  intro k _;unfold Gd;rw[h];exact KE
 ·rfl
theorem Mm (hS:kL) (hN:kJ) (hI:Ci) (hE:nQ) (ρ:aK) (j9:ρ.det=false) (hL:cP M b v L) (hb:b<=nx) (hf:E0 L) (hT:∀S Y R,fI (nl S Y R) (fun _=>true) 0 L=[]) :
 ar am ρ 9 [v] M nx fun o=>∃(g:XV) (n a:Int),o.1 = .tup [g,.int .i64 n,.int .i64 a]/\(cellsOf g=[g]/\ax g=true)/\(a=0 ↔ WT L)/\(a=0->∀M' n',aq o.2.2 o.2.1 M'->o.2.2<=n'->ar am ρ 10 [g] M' n' (fe n' M' .nils))/\aq nx M o.2.1/\nx<=o.2.2:=by
 refine(oH hS hN ρ j9 hL hb hf).mono fun o ⟨hp,h2,h3⟩=>?_
 rcases hp with ⟨hw,n,rl,je,ho⟩ | ⟨hw,h,cr,ho,Wk⟩
 ·exact⟨_,n,rl,ho,⟨rfl,rfl⟩,⟨fun e=>(je e).elim,fun q=>(hw q).elim⟩,fun e=>(je e).elim,h2,h3⟩
 ·refine⟨_,_,0,ho,⟨rfl,rfl⟩,⟨fun _=>hw,fun _=>rfl⟩,fun _ M' n' ha hn=>?_,h2,h3⟩
  refine(jU hS hN hI hE ρ j9 (Wk.agr ha hn) (by rw[hT];decide)).mono fun o ⟨l,g1,_,g3,_,g5,g6⟩=>?_
  rw[hT]at g1;exact⟨g3 (List.perm_nil.1 g1),g5,g6⟩
theorem f5 (hS:kL) (hN:kJ) (hI:Ci) (hE:nQ) (hJ:nM) (ρ:aK) (j9:ρ.det=false) (hL:cP M b v L) (hb:b<=nx) (iu:∀r ∈ L,gI r.p) (pos fr to:Int) :
 ar am ρ 5 [v,.int .i64 pos,.int .i64 fr,.int .i64 to] M nx fun r=>r.1 = .bool true/\aq nx M r.2.1:=by
 have cF:cellsOf v=[v]/\ax v=true:=by
  obtain⟨row,cw,_⟩:=hL;exact cw.cell
 refine ar.wk 146 [.tmp 8] Tryz.func5 ?_;refine Ao IU cF.1 cF.2 ?_;refine lG (f7 ρ hL Z af) fun M1 n1 g2 g3=>?_
 cases ip:AM L 60 with
 | false =>
   refine mI IU ip ?_;refine gQ (f8 hS hN hI hE hJ ρ j9 _ _) ?_;rintro⟨u,M2,n2⟩ ⟨g4,g5,g6⟩;simp only at g4 g5 g6;subst g4;refine bR IU ?_;exact(g2.le Z).trans (g5.le Z)
 | true =>
   have hf:E0 L:=by
    unfold AM at ip;rw[Bool.and_eq_true,decide_eq_true_eq]at ip;obtain⟨FY,sS⟩:=ip;have h:∀r ∈ L,r.es.length<=60/\dV r.p<=60:=fun r hr=>by
     rw[take_of_length_le Z,List.all_eq_true]at FY;have:=FY r hr;unfold vE at this;rw[Bool.and_eq_true,decide_eq_true_eq,decide_eq_true_eq]at this;exact⟨this.1,Em this.2⟩
    exact⟨Z,fun r hr=>(h r hr).1,fun r hr=>(h r hr).2,iu⟩
   have a1:aq nx M M1:=g2.le Z;refine mI IU ip ?_;generalize aW:ap (ap (ap M1 (n1+2) _) (n1+4) _) (n1+4) _=M2;have a2:aq nx M M2:=by rw[<-aW];exact(by(repeat (refine aq.set ?_ Z _));exact a1)
   have zn:gG M2 (n1+2)=some (.row [.int .i64 1,.int .u64 0,.int .u64 0,.nils]):=by rw[<-aW];exact J
   have zb:gG M2 (n1+4)=some (.row [.int .i64 5,.int .u64 0,.int .u64 0,.sl (n1+2) 4 0 1 1]):=by rw[<-aW];exact J
   clear aW a1 g2;obtain⟨row,cw,gS⟩:=id hL;have ay:=fun N=>cw.len (P:=am) (t:=22) jp.2.2.2.2.2 N
   have hLl:=hf.len;refine aC (fun m s=>∃(i K1 K2:Nat) (v1 v2:XV) (c1 c2:List (List XV)),i<=L.length/\m=L.length - i /\
    gG s.env 0=some v/\gG s.env 1=some (.int .i64 pos)/\gG s.env 2=some (.int .i64 fr)/\gG s.env 3=some (.int .i64 to)/\gG s.env 8=some (.bool false)/\gG s.env 9=some (.mp (n1+4) 0)/\gG s.env 10=some v1/\gG s.env 11=some v2/\gG s.env 12=some (.int .i64 i) /\
    gG s.M (n1+2)=some (.row [.int .i64 1,.int .u64 0,.int .u64 0,.nils])/\gG s.M (n1+4)=some (.row [.int .i64 5,.int .u64 0,.int .u64 0,.sl (n1+2) 4 0 1 1]) /\
    gY s.M (fun q=>q=K1) v1 11 (fun c=>c) c1/\gY s.M (fun q=>q=K2) v2 11 (fun c=>c) c2 /\
    nF s.M (fun q=>(q=n1+2\/n1+9<=q)/\q<s.nx/\q≠K1/\q≠K2) c1 ((L.take i).filter f6)/\nF s.M (fun q=>(q=n1+2\/n1+9<=q)/\q<s.nx/\q≠K1/\q≠K2) c2 ((L.take i).map eo) /\
    n1+6<=K1/\K1<s.nx/\n1+6<=K2/\K2<s.nx/\K1≠K2/\aq nx M s.M/\n1+9<=s.nx) L.length ⟨0,n1+6,n1+7,.nils,.nils,[],[],Z,Z,?_⟩ ?_
   ·refine bR IU ?_
    exact⟨zn,zb,dG.nil _ _,dG.nil _ _,⟨rfl,fun j r c h=>by simp at h⟩,⟨rfl,fun j r c h=>by simp at h⟩,Z,Z,Z,Z,Z,a2,Z⟩
   ·clear zn zb a2
    rintro m ⟨env,M3,n3⟩ ⟨i,K1,K2,v1,v2,c1,c2,hi,hm,e0,e1,e2,e3,e8,e9,dx,kW,vS,zn,zb,rD,sW,C5,Qz,k1,k2,k3,k4,k5,a3,ZS⟩;simp only at e0 e1 e2 e3 e8 e9 dx kW vS zn zb rD sW C5 Qz k2 k4 a3 ZS;by_cases aL:(i:Int)<(L.length:Int)
    ·have aP:i<L.length:=Z
     obtain⟨r,hr⟩:∃r,L[i]?=some r:=⟨L[i],by simp[aP]⟩;have bV:=eF i;obtain⟨n,o,jw,bC,aU⟩:=cw.elem (P:=am) aP (t:=22) (t':=47) jp.2.2.2.1 iq.1;have aU:=aU M3 (a3.le hb);have hR:=(gS i r hr).agr (a3.le hb);have RT:=mem_of_getElem? hr;have hxs:=hf.exs r RT;have dZ:=hf.es r RT;obtain⟨pk,pa,pb,pv,ve,dI,p1,q1,_⟩:=hR.cells;rw[dI]at aU hR;refine dw IU e0 vS aL ay bC aU p1.1 p1.2 q1.1 q1.2 ?_;refine gQ (Ry ρ hR Z Z Z) ?_;rintro⟨u,M4,n4⟩ ⟨⟨cs,h1,h2⟩,h3,h4⟩;simp only at h1 h2 h3 h4;subst h1;clear p1 q1 dI bC aU hR;have kB:L.take (i+1)=L.take i++[r]:=by rw[take_add_one,hr];rfl
     have VZ:=h2.at (b:=n4) fun k hk=>hk.2
     obtain⟨pk,pa,pb,pv,ve,dI,p1,q1,_⟩:=VZ.cells;obtain⟨lo,mo,hlo4,h2⟩:∃lo,n3<=lo/\lo<=n4/\lg M4 (fun k=>lo<=k/\k<n4) r cs:=⟨_,Z,h4,h2⟩;have a4:aq n3 M3 M4:=h3.le Z;clear h3 VZ
     have zb4:=(a4 (n1+4) Z).trans zb;have Nx:=rD.cell;have E_:=sW.cell;by_cases JA:r.kind=5
     ·rw[dI]
      have hO:dG M4 (fun k=>lo<=k/\k<n4) ve 4 r.es.length (r.es.flatMap dY):=by
       obtain⟨pc',ve',e',hX,hO⟩:=h2;obtain⟨_,_,_,_,rfl,_⟩:=hX.shape;rw[dI]at e';simp only[cons_append,nil_append,List.cons.injEq,and_true]at e';rw[e'.2.2.2.2.2.2.2.2.2.2];exact hO
      have hlE:=fun N=>(hO.at (b:=n4) fun k hk=>hk.2).len (P:=am) (t:=45) gO.2.2.2.2.2 N
      refine iQ IU p1.1 p1.2 q1.1 q1.2 JA e9 zb4 ?_;generalize mR:ap (ap (ap M4 n4 _) n4 _) n4 _=M5;have a5:aq n4 M4 M5:=by rw[<-mR];exact O
      have z5:gG M5 n4=some (.row [.int .i64 5,.int .u64 r.t,.int .u64 r.x,.int .u64 r.w,.int .u64 r.n,.int .u64 r.v,.int .i64 5,.int .u64 0,.int .u64 0,.sl (n1+2) 4 0 1 1,ve]):=by rw[<-mR];exact J
      clear mR;have hO5:=hO.keep (M':=M5) (q:=fun k=>lo<=k/\k<n4) fun k hk=>⟨a5 k hk.2,hk⟩
      refine aC (fun m s=>∃k,k<=r.es.length/\m=r.es.length - k/\gG s.env 0=some v/\gG s.env 1=some (.int .i64 pos)/\gG s.env 2=some (.int .i64 fr)/\gG s.env 3=some (.int .i64 to)/\gG s.env 8=some (.bool false)/\gG s.env 9=some (.mp (n1+4) 0)/\gG s.env 10=some v1/\gG s.env 11=some v2/\gG s.env 12=some (.int .i64 i)/\gG s.env 13=some (.mp n4 0)/\gG s.env 14=some (.int .i64 k) /\
       gG s.M n4=some (.row [.int .i64 5,.int .u64 r.t,.int .u64 r.x,.int .u64 r.w,.int .u64 r.n,.int .u64 r.v,.int .i64 5,.int .u64 0,.int .u64 0,.sl (n1+2) 4 0 1 1,ve])/\dG s.M (fun k=>lo<=k/\k<n4) ve 4 r.es.length ((OM r.es k).flatMap dY)/\(∀q,q<lo->gG s.M q=gG M4 q)/\n4+9<=s.nx) r.es.length ⟨0,Z,Z,?_⟩ ?_
      ·refine dp IU e0 e1 e2 e3 e8 e9 dx kW vS ?_
       exact⟨z5,hO5,fun q hq=>a5 q Z,Z⟩
      ·clear z5 hO5 a5 hO e0 e1 e2 e3 e8 e9 dx kW vS
       rintro m6 ⟨env6,M6,n6⟩ ⟨k,hk,hm6,e0,e1,e2,e3,e8,e9,dx,kW,vS,qI,pu,z6,V0,a6,ZU⟩;simp only at e0 e1 e2 e3 e8 e9 dx kW vS qI pu z6 V0 a6 ZU;by_cases Wg:(k:Int)<(r.es.length:Int)
       ·have hw6:=eF k
        obtain⟨vj,RU,⟨_,h0⟩ | ⟨Ke,hve,hKe,bA⟩⟩:=id V0
        ·omega
        have bC:∀kk,br am 45 ve (.int kk (k:Int))=some (.mp Ke (k*4)):=fun kk=>by
         rw[hve,cy,gO.2.2.2.1,ev _ _ _ _ _ Z Z];simp
        refine ii IU qI pu z6 q1.1 q1.2 hlE Wg bC bA RU hw6 ?_;refine⟨r.es.length - (k+1),Z,k+1,Z,rfl,e0,e1,e2,e3,e8,e9,dx,kW,vS,rfl,⟨vj,by rw[Hx,Fj],.inr ⟨Ke,hve,hKe,by rw[ao,if_pos rfl,Og Z]⟩⟩,fun q hq=>?_,Z⟩;rw[if_neg (show ¬ aw Ke q from fun e=>by have e:Ke=q:=e;omega)];exact a6 q hq
       ·have F0:k=r.es.length:=Z
        subst F0;have Gn:c2.length<=60:=by rw[Qz.1,length_map,length_take];omega
        have dy:[XV.int .i64 5,.int .u64 r.t,.int .u64 r.x,.int .u64 r.w,.int .u64 r.n,.int .u64 r.v,.int .i64 5,.int .u64 0,.int .u64 0,.sl (n1+2) 4 0 1 1,ve].all ax=true:=by simp only[all_cons,all_nil,q1.2];rfl
        have N8:gY M6 (fun q=>q=K2) v2 11 (fun c=>c) c2:=gY.keep sW fun q hq=>⟨by rw[a6 q Z,a4 q Z],hq⟩
        have SU:=N8.push (hi:=n4) (fun q hq=>Z) _ am 22 120 [.int .i64 0,.int .u64 0,.int .u64 0,.int .u64 0,.int .u64 0,.int .u64 0,.int .i64 0,.int .u64 0,.int .u64 0,.nils,.nils] Z Z rfl (by simp only[fE];omega) dy;refine ii IU qI pu z6 q1.1 q1.2 hlE Wg kW E_.1 E_.2 (aI SU (aI vS bV)) ?_;have hF:∀B ob key row,n4<=B->n4<=key->∀q,q<n4->q≠K2->gG (bi (ap M6 B ob) (nA v2 key row)) q=gG M6 q:=fun B ob key row h1 h2 q hq R4=>by
         rw[dG.push_oldP sW _ Z Z,ao,if_neg Z]
        have hnp:f6 r=false:=by unfold f6;simp[JA]
        refine⟨L.length - (i+1),Z,i+1,K1,n6+8,v1,_,c1,c2++[_],Z,rfl,e0,e1,e2,e3,e8,e9,dx,rfl,rfl,?_,?_,gY.keep rD (fun q hq=>⟨?_,hq⟩),N8.pushed [XV.int .i64 5,.int .u64 r.t,.int .u64 r.x,.int .u64 r.w,.int .u64 r.n,.int .u64 r.v,.int .i64 5,.int .u64 0,.int .u64 0,.sl (n1+2) 4 0 1 1,ve] (H:=ap _ (n6+7) _) (key:=n6+8) (p':=fun q=>q=n6+8) rfl rfl Z,?_,?_,Z,Z,Z,Z,Z,fun q hq=>?_,Z⟩
        ·rw[hF _ _ _ _ Z Z _ Z Z,a6 _ Z,a4 _ Z]
         exact zn
        ·rw[hF _ _ _ _ Z Z _ Z Z,a6 _ Z,a4 _ Z]
         exact zb
        ·rw[hF _ _ _ _ Z Z _ Z Z,a6 _ Z,a4 _ Z]
        ·rw[kB,filter_append,filter_cons,hnp,List.filter_nil]
         simp only[Bool.false_eq_true,if_false,append_nil];exact C5.keep fun q hq=>⟨by rw[hF _ _ _ _ Z Z _ Z Z,a6 _ Z,a4 _ Z],Z⟩
        ·rw[kB,map_append,map_cons,map_nil,rH JA,JA]
         refine(Qz.keep fun q hq=>⟨?_,Z⟩).push rfl ⟨[.int .i64 5,.int .u64 0,.int .u64 0,.sl (n1+2) 4 0 1 1],ve,rfl,⟨.sl (n1+2) 4 0 1 1,[.int .i64 1,.int .u64 0,.int .u64 0,.nils],rfl,⟨aa,.inr ⟨n1+2,0,1,[.int .i64 1,.int .u64 0,.int .u64 0,.nils],rfl,Z,?_,aa,rfl⟩⟩,⟨.nils,[],rfl,⟨aa,.inl ⟨rfl,rfl,rfl⟩⟩,trivial⟩,trivial⟩,?_⟩
         ·rw[hF _ _ _ _ Z Z _ Z Z,a6 _ Z,a4 _ Z]
         ·unfold vR
          rw[hF _ _ _ _ Z Z _ Z Z,a6 _ Z,a4 _ Z,zn]
         ·show dN _ _ ve 4 (OM r.es r.es.length).length _
          rw[Fj];exact(V0.keep fun q hq=>⟨by rw[hF _ _ _ _ Z Z _ Z Z],Z⟩).pp
        ·rw[hF _ _ _ _ Z Z _ Z Z,a6 _ Z,a4 _ Z]
         exact a3 q hq
     ·rw[dI]
      have VF:c1.length<=60:=by
       have:=length_filter_le f6 (L.take i);rw[C5.1];rw[length_take]at this;omega
      have Gn:c2.length<=60:=by rw[Qz.1,length_map,length_take];omega
      have dy:[XV.int .i64 r.kind,.int .u64 r.t,.int .u64 r.x,.int .u64 r.w,.int .u64 r.n,.int .u64 r.v,.int .i64 pk,.int .u64 pa,.int .u64 pb,pv,ve].all ax=true:=by simp only[all_cons,all_nil,p1.2,q1.2];rfl
      have hv1':∀o o',gY (ap (ap M4 n4 o) n4 o') (fun q=>q=K1) v1 11 (fun c=>c) c1:=fun o o'=>gY.keep rD fun q hq=>⟨by rw[ao,if_neg Z,ao,if_neg Z,a4 q Z],hq⟩
      have hap1:=fun o o'=>(hv1' o o').push (hi:=n4) (fun q hq=>Z) _ am 22 120 [.int .i64 0,.int .u64 0,.int .u64 0,.int .u64 0,.int .u64 0,.int .u64 0,.int .i64 0,.int .u64 0,.int .u64 0,.nils,.nils] Z Z rfl (by simp only[fE];omega) dy
      have Wj:=fun(H:Hp) (key:Nat) (row:List XV) (hk:¬ key=n4)=>dG.push_oldP rD (row:=row) (key:=key) H (q:=n4) Z (fun e=>hk e.symm)
      have hv2':∀o o' B ob key row,n4<=B->n4<=key->gY (bi (ap (ap (ap M4 n4 o) n4 o') B ob) (nA v1 key row)) (fun q=>q=K2) v2 11 (fun c=>c) c2:=fun o o' B ob key row hB ZC=>gY.keep sW fun q hq=>⟨by rw[dG.push_oldP rD _ Z Z,ao,if_neg Z,ao,if_neg Z,ao,if_neg Z,a4 q Z],hq⟩
      have SU:=fun o o' B ob key row hB ZC=>(hv2' o o' B ob key row hB ZC).push (hi:=n4) (fun q hq=>Z) _ am 22 120 [.int .i64 0,.int .u64 0,.int .u64 0,.int .u64 0,.int .u64 0,.int .u64 0,.int .i64 0,.int .u64 0,.int .u64 0,.nils,.nils] Z Z rfl (by simp only[fE];omega) dy
      refine ii IU p1.1 p1.2 q1.1 q1.2 JA dx kW Nx.1 Nx.2 E_.1 (aI E_.2 (aI hap1 (aI Wj (aI SU (aI vS bV))))) ?_;have hF:∀o o' B ob key row B2 ob2 TB Rf,n4<=B->n4<=key->n4<=B2->n4<=TB->∀q,q<n4->q≠K1->q≠K2->gG (bi (ap (bi (ap (ap (ap M4 n4 o) n4 o') B ob) (nA v1 key row)) B2 ob2) (nA v2 TB Rf)) q=gG M4 q:=fun o o' B ob key row B2 ob2 TB Rf h1 h2 h3 h4 q hq VO R4=>by
       rw[dG.push_oldP sW _ Z Z,ao,if_neg Z,dG.push_oldP rD _ Z Z,ao,if_neg Z,ao,if_neg Z,ao,if_neg Z]
      have hnp:f6 r=true:=by unfold f6;simp[JA]
      refine⟨L.length - (i+1),Z,i+1,n4+8,n4+13,_,_,c1++[_],c2++[_],Z,rfl,e0,e1,e2,e3,e8,e9,rfl,rfl,rfl,?_,?_,gY.keep (rD.pushed [XV.int .i64 r.kind,.int .u64 r.t,.int .u64 r.x,.int .u64 r.w,.int .u64 r.n,.int .u64 r.v,.int .i64 pk,.int .u64 pa,.int .u64 pb,pv,ve] (H:=ap (ap (ap M4 n4 (.row [.int .i64 0,.int .u64 0,.int .u64 0,.int .u64 0,.int .u64 0,.int .u64 0,.int .i64 0,.int .u64 0,.int .u64 0,.nils,.nils])) n4 (.row [XV.int .i64 r.kind,.int .u64 r.t,.int .u64 r.x,.int .u64 r.w,.int .u64 r.n,.int .u64 r.v,.int .i64 pk,.int .u64 pa,.int .u64 pb,pv,ve])) (n4+7) (.row [XV.int .i64 r.kind,.int .u64 r.t,.int .u64 r.x,.int .u64 r.w,.int .u64 r.n,.int .u64 r.v,.int .i64 pk,.int .u64 pa,.int .u64 pb,pv,ve])) (key:=n4+8) (p':=fun q=>q=n4+8) rfl rfl Z) (fun q hq=>⟨?_,hq⟩),sW.pushed [XV.int .i64 r.kind,.int .u64 r.t,.int .u64 r.x,.int .u64 r.w,.int .u64 r.n,.int .u64 r.v,.int .i64 pk,.int .u64 pa,.int .u64 pb,pv,ve] (H:=ap _ (n4+12) _) (key:=n4+13) (p':=fun q=>q=n4+13) rfl rfl Z,?_,?_,Z,Z,Z,Z,Z,fun q hq=>?_,Z⟩
      ·rw[hF _ _ _ _ _ _ _ _ _ _ Z Z Z Z _ Z Z Z,a4 _ Z]
       exact zn
      ·rw[hF _ _ _ _ _ _ _ _ _ _ Z Z Z Z _ Z Z Z,a4 _ Z]
       exact zb
      ·rw[dG.push_oldP sW _ Z Z,ao,if_neg Z]
      ·rw[kB,filter_append,filter_cons,if_pos hnp,List.filter_nil]
       refine(C5.keep fun q hq=>⟨?_,Z⟩).push rfl ((dI ▸ h2.pp).keep fun q hq=>⟨?_,Z⟩)
       ·rw[hF _ _ _ _ _ _ _ _ _ _ Z Z Z Z _ Z Z Z,a4 _ Z]
       ·rw[hF _ _ _ _ _ _ _ _ _ _ Z Z Z Z _ Z Z Z]
      ·rw[kB,map_append,map_cons,map_nil,wv JA]
       refine(Qz.keep fun q hq=>⟨?_,Z⟩).push rfl ((dI ▸ h2.pp).keep fun q hq=>⟨?_,Z⟩)
       ·rw[hF _ _ _ _ _ _ _ _ _ _ Z Z Z Z _ Z Z Z,a4 _ Z]
       ·rw[hF _ _ _ _ _ _ _ _ _ _ Z Z Z Z _ Z Z Z]
      ·rw[hF _ _ _ _ _ _ _ _ _ _ Z Z Z Z _ Z Z Z,a4 _ Z]
       exact a3 q hq
    ·have gB:i=L.length:=Z
     subst gB;rw[take_length]at C5 Qz;have Nx:=rD.cell;have E_:=sW.cell;have hfG:E0 (L.filter f6):=⟨Nat.le_trans (length_filter_le _ _) hLl,fun r hr=>hf.es r (mem_filter.1 hr).1,fun r hr=>hf.exs r (mem_filter.1 hr).1,fun r hr=>hf.pos r (mem_filter.1 hr).1⟩;have hfH:E0 (L.map eo):=by
      refine⟨by rw[length_map];exact hLl,fun r hr=>?_,fun r hr=>?_,fun r hr=>?_⟩<;>obtain⟨r0,h0,rfl⟩:=mem_map.1 hr<;>unfold eo<;>split
      ·simp only[length_map];exact hf.es r0 h0
      ·exact hf.es r0 h0
      ·simp only[oA.2.2.2];decide
      ·exact hf.exs r0 h0
      ·exact oA.2.2.1
      ·exact hf.pos r0 h0
     have hTG:∀S Y R,fI (nl S Y R) (fun _=>true) 0 (L.filter f6)=[]:=fun S Y R=>rE fun r hr j=>Ft (by have:=(mem_filter.1 hr).2;unfold f6 at this;simpa using this) j
     have hTH:∀S Y R,fI (nl S Y R) (fun _=>true) 0 (L.map eo)=[]:=fun S Y R=>rE fun r hr j=>by
      obtain⟨r0,h0,rfl⟩:=mem_map.1 hr;by_cases hk:r0.kind=5
      ·rw[rH hk]
       exact IT rfl j
      ·rw[wv hk]
       exact Ft hk j
     refine iQ IU e0 vS aL ay dx Nx.1 Nx.2 ?_;refine gQ (Mm hS hN hI hE ρ j9 (C5.at (b:=n3) rD (fun q hq=>hq.2.1) (fun q hq=>Z)) Z hfG hTG) ?_;rintro⟨u,M4,n4⟩ ⟨g,ng,a,h1,hg,ha,hA,a4,h4⟩;simp only at h1 hA a4 h4;subst h1;refine iC IU hg.1 hg.2 kW E_.1 E_.2 ?_;refine gQ (Mm hS hN hI hE ρ j9 ((Qz.at (b:=n3) sW (fun q hq=>hq.2.1) (fun q hq=>Z)).agr (a4.le Z)) Z hfH hTH) ?_;rintro⟨u,M5,n5⟩ ⟨g',nh,b',h5,N7,rA,hB,a5,h6⟩;simp only at h5 hB a5 h6;subst h5;have a35:aq nx M M5:=a3.trans ((a4.le Z).trans (a5.le Z));clear C5 Qz zn zb rD sW hTG hTH hfG hfH;by_cases NR:a=0
     ·refine iC IU hg.1 hg.2 N7.1 N7.2 NR ?_
      refine gQ (hA NR M5 _ (a5.le Z) Z) ?_;rintro⟨u,M6,n6⟩ ⟨q1,q2,q3⟩;simp only at q1 q2 q3;subst q1;have Vk:aq nx M M6:=a35.trans (q2.le Z);by_cases NP:b'=0
      ·refine gw IU hg.1 hg.2 N7.1 N7.2 NR NP ?_
       refine gQ (hB NP M6 _ (q2.le Z) Z) ?_;rintro⟨u,M7,n7⟩ ⟨q4,q5,q6⟩;simp only at q4 q5 q6;subst q4;have aX:aq nx M M7:=Vk.trans (q5.le Z);refine ti IU e0 cF.1 cF.2 ?_;refine gQ (oH hS hN ρ j9 (hL.agr (aX.le hb)) Z hf) ?_;rintro⟨u,M8,n8⟩ ⟨hp,a8,h8⟩;simp only at hp a8 h8;have aY:aq nx M M8:=aX.trans (a8.le Z);rcases hp with ⟨hw,n,rl,je,ho⟩ | ⟨hw,h,cr,ho,_⟩
       ·subst ho
        refine mI IU je ?_;refine lG (DD ρ j9 _ _) fun M11 XA y2 y3=>?_
        refine bR IU ?_;refine lG (Kv ρ j9 _ _) fun M12 XB y5 y6=>?_
        refine bR IU ?_;refine lG (MG ρ j9 _ _) fun M13 XC y8 y9=>?_
        refine mI IU e1 ?_;refine lG (Mk ρ j9 _ _ _) fun M14 XD z2 z3=>?_
        refine Ao IU e2 e3 ?_;refine lG (Na ρ j9 _ _ _ _) fun M15 XG z5 z6=>?_
        refine bR IU ?_;refine gQ (f8 hS hN hI hE hJ ρ j9 _ _) ?_;rintro⟨u,M16,XH⟩ ⟨z7,z8,z9⟩;simp only at z7 z8 z9;subst z7;refine bR IU ?_;exact aY.trans ((y2.le Z).trans ((y5.le Z).trans ((y8.le Z).trans ((z2.le Z).trans ((z5.le Z).trans (z8.le Z))))))
       ·subst ho
        refine Ao IU NR NP ?_;refine lG (DD ρ j9 _ _) fun M11 XA y2 y3=>?_
        refine bR IU ?_;refine lG (Kv ρ j9 _ _) fun M12 XB y5 y6=>?_
        refine bR IU ?_;refine lG (MG ρ j9 _ _) fun M13 XC y8 y9=>?_
        refine mI IU e1 ?_;refine lG (Mk ρ j9 _ _ _) fun M14 XD z2 z3=>?_
        refine Ao IU e2 e3 ?_;refine lG (Na ρ j9 _ _ _ _) fun M15 XG z5 z6=>?_
        refine bR IU ?_;refine gQ (f8 hS hN hI hE hJ ρ j9 _ _) ?_;rintro⟨u,M16,XH⟩ ⟨z7,z8,z9⟩;simp only at z7 z8 z9;subst z7;refine bR IU ?_;exact aY.trans ((y2.le Z).trans ((y5.le Z).trans ((y8.le Z).trans ((z2.le Z).trans ((z5.le Z).trans (z8.le Z))))))
      ·have aX:=Vk
       refine dp IU hg.1 hg.2 N7.1 N7.2 NR NP e0 cF.1 cF.2 ?_;refine gQ (oH hS hN ρ j9 (hL.agr (aX.le hb)) Z hf) ?_;rintro⟨u,M8,n8⟩ ⟨hp,a8,h8⟩;simp only at hp a8 h8;have aY:aq nx M M8:=aX.trans (a8.le Z);rcases hp with ⟨hw,n,rl,je,ho⟩ | ⟨hw,h,cr,ho,_⟩
       ·subst ho
        refine mI IU je ?_;refine lG (DD ρ j9 _ _) fun M11 XA y2 y3=>?_
        refine bR IU ?_;refine lG (Kv ρ j9 _ _) fun M12 XB y5 y6=>?_
        refine bR IU ?_;refine lG (MG ρ j9 _ _) fun M13 XC y8 y9=>?_
        refine mI IU e1 ?_;refine lG (Mk ρ j9 _ _ _) fun M14 XD z2 z3=>?_
        refine Ao IU e2 e3 ?_;refine lG (Na ρ j9 _ _ _ _) fun M15 XG z5 z6=>?_
        refine bR IU ?_;refine gQ (f8 hS hN hI hE hJ ρ j9 _ _) ?_;rintro⟨u,M16,XH⟩ ⟨z7,z8,z9⟩;simp only at z7 z8 z9;subst z7;refine bR IU ?_;exact aY.trans ((y2.le Z).trans ((y5.le Z).trans ((y8.le Z).trans ((z2.le Z).trans ((z5.le Z).trans (z8.le Z))))))
       ·first | exact(NR (ha.2 (pj hw))).elim | exact(NP (rA.2 (vl hw))).elim
     ·have aX:=a35
      by_cases NP:b'=0
      ·refine gw IU hg.1 hg.2 N7.1 N7.2 NR NP ?_
       refine gQ (hB NP M5 _ (aq.refl _ _) Z) ?_;rintro⟨u,M7,n7⟩ ⟨q4,q5,q6⟩;simp only at q4 q5 q6;subst q4;have aX:aq nx M M7:=aX.trans (q5.le Z);refine ti IU e0 cF.1 cF.2 ?_;refine gQ (oH hS hN ρ j9 (hL.agr (aX.le hb)) Z hf) ?_;rintro⟨u,M8,n8⟩ ⟨hp,a8,h8⟩;simp only at hp a8 h8;have aY:aq nx M M8:=aX.trans (a8.le Z);rcases hp with ⟨hw,n,rl,je,ho⟩ | ⟨hw,h,cr,ho,_⟩
       ·subst ho
        refine mI IU je ?_;refine lG (DD ρ j9 _ _) fun M11 XA y2 y3=>?_
        refine bR IU ?_;refine lG (Kv ρ j9 _ _) fun M12 XB y5 y6=>?_
        refine bR IU ?_;refine lG (MG ρ j9 _ _) fun M13 XC y8 y9=>?_
        refine mI IU e1 ?_;refine lG (Mk ρ j9 _ _ _) fun M14 XD z2 z3=>?_
        refine Ao IU e2 e3 ?_;refine lG (Na ρ j9 _ _ _ _) fun M15 XG z5 z6=>?_
        refine bR IU ?_;refine gQ (f8 hS hN hI hE hJ ρ j9 _ _) ?_;rintro⟨u,M16,XH⟩ ⟨z7,z8,z9⟩;simp only at z7 z8 z9;subst z7;refine bR IU ?_;exact aY.trans ((y2.le Z).trans ((y5.le Z).trans ((y8.le Z).trans ((z2.le Z).trans ((z5.le Z).trans (z8.le Z))))))
       ·first | exact(NR (ha.2 (pj hw))).elim | exact(NP (rA.2 (vl hw))).elim
      ·refine dp IU hg.1 hg.2 N7.1 N7.2 NR NP e0 cF.1 cF.2 ?_
       refine gQ (oH hS hN ρ j9 (hL.agr (aX.le hb)) Z hf) ?_;rintro⟨u,M8,n8⟩ ⟨hp,a8,h8⟩;simp only at hp a8 h8;have aY:aq nx M M8:=aX.trans (a8.le Z);rcases hp with ⟨hw,n,rl,je,ho⟩ | ⟨hw,h,cr,ho,_⟩
       ·subst ho
        refine mI IU je ?_;refine lG (DD ρ j9 _ _) fun M11 XA y2 y3=>?_
        refine bR IU ?_;refine lG (Kv ρ j9 _ _) fun M12 XB y5 y6=>?_
        refine bR IU ?_;refine lG (MG ρ j9 _ _) fun M13 XC y8 y9=>?_
        refine mI IU e1 ?_;refine lG (Mk ρ j9 _ _ _) fun M14 XD z2 z3=>?_
        refine Ao IU e2 e3 ?_;refine lG (Na ρ j9 _ _ _ _) fun M15 XG z5 z6=>?_
        refine bR IU ?_;refine gQ (f8 hS hN hI hE hJ ρ j9 _ _) ?_;rintro⟨u,M16,XH⟩ ⟨z7,z8,z9⟩;simp only at z7 z8 z9;subst z7;refine bR IU ?_;exact aY.trans ((y2.le Z).trans ((y5.le Z).trans ((y8.le Z).trans ((z2.le Z).trans ((z5.le Z).trans (z8.le Z))))))
       ·first | exact(NR (ha.2 (pj hw))).elim | exact(NP (rA.2 (vl hw))).elim
end
end Go.Xs
namespace Go.Xs
open List Nat Option
open Go.Proofs Go.RowKit
open Go.ChangeShapes Go.WideShapes Go.ChangeAt
variable {H:Type} {enc:TypeId×Value->H}
def JoinC:Prop:=∀(bk o c:Nat) (xs:List ByteArray) (sep:ByteArray) (w:World),(∀(j:Nat) x,xs[j]?=some x->w.cell? ⟨bk,o+j,none⟩=some (.string x))->bk<w.heap.size->xs.length<=140737488355328->xs.length<=c ->
 (Lib.join (xs.map (·.data.toList)) sep.data.toList).length<=140737488355328 ->
 Calls am 58 #[.slice (some ⟨bk,o,none⟩) xs.length c,.string sep] w fun e w'=>e = .returned (.string ⟨(Lib.join (xs.map (·.data.toList)) sep.data.toList).toArray⟩)/\Below w.heap.size w w'
theorem SM (h:JoinC):nM:=fun _=>DS Tryz.func58 (mV names _ _ Tryz.func58) U h
theorem predsNothing_calls (hC:JoinC) {W:World} {base:Nat} {v v1 v2 v3:Value} {d d1 d2 d3:DataW H} {p p1 p2 p3:List MemPlace} (NP:∃(b:Nat) (us:Array Value) (t:TypeId) (fz:Nat×Nat),W.heap[b]?=some (.cells us t fz))
 (hk:Value.okWide am W .any base 22 v) (h:DataW.Trod enc am W 0 (fun _=>true) true 22 v d p)
 (k1:Value.okWide am W .any base 3 v1) (_:DataW.Trod enc am W 0 (fun _=>true) true 3 v1 d1 p1)
 (k2:Value.okWide am W .any base 3 v2) (_:DataW.Trod enc am W 0 (fun _=>true) true 3 v2 d2 p2)
 (k3:Value.okWide am W .any base 3 v3) (_:DataW.Trod enc am W 0 (fun _=>true) true 3 v3 d3 p3) :
 Calls am 5 #[v,v1,v2,v3] W fun e w'=>e = .returned (.bool true)/\Below W.heap.size W w':=by
 obtain⟨a,len,cap,rfl⟩:=okWide_slice Tryz.underlying22 hk;obtain⟨x1,rfl⟩:=okWide_int Tryz.underlying3 k1;obtain⟨x2,rfl⟩:=okWide_int Tryz.underlying3 k2;obtain⟨x3,rfl⟩:=okWide_int Tryz.underlying3 k3;obtain⟨n,h⟩:=h;obtain⟨σ,M,nx,xs,g,_,hv,ht,hl⟩:=xE (ρ:=⟨fun _=>0,fun _=>none,false⟩) zA NP n 22 [.slice a len cap] ⟨_,h⟩ Vh .nil 0 (oS.start _ _ fun _=>rfl) af;have hl:xs.length=1:=hl.trans U;obtain⟨x,rfl⟩:∃x,xs=[x]:=by
  match xs,hl with
  | [x],_=>exact⟨x,rfl⟩
 obtain⟨L,h1,h2⟩:=Ol ht;refine Fq (vs:=[.slice a len cap,.int .i64 x1,.int .i64 x2,.int .i64 x3]) g (f5 O9 PY Pb Su (SM hC) _ rfl h1 (Nat.le_refl _) h2 x1 x2 x3) (fun r h=>h.1) ?_ Tryz.func5 U U;simp only[bb]at hv;obtain⟨u,us,e,hx,_⟩:=hv;cases e;simp only[bb];refine⟨_,_,rfl,hx,?_⟩;simp only[VR];exact⟨_,_,rfl,rfl,_,_,rfl,rfl,_,_,rfl,rfl,rfl⟩
end Go.Xs
