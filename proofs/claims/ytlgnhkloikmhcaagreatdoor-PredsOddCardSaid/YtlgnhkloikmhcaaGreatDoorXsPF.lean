/- A part of the proof: the layers and contracts it rests on. -/
import Derived.Test.YtlgnhkloikmhcaaGreatDoorXsPB
import Derived.Test.YtlgnhkloikmhcaaGreatDoorXsPC
import Derived.Test.YtlgnhkloikmhcaaGreatDoorXsPD
import Derived.Test.YtlgnhkloikmhcaaGreatDoorXsPE
import Derived.Test.YtlgnhkloikmhcaaGreatDoorXsPG
import Derived.Test.YtlgnhkloikmhcaaGreatDoorXsPH
import Derived.Test.YtlgnhkloikmhcaaGreatDoorXsPK
import Derived.Lib.Join
import Derived.WalkKit
import Derived.ProofKit
import Derived.OpenShut
import Derived.ChangeOld
set_option maxRecDepth 100000
set_option maxHeartbeats 8000000
set_option linter.all false
set_option linter.deprecated false
namespace Go.Xs
open List Nat Option
variable{S:HS}{nx:Nat}
noncomputable section
open Go.Proofs
def ex (f:Nat->aR->List aF) (ask:Int->Bool):Nat->List aR->List aF
 | _,[]=>[]
 | j,r::l=>(if ask j=true then f j r else [])++ex f ask (j+1) l
def Gd (S:HS) (R:Int->List bO) (r:aR) (num:Int) (k:my):List aF:=Es (eo (eO S r.p k.x) k.t (R k.x)) k num
def iS (S:HS) (Y:List Int) (R:Int->List bO) (j:Nat) (r:aR):List aF :=
 if r.kind=5/\(txR S r.t).1.s=1 then (Y.map (fD (cU S j) j r.t)).flatMap (Gd S R r (txR S r.t).1.n) else []
theorem Rf {R:Int->List bO} {r:aR} {num:Int} {k:my} (h:(R k.x).length<=1000):(Gd S R r num k).length<=2002:=by
 have je:=(nQ (eO S r.p k.x) k.t (R k.x)).2;have JW:=Bz (eo (eO S r.p k.x) k.t (R k.x)) k.w k.n;have NW:=Bg (eo (eO S r.p k.x) k.t (R k.x)) k.w k.n;unfold Gd Es;rw[length_append,length_map,length_map];omega
theorem AZ {ops:List Oper} {x:Nat×List Nat×List Nat} {i:Nat} {e:bZ} {log:jg} (h1:zd ops x (i,e.rd,bM e.upd)) (h2:tL ops x log):tL ops x (dM i e log):=by
 unfold dM;split
 ·exact h2
 ·rw[Cx]
  exact⟨h1,h2⟩
theorem Gw {α:Type} {enc:α->List XV} {l:List α} {x:Nat} (h:x ∈ bM (mb nx enc l)):x=nx:=by
 unfold mb at h;split at h
 ·cases h
 ·simpa [bM] using h
theorem U8 (ρ:aK) (M:Hp) (nx h:Nat) (j:Int) {k t x w n v pk pa pb:Int} {pv ve:XV} (p1:cellsOf pv=[pv]/\ax pv=true) (q1:cellsOf ve=[ve]/\ax ve=true) :
 ar ao ρ 69 [.mp h 0,.int .i64 j,.agg [.int .i64 k,.int .u64 t,.int .u64 x,.int .u64 w,.int .u64 n,.int .u64 v,.int .i64 pk,.int .u64 pa,.int .u64 pb,pv,ve]] M nx fun r=>r.1 = .fn (.func 116) [] [.mp nx 0,.mp (nx+2) 0,.mp (nx+1) 0]/\nx+3<=r.2.2 /\
  gG r.2.1 nx=some (.row [.mp h 0])/\gG r.2.1 (nx+1)=some (.row [.int .i64 j])/\gG r.2.1 (nx+2)=some (.row [.int .i64 k,.int .u64 t,.int .u64 x,.int .u64 w,.int .u64 n,.int .u64 v,.int .i64 pk,.int .u64 pa,.int .u64 pb,pv,ve])/\aq nx M r.2.1:=by
 refine ar.wk 8 [.tmp 6] Tryz.func69 ?_;refine mY kE p1.1 p1.2 q1.1 q1.2 ?_;exact⟨af,O⟩
theorem Yu (hS:kL) (hN:kJ) (hI:Ci) (hE:qi) (ρ:aK) (j9:ρ.det=false) {M:Hp} {lo hi h:Nat} {L:List aR} (H:bX M lo hi h S) (hh:hi<=nx) (hn:S.nrec=L.length) (hR:∀j r,L[j]?=some r->c_ M nx r ((S.crec.drop (j*11)).take 11))
 (hl:L.length<=100000) (ip:∀r ∈ L,dV r.p<=100000/\r.es.length<=100000) (MD:S.looks.length<=100000) (few:∀l:List Int,l.Nodup->(∀x ∈ l,(S.obj x).isSome=true)->l.length<=4000)
 (U0:By S) (Wb:oC S) (fewm:S.mods.length<=1000) (hp:∀r ∈ L,r.kind=5->dV r.p<=1000/\gI r.p) (ZR:∀x,∀i ∈ dk S S.mods x,1<=i.n)
 {R:Int->List bO} (hRow:∀x (l:List bO),l.Perm (dk S S.mods x)->l.Pairwise (fun a b=>a.wr<=b.wr)->l=R x) (ZN:∀x,(R x).length<=1000) {Y:List Int} (hY:∀ys,Fj S ys->ys=Y)
 (ask:Int->Bool) {g:Nat} {first caps:List XV} (hq:∀j:Nat,j<L.length->∀(M':Hp) (n':Nat),aq nx M M'->nx<=n'->ar ao ρ g (first++[.int .i64 j]++caps) M' n' (fe n' M' (.bool (ask j))))
 (ay:(ex (iS S Y R) ask 0 L).length<=1000) :
 ar ao ρ 31 [.mp h 0,.fn (.func g) first caps] M nx fun o=>∃l:List aF,l.Perm (ex (iS S Y R) ask 0 L)/\l.Pairwise (fun a b=>CZ b a=false)/\Ai nx M 9 aM l o:=by
 refine ar.closed fun Za hka0=>?_
 refine ar.walkR (m:=34) (rs:=[.cell 4 29]) follows j9 Tryz.func31 U rfl rfl rfl ?_
 conv in qD _ _ _ _ _ _ _=>arg 5;whnf
 refine po ?_;refine mI Xp @iX ?_;refine CY ?_;refine po ?_;refine mI Xp @iX ?_;generalize xu:aG (aG M nx _) (nx+1) _=M1;have a1:aq nx M M1:=by rw[<-xu];exact O
 have z0:gG M1 nx=some (.row [.mp h 0]):=by rw[<-xu];exact J
 have z1:gG M1 (nx+1)=some (.row [.nils]):=by rw[<-xu];exact J
 have Bi:∀k o,gG M1 k=some o->k<nx+3:=fun k o hk=>by
  rw[<-xu,aB]at hk;split at hk
  ·omega
  ·rw[aB]at hk
   split at hk
   ·omega
   ·have:=(Za k o hk).1;omega
 clear xu;have oy:Pi (vO M1 (nx+1)) M1:=fun k y hk=>by
  rw[cV]at hk;split at hk
  ·cases hk
  ·exact hk
 have aN:aq nx M (vO M1 (nx+1)):=fun k hk=>by rw[cV,if_neg af];exact a1 k hk
 refine gQ (ar.frame oy (yW ρ (H.agr (aN.le hh)) af hn (fun j r hr=>((hR j r hr).agr aN).wk af) hl ip)) ?_;rintro⟨u,M2,n2⟩ ⟨N3,⟨gS,q2,q3⟩,YG⟩;simp only at gS q2 q3 YG;obtain⟨Zn,zi⟩:=YG.agr oy q2 Bi;have sy:gG N3 (nx+1)=none:=by rw[q2 (nx+1) af,cV,if_pos rfl]
 have z0:=(Zn nx af).trans z0;have z1:=(Zn (nx+1) af).trans z1;have a2:aq nx M M2:=a1.trans (Zn.le af);obtain⟨Tz,V9,X8⟩:=gS;have Up:∀N,(∀q,q<n2->q≠nx+1->gG N q=gG M2 q)->bE N n2 u 11 L.length Tz/\∀i r,L[i]?=some r->c_ N n2 r ((Tz.drop (i*11)).take 11):=fun N hN=>by
  have vh:Kp n2 N3 N:=fun k x hk hx=>by
   have cf:k≠nx+1:=fun e=>by rw[e,sy]at hx;cases hx
   rw[hN k hk cf];exact zi k x hx
  exact⟨V9.kp vh,fun i r hi=>(X8 i r hi).kp vh⟩
 have Ym:=fun N=>V9.len (P:=ao) (t:=22) jp.2.2.2.2.2 N
 clear oy q2 YG sy zi V9 X8 a1 aN Bi Zn;refine Ao Xp @iX Ym ?_;refine Cm ?_;refine Hn (fun m s=>∃(i:Nat) (acc:List aF) (vv:XV),i<=L.length/\m=L.length - i/\acc++ex (iS S Y R) ask i (L.drop i)=ex (iS S Y R) ask 0 L/\(acc=[]->vv = .nils) /\
  gG s.env 1=some (.fn (.func g) first caps)/\gG s.env 2=some (.mp nx 0)/\gG s.env 4=some (.mp (nx+1) 0)/\gG s.env 9=some u/\gG s.env 10=some (.int .i64 L.length)/\gG s.env 11=some (.int .i64 i) /\
  gG s.M (nx+1)=some (.row [vv])/\di s.M n2 s.nx vv 9 aM acc/\(∀q,q<n2->q≠nx+1->gG s.M q=gG M2 q)/\n2<=s.nx) L.length ⟨0,[],.nils,af,af,aj,fun _=>rfl,?_⟩ ?_
 ·refine bR Xp ?_
  exact⟨z1,dG.nil _ _,fun _ _ _=>trivial,af⟩
 ·rintro m ⟨env,M',nx'⟩ ⟨i,acc,vv,hi',hm,Jp,ZS,e1,e2,e4,e9,dx,kW,hz,hv,hk,F7⟩
  simp only at e1 e2 e4 e9 dx kW hz hv hk F7;refine po ?_;by_cases aL:(i:Int)<(L.length:Int)
  ·have aP:i<L.length:=af
   obtain⟨r,hr⟩:∃r,L[i]?=some r:=⟨L[i],by simp[aP]⟩;have bV:=eF i;have wS:L.drop i=r::L.drop (i+1):=by rw[drop_eq_getElem_cons aP];congr 1;exact(List.getElem?_eq_some_iff.1 hr).2
   rw[wS]at Jp;simp only[ex]at Jp;obtain⟨cw,fF⟩:=Up M' hk;obtain⟨pk,pa,pb,pv,ve,dI,p1,q1,_⟩:=(fF i r hr).cells;obtain⟨n,o,jw,bC,aU⟩:=cw.elem (P:=ao) aP (t:=22) (t':=47) jp.2.2.2.1 il.1;have aU:=aU M' (aq.refl _ _);rw[dI]at aU;have yK:∀N,(∀q,q<n2->q≠nx+1->gG N q=gG M2 q)->bG N n2 r.p [.int .i64 pk,.int .u64 pa,.int .u64 pb,pv]:=fun N hN=>by
    have:=(Up N hN).2 i r hr;rw[dI]at this;obtain⟨_,_,_,_,_,e,_,_,_,h⟩:=this.cells;simp only[List.cons.injEq,XV.int.injEq,true_and,and_true]at e;obtain⟨rfl,rfl,rfl,rfl,rfl⟩:=e;exact h
   clear cw fF;refine mY Xp @iX dx kW aL ?_;refine po ?_;refine mI Xp @iX ?_;refine CY ?_;refine Cm ?_;refine po ?_;refine dp Xp @iX e9 kW bC aU p1.1 p1.2 q1.1 q1.2 ?_;refine po ?_;refine Ao Xp @iX e1 ?_;generalize oM:aG (aG M' (nx'+4) _) (nx'+4) _=M3;have a3:aq nx' M' M3:=by rw[<-oM];exact O
   have z6:gG M3 (nx'+4)=some (.row [.int .i64 r.kind,.int .u64 r.t,.int .u64 r.x,.int .u64 r.w,.int .u64 r.n,.int .u64 r.v,.int .i64 pk,.int .u64 pa,.int .u64 pb,pv,ve]):=by rw[<-oM];exact J
   clear oM;refine gQ (hq i aP M3 _ (fun q hq=>by rw[a3 q af,hk q af af];exact a2 q hq) af) ?_;rintro⟨u4,M4,n4⟩ ⟨g1,g2,g3⟩;simp only at g1 g2 g3;subst g1;have z6:=(g2 (nx'+4) af).trans z6;have a4:aq nx' M' M4:=a3.trans (g2.le af);clear a3 g2 bC aU dI;by_cases P9:ask i=true
   ·have t2:=(hk nx af af).trans z0
    have t2:=(a4 nx af).trans t2;refine Ao Xp @iX P9 ?_;refine po ?_;refine CU Xp @iX e2 t2 z6 p1.1 p1.2 q1.1 q1.2 ?_;refine gQ (U8 ρ M4 _ h i p1 q1) ?_;rintro⟨u5,M5,n5⟩ ⟨g4,g5,g6,g7,g8,g9⟩;simp only at g4 g5 g6 g7 g8 g9;subst g4;refine mI Xp @iX ?_;generalize AB:aG _ 23 _=E;have t1:gG E 1=some (.fn (.func g) first caps):=by rw[<-AB];exact J
    have t2':gG E 2=some (.mp nx 0):=by rw[<-AB];exact J
    have t4:gG E 4=some (.mp (nx+1) 0):=by rw[<-AB];exact J
    have t9:gG E 9=some u:=by rw[<-AB];exact J
    have TB:gG E 10=some (.int .i64 L.length):=by rw[<-AB];exact J
    have t11:gG E 11=some (.int .i64 i):=by rw[<-AB];exact J
    have V8:cG E (.tmp 23) = .fn (.func 116) [] [.mp (n4+4) 0,.mp (n4+6) 0,.mp (n4+5) 0]:=by
     have:gG E 23=some (.fn (.func 116) [] [.mp (n4+4) 0,.mp (n4+6) 0,.mp (n4+5) 0]):=by rw[<-AB];exact J
     simp only[cG,this]
    clear AB e1 e2 e4 e9 dx kW;have t2:=(g9 nx af).trans t2;have a5:aq nx' M' M5:=a4.trans (g9.le af);have hz5:=(a5 (nx+1) af).trans hz;have vc:∀q,q<n2->q≠nx+1->gG M5 q=gG M2 q:=fun q h1 h2=>(a5 q af).trans (hk q h1 h2)
    have hv5:=hv.up (N:=M5) (fun q _ hq=>a5 q hq) (Nat.le_refl _);clear a5 a4 g9 z6 hz hv hk;refine Cm ?_;refine⟨116,[.mp (n4+4) 0,.mp (n4+6) 0,.mp (n4+5) 0],fun M' n'=>∃(jF:List aF) (vv:XV),jF=acc++iS S Y R i r/\(jF=[]->vv = .nils)/\gG M' (nx+1)=some (.row [vv])/\di M' n2 n' vv 9 aM jF/\(∀q,q<n2->q≠nx+1->gG M' q=gG M2 q)/\n5<=n',V8,?_,?_⟩
    ·generalize hYW:xB ao ρ 34 _ _ _ _=YW
     refine OQ.walk follows (m:=42) Tryz.func116 U rfl rfl rfl ?_
     conv in qD _ _ _ _ _ _ _=>arg 5;whnf
     refine po ?_;refine CU Bj @iX g6 g7 g8 p1.1 p1.2 q1.1 q1.2 ?_;have aM5:aq nx M M5:=fun q hq=>by rw[vc q af af];exact a2 q hq
     refine lG (mA ρ (H.agr (aM5.le hh)) af U0 r.t) fun M6 n6 XI g12=>?_
     obtain⟨AT,Wf⟩:∃A,A=iS S Y R i r:=⟨_,rfl⟩;rw[<-Wf];have qL:∀num,num=(txR S r.t).1.n->r.kind=5/\(txR S r.t).1.s=1->AT=(Y.map (fD (cU S i) i r.t)).flatMap (Gd S R r num):=fun num e h=>by rw[Wf,iS,if_pos h,e]
     have SU:¬ (r.kind=5/\(txR S r.t).1.s=1)->AT=[]:=fun h=>by rw[Wf,iS,if_neg h]
     generalize (txR S r.t).2=tb;obtain⟨⟨xt,xb,xe,xs,xn⟩,hx⟩:∃a,a=(txR S r.t).1:=⟨_,rfl⟩;rw[<-hx]at qL SU ⊢;clear hx;simp only[d_]at qL SU ⊢;refine mI Bj @iX ?_;generalize hM7:aG (aG M6 _ _) _ _=M7;have a7:aq n6 M6 M7:=by rw[<-hM7];exact O
     have z7:gG M7 (n6+3)=some (.row [.int .u64 xt,.int .i64 xb,.int .i64 xe,.int .i64 xs,.int .i64 xn]):=by rw[<-hM7];exact J
     clear hM7;have SM:aq n5 M5 M7:=(XI.le af).trans (a7.le af);have g6:=(SM (n4+4) af).trans g6;have g7:=(SM (n4+5) af).trans g7;have g8:=(SM (n4+6) af).trans g8;have aM7:aq nx M M7:=aM5.trans (SM.le af);by_cases Uk:r.kind=5/\xs=1
     ·obtain⟨Gm,rfl⟩:=Uk
      refine po ?_;refine dw Bj @iX g6 g7 g8 z7 p1.1 p1.2 q1.1 q1.2 Gm ?_;refine po ?_;refine iC Bj @iX g6 g7 g8 z7 ?_;refine gQ (nZ hS hN ρ j9 (H.agr (aM7.le hh)) af hn (fun j r hr=>((hR j r hr).agr aM7).wk af) hl ip MD few hr Gm).out ?_;rintro⟨u8,M8,n8⟩ ⟨⟨ys,Oi,JJ,g9,RG⟩,XT,_⟩;simp only at JJ g9 RG XT;obtain rfl:=hY ys Oi;have qL:=qL xn rfl ⟨Gm,rfl⟩;have VX:(ys.map (fD (cU S i) i r.t)).length<=4000:=by rw[length_map];exact few ys (Oi.1.imp fun h=>af) fun x hx=>(Oi.2 x).1 hx
      clear SU Oi;have g6:=(g9 (n4+4) af).trans g6;have g7:=(g9 (n4+5) af).trans g7;have g8:=(g9 (n4+6) af).trans g8;have z7:=(g9 (n6+3) af).trans z7;have We:aq n5 M5 M8:=SM.trans (g9.le af);have aM8:aq nx M M8:=aM5.trans (We.le af);clear g9 SM aM7 a7 XI;generalize ys.map (fD (cU S i) i r.t)=Q at qL JJ VX ⊢;have Yh:=fun N=>(JJ.at (Nat.le_refl n8)).len (P:=ao) (t:=48) jn.2.2.2.2.2 N
      refine Ao Bj @iX Yh ?_;rw[if_pos P9,<-Wf]at Jp;have dy:(acc++AT).length<=1000:=by
       have:=congrArg List.length Jp;simp only[length_append]at this ⊢;omega
      refine Cm ?_;refine Hn (fun m s=>∃(i2:Nat) (jF:List aF) (vv:XV),i2<=Q.length/\m=Q.length - i2/\jF=acc++(Q.take i2).flatMap (Gd S R r xn)/\(jF=[]->vv = .nils) /\
       gG s.env 0=some (.yd n5)/\gG s.env 1=some (.mp (n4+4) 0)/\gG s.env 2=some (.mp (n4+6) 0)/\gG s.env 3=some (.mp (n4+5) 0)/\gG s.env 5=some (.mp (n6+3) 0)/\gG s.env 26=some u8/\gG s.env 27=some (.int .i64 Q.length)/\gG s.env 28=some (.int .i64 i2) /\
       gG s.M (nx+1)=some (.row [vv])/\gY s.M (fun q=>(n2<=q/\q<nx')\/(n8<=q/\q<s.nx)) vv 9 aM jF/\(∀q,q<n8->q≠nx+1->¬ (n2<=q/\q<nx')->gG s.M q=gG M8 q)/\Cl s.nx s.M/\n8<=s.nx) Q.length ⟨0,acc,vv,af,af,aj,ZS,?_⟩ ?_
      ·refine bR Bj ?_
       exact⟨(We _ af).trans hz5,gY.keep hv5.lp fun q hq=>⟨We q af,.inl hq⟩,fun _ _ _ _=>trivial,XT.le af,af⟩
      ·rintro m2 ⟨env2,M9,oF⟩ ⟨i2,jF,vv2,bD,JE,T9,XK,e0,e1,e2,e3,e5,e26,ZF,NG,hz9,hv9,SV,Qq,hnn9⟩
       simp only at e0 e1 e2 e3 e5 e26 ZF NG hz9 hv9 SV Qq hnn9;refine po ?_;by_cases F1:(i2:Int)<(Q.length:Int)
       ·have Um:i2<Q.length:=af
        obtain⟨kl,kA⟩:∃k,Q[i2]?=some k:=⟨Q[i2],by simp[Um]⟩;have F_:=eF i2;obtain⟨n,o,jw,bC,aU⟩:=((JJ.up (N:=M9) (fun q h1 h2=>SV q h2 af af) (Nat.le_refl _)).at (Nat.le_refl n8)).elem (P:=ao) Um (t:=48) (t':=51) jn.2.2.2.1 mH.1;have aU:=aU M9 (aq.refl _ _);rw[eT (f:=cX) (fun _=>rfl) kA]at aU;have kB:(Q.take (i2+1)).flatMap (Gd S R r xn)=(Q.take i2).flatMap (Gd S R r xn)++Gd S R r xn kl:=by rw[take_add_one,kA,flatMap_append];simp
        obtain⟨kk,sT⟩:∃kk,kk=kl:=⟨_,rfl⟩;rw[<-sT]at kB;obtain⟨l1,l2,l3,l4,l5,l6,l7,l8⟩:=kl;simp only[cX]at aU;refine mY Bj @iX ZF NG F1 ?_;refine po ?_;refine mI Bj @iX ?_;refine CY ?_;refine Cm ?_;refine po ?_;refine iC Bj @iX e26 NG bC aU ?_;generalize DT:aG (aG M9 _ _) _ _=M10;have y9:aq oF M9 M10:=by rw[<-DT];exact O
        have Ef:gG M10 (oF+3)=some (.row [.int .i64 l1,.int .i64 l2,.int .u64 l3,.int .u64 l4,.int .u64 l5,.int .u64 l6,.bool l7,.bool l8]):=by rw[<-DT];exact J
        have wC:Cl (oF+4) M10:=by rw[<-DT];exact((Qq.le af).set af rfl).set af rfl
        clear DT bC aU;have c6:=(y9 (n4+4) af).trans ((SV (n4+4) af af af).trans g6);have c8:=(y9 (n4+6) af).trans ((SV (n4+6) af af af).trans g8);have c7:=(y9 (n6+3) af).trans ((SV (n6+3) af af af).trans z7);have ck:=(y9 nx af).trans ((SV nx af af af).trans ((We nx af).trans t2));generalize AB:aG _ 8 _=E2;have f0:gG E2 0=some (.yd n5):=by rw[<-AB];exact J
        have f1:gG E2 1=some (.mp (n4+4) 0):=by rw[<-AB];exact J
        have f2:gG E2 2=some (.mp (n4+6) 0):=by rw[<-AB];exact J
        have f3:gG E2 3=some (.mp (n4+5) 0):=by rw[<-AB];exact J
        have f5:gG E2 5=some (.mp (n6+3) 0):=by rw[<-AB];exact J
        have f8:gG E2 8=some (.mp (oF+3) 0):=by rw[<-AB];exact J
        have Ys:gG E2 26=some u8:=by rw[<-AB];exact J
        have Sk:gG E2 27=some (.int .i64 Q.length):=by rw[<-AB];exact J
        have SS:gG E2 28=some (.int .i64 i2):=by rw[<-AB];exact J
        clear AB e0 e1 e2 e3 e5 e26 ZF NG;refine CY ?_;refine Pw (ob [_,_,_,_,_,_,_] _ ?_);refine ii Bj f0 f2 f5 @f8 Ef c8 c7 p1.1 p1.2 q1.1 q1.2 ?_;refine FD (args:=[.agg [.int .i64 l1,.int .i64 l2,.int .u64 l3,.int .u64 l4,.int .u64 l5,.int .u64 l6,.bool l7,.bool l8,.int .i64 pk,.int .u64 pa,.int .u64 pb,pv,.int .i64 xn]]) (by simp only[EU];(refine mI Bj f0 ?_;try exact⟨⟩)) ?_;refine Eq.mp (congrFun (congrFun (congrFun (congrFun hYW _) _) _) _) (EA rfl ?_);have Y5:=(y9 (nx+1) af).trans hz9;have Zf:=hv9.cell;have Z9:kltV (oF+4) pv=true:=by
         have:=(wC _ _ c8).2;simp only[cp,aE,kltV]at this;split at this
         ·assumption
         ·cases this
        have hkh:h<oF+4:=by
         have:=(wC _ _ ck).2;simp only[cp,aE,kltV]at this;split at this
         ·rename_i e
          rwa [blt_eq]at e
         ·cases this
        refine CU Xp p1.1 p1.2 t2' t4 ck Y5 Zf.1 Zf.2 ?_;generalize VL:aG (aG M10 (oF+12) _) (oF+12) _=M11;have Zm:aq (oF+5) M10 M11:=by rw[<-VL];exact O
        have Uh:Cl (oF+13) M11:=by
         rw[<-VL];refine((wC.le af).set af rfl).set af ?_;simp only[cp,aE,kltV,kltV.le (show oF+4<=oF+13 by omega) Z9,Bool.and_self]
        clear VL;have YR:∀q,q<n2->q≠nx+1->gG M11 q=gG M2 q:=fun q h1 h2=>by rw[Zm q af,y9 q af,SV q af h2 af,We q af];exact vc q h1 h2
        have aM11:aq nx M M11:=fun q hq=>by rw[YR q af af];exact a2 q hq
        have JX:=hp r (mem_of_getElem? hr) Gm;have hb17:Nat.blt h (oF+17)=true:=by rw[blt_eq];omega
        have hp17:kltV (oF+17) pv=true:=kltV.le af Z9;refine aT (bN.lst (l:=Gd S R r xn kk) (enc:=aM) (sz:=9) (fun _=>rfl) (Uh.le af) (by simp only[aE,kltV,hb17,hp17]) fun N hN=>?_) ak ?_
        ·have:=f70 hI ρ j9 (M:=N) (nx:=oF+17) (H.agr (fun q hq=>by rw[hN q af];exact aM11 q af)) af U0 Wb fewm (yK N fun q h1 h2=>by rw[hN q af];exact YR q h1 h2) af JX.1 JX.2 kk xn (ZR kk.x) (hRow kk.x) (ZN kk.x)
         rw[sT]at this ⊢;exact this
        ·have hBl:(Gd S R r xn kk).length<=2002:=Rf (ZN kk.x)
         have VF:=Ar (M:=M11) (nx:=oF+17) (enc:=aM) (sz:=9) (l:=Gd S R r xn kk) (fun _=>rfl) af;have Qw:=oK (M:=M11) (nx:=oF+17) (enc:=aM) (l:=Gd S R r xn kk);have Zs:=pD (nx:=oF+17) (l:=Gd S R r xn kk);have wG:=Gy (enc:=aM) (l:=Gd S R r xn kk) (fun _=>rfl) (Uh.le (show oF+13<=oF+17 by omega));have hv12:gY (aY M11 (mb (oF+17) aM (Gd S R r xn kk))) (fun q=>n2<=q/\q<nx'\/n8<=q/\q<oF) vv2 9 aM jF:=gY.keep hv9 fun q hq=>⟨by rw[Qw q af,Zm q af,y9 q af],hq⟩
         have hz12:=(Qw (nx+1) af).trans ((Zm (nx+1) af).trans Y5);obtain⟨rds,mr,F8⟩:=VF.el3;have fF:=F8 _ (fun _ _ _=>rfl);have hBlen:jF.length+(Gd S R r xn kk).length<=1000:=by
          have e1:Q.take (i2+1)++Q.drop (i2+1)=Q:=take_append_drop _ _;have e2:AT.length=(jF++Gd S R r xn kk).length - acc.length+((Q.drop (i2+1)).flatMap (Gd S R r xn)).length:=by
           rw[qL,<-e1,flatMap_append,kB,T9];simp only[length_append,take_append_drop];omega
          have e3:acc.length<=jF.length:=by rw[T9,length_append];omega
          simp only[length_append]at dy e2;omega
         obtain⟨v',rd,us,dX,Bb,vR,j_,QT,VZ⟩:=gY.app hv12 XK (rds:=rds) (fun q hq hp=>by have:=mr q hq;omega) ao 29 72 [.int .i64 0,.int .i64 0,.int .i64 0,.int .u64 0,.int .u64 0,.int .u64 0,.int .u64 0,.int .u64 0,.int .i64 0] (GP (oF+17) 9 (Gd S R r xn kk)) (key:=ll (oF+17) (Gd S R r xn kk)) (B:=Gd S R r xn kk) af af rfl (by simp only[fE];omega) (na _) (fun _=>rfl) (fun q hq=>af);have QT:=QT (aY M11 (mb (oF+17) aM (Gd S R r xn kk))) (fun _ _=>rfl);have VZ:=VZ (aY M11 (mb (oF+17) aM (Gd S R r xn kk))) (ll (oF+17) (Gd S R r xn kk)+1) af (fun _=>rfl) (wG.le af);have hz13:gG (aY (aY M11 (mb (oF+17) aM (Gd S R r xn kk))) us) (nx+1)=some (.row [vv2]):=(eE fun h=>by have:=j_ _ h;omega).trans hz12;have VU:=QT.cell;refine iQ Xp fF dX hz13 VU.1 VU.2 t4 @aA ?_;refine⟨⟨AZ (of_eq_true (H0 5 4 _ _ ak)) ?_,GL ?_ ?_⟩,_,rfl,ob [_] _ ?_⟩
         ·simp only[Cx,EP,and_true]
          exact⟨of_eq_true (H0 5 3 _ _ ak),of_eq_true (H0 5 2 _ _ ak),of_eq_true (H0 5 1 _ _ ak),of_eq_true (H0 5 0 _ _ ak)⟩
         ·simp only[Cx,EP,and_true]
          exact⟨of_eq_true (H0 4 3 _ _ ak),of_eq_true (H0 4 2 _ _ ak),of_eq_true (H0 4 1 _ _ ak),of_eq_true (H0 4 0 _ _ ak)⟩
         ·simp only[Fz,GQ,Cx,EP,and_true,KR]
          refine⟨of_eq_true (H0 3 2 _ _ ak),of_eq_true (H0 3 1 _ _ ak),bn _ _ _ _ _ _ (fun x hx hy=>?_) (fun x hx hy=>by cases hy) (fun x hx=>by cases hx)⟩;have:=Gw hx;simp only[mem_cons,not_mem_nil,or_false]at hy;omega
         refine mI Bj @iX ?_;refine Iy ?_;refine iC Bj @iX @Df @Nf @SS F_ ?_;refine Iy ?_;refine iC Bj @iX @Df @Nf @SS F_ ?_;refine⟨Q.length - (i2+1),af,i2+1,jF++Gd S R r xn kk,v',af,rfl,by rw[T9,kB,append_assoc],Bb,f0,f1,f2,f3,f5,Ys,Sk,rfl,?_,gY.keep QT fun q hq=>⟨?_,af⟩,fun q h1 h2 h3=>?_,?_,af⟩
         ·exact J
         ·rw[aB,if_neg af]
         ·rw[if_neg (show ¬ aw (nx+1) q from fun e=>h2 (Eq.symm e)),eE (fun h=>by have:=j_ _ h;omega),Qw q af,Zm q af,y9 q af]
          exact SV q h1 h2 h3
         ·refine(VZ.le af).set af ?_
          have Us:=kltV.le (show ll (oF+17) (Gd S R r xn kk)+1<=ll (oF+17) (Gd S R r xn kk)+5 by omega) (dG.klt QT fun k hk=>af);simp only[cp,aE,Us]
       ·refine mY Bj @iX ZF NG F1 ?_
        refine po ?_;refine mY Bj @Qc @LC @Tk @iX ?_;have hie2:i2=Q.length:=af;rw[hie2,take_length,<-qL]at T9;exact⟨fun id h=>(by cases h),jF,vv2,T9,XK,hz9,gY.keep hv9 fun q hq=>⟨rfl,af⟩,fun q h1 h2=>by rw[SV q af h2 af,We q af];exact vc q h1 h2,af⟩
     ·have Q2:=SU Uk
      have vW:∃jF vv,jF=acc++AT/\(jF=[]->vv=XV.nils)/\gG M7 (nx+1)=some (.row [vv])/\(∀n,n6<=n->di M7 n2 n vv 9 aM jF)/\(∀q,q<n2->q≠nx+1->gG M7 q=gG M2 q) :=
       ⟨acc,vv,by rw[Q2,append_nil],ZS,(SM _ af).trans hz5,fun n hn=>hv5.up (fun q _ hq=>SM q af) af,fun q h1 h2=>(SM q af).trans (vc q h1 h2)⟩
      by_cases Gm:r.kind=5
      ·have R5:¬ xs=1:=fun e=>Uk ⟨Gm,e⟩
       refine po ?_;refine ii Bj @iX @Mm g6 g7 g8 z7 p1.1 p1.2 q1.1 q1.2 (aI Gm R5) ?_;obtain⟨jF,vv,h1,h2,h3,h4,h5⟩:=vW;exact⟨fun id h=>(by cases h),jF,vv,h1,h2,h3,h4 _ af,h5,af⟩
      ·refine po ?_
       refine ii Bj @iX @Mm g6 g7 g8 z7 p1.1 p1.2 q1.1 q1.2 Gm ?_;obtain⟨jF,vv,h1,h2,h3,h4,h5⟩:=vW;exact⟨fun id h=>(by cases h),jF,vv,h1,h2,h3,h4 _ af,h5,af⟩
    ·rintro M' n' ⟨jF,vv,q1,q2,q3,q4,q5,q6⟩
     show qD _ _ _ _ _ _ _;refine Iy ?_;refine CU Bj t11 bV @iX @Df @Nf @Qc @LC @Tk ?_;rw[if_pos P9,<-append_assoc,<-q1]at Jp;exact⟨L.length - (i+1),af,i+1,jF,vv,af,rfl,Jp,q2,t1,t2',t4,t9,TB,rfl,q3,q4.up (fun q _ hq=>rfl) af,q5,af⟩
   ·refine Ao Xp @iX P9 ?_
    refine Iy ?_;refine CU Xp kW bV @iX @Df @Nf @Qc @LC @Tk ?_;rw[if_neg P9,nil_append]at Jp;exact⟨L.length - (i+1),af,i+1,acc,vv,af,rfl,Jp,ZS,e1,e2,e4,e9,dx,rfl,(a4 (nx+1) af).trans hz,hv.up (fun q _ hq=>a4 q hq) af,fun q h1 h2=>(a4 q af).trans (hk q h1 h2),af⟩
  ·refine mY Xp @iX dx kW aL ?_
   refine po ?_;refine mY Xp @Qc @LC @Tk @iX ?_;have gB:i=L.length:=af;rw[gB,drop_length]at Jp;simp only[ex,append_nil]at Jp;subst Jp;refine Iy ?_;refine Ao Xp e4 hz ?_;have Jo:aq nx M M':=fun q hq=>by rw[hk q af af];exact a2 q hq
   obtain⟨w1,w2,⟨rfl,w3⟩ | ⟨K,rfl,⟨w3,w4⟩,w5⟩⟩:=id hv
   ·refine lG (f71n ρ _ _ _) fun M6 n6 g5 g6=>?_
    have z7:=(g5 (nx+1) af).trans hz;refine Ao Xp e4 z7 ?_;have h0:ex (iS S Y R) ask 0 L=[]:=length_eq_zero_iff.1 w3;refine⟨[],by rw[h0],.nil,fun _=>rfl,dG.nil _ _,aq.set (k:=nx+1) (Jo.trans (g5.le af)) af _,an⟩
   ·have h0:0<(ex (iS S Y R) ask 0 L).length:=by
     cases hs:ex (iS S Y R) ask 0 L with
     | nil=>have:=ZS hs;cases this
     | cons a l=>simp
    refine gQ (hE ρ M' _ K _ ay h0 af w5) ?_;rintro⟨u6,M6,n6⟩ ⟨g4,⟨l',g5,g6,g7⟩,g8,g9⟩;simp only at g4 g5 g6 g7 g8 g9;subst g4;have z7:=(g8 (nx+1) af af).trans hz;refine Ao Xp e4 z7 ?_;refine⟨l',g5,g6,fun Ut=>?_,⟨by rw[g5.length_eq];omega,by rw[gZ (f:=aM) (sz:=9) (fun _=>rfl)],.inr ⟨K,by rw[g5.length_eq],⟨af,an⟩,J⟩⟩,fun q hq=>?_,an⟩
    ·rw[Ut]at g5
     have:=g5.length_eq;simp at this;omega
    ·have:=(g8 q af af).trans (Jo q hq)
     exact J
end
end Go.Xs
namespace Go.Xs
open List Nat Option
variable{L:List aR}{M:Hp}{S:HS}{caps first:List XV}{g h kb nx sz:Nat}{v:XV}
noncomputable section
open Go.Proofs
def sY (M:Hp) (p:Nat->Prop) (v:XV) (sz len:Nat) (row:List XV):Prop :=
 len<=9223372036854775807/\((v = .nils/\len=0/\row=[])\/∃n cap cs,v = .sl n sz 0 len cap/\p n/\gG M n=some (.row cs)/\len*sz<=cs.length/\row=cs.take (len*sz))
theorem sY.pp {p:Nat->Prop} {len:Nat} {row:List XV} (h:sY M p v sz len row):dN M p v sz len row:=by
 refine⟨h.1,?_⟩;rcases h.2 with h | ⟨n,cap,cs,h1,h2,h3,h4,h5⟩
 ·exact .inl h
 ·exact .inr ⟨n,0,cap,cs,h1,h2,by unfold vR;rw[h3],af,by rw[drop_zero];exact h5⟩
theorem sY.cell {p:Nat->Prop} {len:Nat} {row:List XV} (h:sY M p v sz len row):cellsOf v=[v]/\ax v=true:=h.pp.cell
theorem sY.at {p:Nat->Prop} {len b:Nat} {row:List XV} (h:sY M p v sz len row) (hb:∀k,p k->k<b):bE M b v sz len row:=h.pp.at hb
theorem sY.keep {N:Hp} {p q:Nat->Prop} {len:Nat} {row:List XV} (h:sY M p v sz len row) (hk:∀k,p k->gG N k=gG M k/\q k):sY N q v sz len row:=by
 refine⟨h.1,?_⟩;rcases h.2 with h | ⟨n,cap,cs,h1,h2,h3,h4,h5⟩
 ·exact .inl h
 ·exact .inr ⟨n,cap,cs,h1,(hk n h2).2,(hk n h2).1.trans h3,h4,h5⟩
theorem dG.rwd {p:Nat->Prop} {len:Nat} {row:List XV} (h:dG M p v sz len row):sY M p v sz len row:=by
 obtain⟨h1,h2,⟨rfl,rfl⟩ | ⟨n,rfl,h4,h5⟩⟩:=h
 ·exact⟨h1,.inl ⟨rfl,rfl,length_eq_zero_iff.1 af⟩⟩
 ·exact⟨h1,.inr ⟨n,len,row,rfl,h4,h5,af,by rw[take_of_length_le af]⟩⟩
theorem f53 (ρ:aK) {l:List aF} {lo:Nat} (hv:di M lo nx v 9 aM l) (mo:lo<=nx) (few:l.length<=100000) (q:aF->Bool)
 (hq:∀e ∈ l,∀(M':Hp) (nx':Nat),oo lo M M'->nx<=nx'->ar ao ρ g (first++[.agg (aM e)]++caps) M' nx' (fe nx' M' (.bool (q e)))) :
 ar ao ρ 53 [v,.fn (.func g) first caps] M nx fun r=>sY r.2.1 (fun k=>lo<=k/\k<r.2.2) r.1 9 (l.filter fun e=>!q e).length ((l.filter fun e=>!q e).flatMap aM)/\oo lo M r.2.1/\nx<=r.2.2:=by
 refine ar.wk 42 [.tmp 4] Tryz.func53 ?_;refine bR Fa ?_;refine lG (f97 ρ (hv.at (Nat.le_refl _)) af q fun e he M' n' ha hn=>hq e he M' n' (fun k hk=>ha k af) af) fun M1 n1 g2 g3=>?_
 have Kh:=uK (q:=q) l 0;by_cases hj:eN q l 0 = -1
 ·have hf:l.filter (fun e=>!q e)=l:=by
   rw[hj]at Kh;rw[filter_eq_self];intro e he;have:=List.any_eq_false.1 Kh.symm e he;simpa using this
  refine mI Fa hj ?_;rw[hf];exact⟨(hv.up (N:=M1) (fun q _ hq=>g2 q af) (hi':=n1+5) af).rwd,fun k hk=>g2 k af,af⟩
 ·have aL:=ta q l 0
  obtain⟨j,V5⟩:∃j:Nat,eN q l 0=(j:Int):=⟨(eN q l 0).toNat,af⟩;obtain⟨_,j2,j3⟩:=ud V5;rw[Nat.sub_zero,Nat.sub_zero]at j3;rw[V5]at hj ⊢;clear aL Kh V5;obtain⟨vj,RU,⟨_,h0⟩ | ⟨K,rfl,⟨k1,k2⟩,hK⟩⟩:=hv
  ·omega
  obtain⟨nq,V7⟩:∃nq:aF->Bool,nq=fun e=>!q e:=⟨_,rfl⟩
  rw[<-V7]at j3 ⊢;have Gg:=(g2 K af).trans hK;have MJ:=eF j;refine Ao Fa hj MJ ?_;refine aC (fun m' s=>∃(i k:Nat) (l':List aF),i<=l.length/\k<i/\m'=l.length - i/\((l.take i).filter nq).length=k/\l'.length=l.length/\l'.take k=(l.take i).filter nq/\l'.drop i=l.drop i /\
   gG s.env 0=some (.sl K 9 0 l.length l.length)/\gG s.env 1=some (.fn (.func g) first caps)/\gG s.env 5=some (.int .i64 k)/\gG s.env 6=some (.int .i64 i)/\gG s.M K=some (.row (l'.flatMap aM))/\oo lo M s.M/\nx<=s.nx)
   (l.length - (j+1)) ⟨j+1,j,l,af,af,rfl,by rw[j3,length_take];omega,rfl,by rw[j3],rfl,?_⟩ ?_
  ·refine bR Fa ?_
   exact⟨Gg,fun k hk=>g2 k af,af⟩
  ·rintro m' ⟨env,M',nx'⟩ ⟨i,k,l',hi,hki,ir,hk,qz,kB,wS,e0,e1,e5,e6,z,ha,hn⟩
   simp only at e0 e1 e5 e6 z ha hn;by_cases aL:(i:Int)<l.length
   ·have aP:i<l.length:=af
    obtain⟨e,gA⟩:∃e,l[i]?=some e:=⟨l[i],by simp[aP]⟩;have Qr:l'[i]?=some e:=by
     have:(l'.drop i)[0]?=some e:=by rw[wS,getElem?_drop];exact gA
     rwa [getElem?_drop]at this
    have je:(l'.flatMap aM).length=l.length*9:=by rw[<-qz];clear kB wS Qr qz z;induction l' with | nil=>rfl | cons a l ih=>rw[flatMap_cons,length_append,ih,length_cons];simp[aM];omega
    have bV:=eF i;have F_:=eF k;have bC:∀kk,br ao 29 (.sl K 9 0 l.length l.length) (.int kk (i:Int))=some (.mp K (i*9)):=fun kk=>by
     rw[cy,Lc.2.2.2.1,ev _ _ _ _ _ af af];simp
    have iN:∀kk,br ao 29 (.sl K 9 0 l.length l.length) (.int kk (k:Int))=some (.mp K (k*9)):=fun kk=>by
     rw[cy,Lc.2.2.2.1,ev _ _ _ _ _ af af];simp
    have rC:(i+1)*9<=l.length*9:=mul_le_mul_right _ aP;have aU:b_ ao M' 35 (.mp K (i*9))=some ⟨.agg (aM e),[K],[]⟩:=by
     rw[fG (by unfold vR;rw[z]) jW.1 af,iy Qr]
    have yR:=hq e (mem_of_getElem? gA);have kS:(l.take (i+1)).filter nq=(l.take i).filter nq++(if nq e then [e] else []):=by
     rw[take_add_one,gA,toList_some,filter_append];congr 1;cases h:nq e<;>simp[h]
    have Y1:=pj (f:=aM) (sz:=9) (fun _=>rfl) l' k e af;obtain⟨p1,p2,p3,p4,p5,p6,p7,p8,p9⟩:=e;simp only[aM]at aU yR;refine iQ Fa e0 e1 e5 e6 aL bC aU ?_;generalize oM:aG (aG M' (nx'+8) _) (nx'+8) _=M3;have a3:aq nx' M' M3:=by rw[<-oM];exact O
    have z3:gG M3 (nx'+8)=some (.row [.int .i64 p1,.int .i64 p2,.int .i64 p3,.int .u64 p4,.int .u64 p5,.int .u64 p6,.int .u64 p7,.int .u64 p8,.int .i64 p9]):=by rw[<-oM];exact J
    clear oM;refine gQ (yR M3 _ (fun q hq=>(a3 q af).trans (ha q hq)) af) ?_;rintro⟨u,M4,n4⟩ ⟨g4,g5,g6⟩;simp only at g4 g5 g6;subst g4;have z4:=(g5 (nx'+8) af).trans z3;have a4:aq nx' M' M4:=a3.trans (g5.le af);have zK:=(a4 K af).trans z;clear z3 a3 g5;cases E0:q ⟨p1,p2,p3,p4,p5,p6,p7,p8,p9⟩ with
    | true =>
      have ZR:nq ⟨p1,p2,p3,p4,p5,p6,p7,p8,p9⟩=false:=by rw[V7];simp[E0]
      rw[ZR]at kS;refine gw Fa E0 bV e0 e1 e5 e6 ?_;refine⟨l.length - (i+1),af,i+1,k,l',af,af,rfl,by rw[kS];simpa using hk,qz,by rw[kS];simpa using kB,?_,rfl,rfl,zK,fun q hq=>(a4 q af).trans (ha q hq),af⟩;rw[<-drop_drop,<-drop_drop,wS]
    | false =>
      have ZR:nq ⟨p1,p2,p3,p4,p5,p6,p7,p8,p9⟩=true:=by rw[V7];simp[E0]
      rw[ZR]at kS;simp only[aM]at Y1;refine dw Fa E0 bV F_ e0 e1 e5 e6 iN z4 zK ?_;refine⟨l.length - (i+1),af,i+1,k+1,l'.set k ⟨p1,p2,p3,p4,p5,p6,p7,p8,p9⟩,af,af,rfl,by rw[kS];simp[hk],by simp[qz],?_,?_,rfl,rfl,?_,fun q hq=>?_,af⟩
      ·rw[kS,<-kB,take_add_one,List.take_set_of_le (Nat.le_refl _),getElem?_set_self af]
       simp
      ·rw[List.drop_set_of_lt af,<-drop_drop,<-drop_drop,wS]
      ·rw[<-Y1]
      ·rw[aB,if_neg af]
       exact(a4 q af).trans (ha q hq)
   ·have gB:i=l.length:=af
    have Kg:∀N,qY ao N 29 (.sl K 9 0 l.length l.length) (some (.int .i64 (k:Nat))) none none=some ⟨.sl K 9 (k*9) (l.length - k) (l.length - k),[],[]⟩:=fun N=>by
     unfold qY;have e:(Int.ofNat k)=((k:Nat):Int):=rfl;simp only[<-e,Lb,Tryz.underlying29,jW.2.1];rw[show Nat.ble k l.length=true by rw[ble_eq];omega,show Nat.ble l.length l.length=true by rw[ble_eq];omega];simp;rfl
    have QJ:∀N,qY ao N 29 (.sl K 9 0 l.length l.length) none (some (.int .i64 (k:Nat))) none=some ⟨.sl K 9 0 k l.length,[],[]⟩:=fun N=>by
     unfold qY;have e:(Int.ofNat k)=((k:Nat):Int):=rfl;simp only[<-e,Lb,Tryz.underlying29,jW.2.1];rw[show Nat.ble 0 k=true by rw[ble_eq];omega,show Nat.ble k l.length=true by rw[ble_eq];omega,show Nat.ble l.length l.length=true by rw[ble_eq];omega];simp;rfl
    have je:(l'.flatMap aM).length=l.length*9:=by rw[<-qz];clear kB wS qz z;induction l' with | nil=>rfl | cons a l ih=>rw[flatMap_cons,length_append,ih,length_cons];simp[aM];omega
    obtain⟨zs,VY⟩:∃zs,zs=lQ [.int .i64 0,.int .i64 0,.int .i64 0,.int .u64 0,.int .u64 0,.int .u64 0,.int .u64 0,.int .u64 0,.int .i64 0] (l.length - k):=⟨_,rfl⟩;have cF:rx ao M' 29 (.sl K 9 (k*9) (l.length - k) (l.length - k))=some ⟨.tup [],[K],[(K,some (.row (bp (l'.flatMap aM) (k*9) zs)))]⟩:=by
     unfold rx;simp only[Tryz.underlying29,jW.2.1,jW.2.2.1,bA,z];have hb:Nat.ble (k*9+(l.length - k)*9) (l'.flatMap aM).length=true:=by rw[ble_eq];omega
     change (match Nat.ble (k*9+(l.length - k)*9) (l'.flatMap aM).length,true with | true,true=>_ | _,_=>none)=_;rw[hb,VY]
    refine ii Fa e0 e1 e5 e6 aL @nN @Nr @Nb Kg QJ (aI @Ht cF) ?_;subst gB;rw[take_length]at hk kB;have RV:zs.length=(l.length - k)*9:=by rw[VY];exact tR _ _
    have gE:k*9+zs.length<=(l'.flatMap aM).length:=af;refine⟨⟨af,.inr ⟨K,l.length,_,by rw[hk],⟨k1,af⟩,by rw[aB,if_pos rfl],by rw[ib _ _ _ gE];omega,?_⟩⟩,fun q hq=>by rw[aB,if_neg af];exact ha q hq,af⟩;rw[hk,fa _ _ _ gE,take_append_of_le_length (by rw[length_take];omega),take_take,Nat.min_self,nW (f:=aM) (sz:=9) (fun _=>rfl),kB]
structure tw (M:Hp) (nx h:Nat) (S:HS) (L:List aR) (R:Int->List bO) (Y:List Int):Prop where
 hist:∃lo hi,bX M lo hi h S/\hi<=nx
 n:S.nrec=L.length
 recs:∀j r,L[j]?=some r->c_ M nx r ((S.crec.drop (j*11)).take 11)
 few:L.length<=100000
 fewr:∀r ∈ L,dV r.p<=100000/\r.es.length<=100000
 fewk:S.looks.length<=100000
 fewo:∀l:List Int,l.Nodup->(∀x ∈ l,(S.obj x).isSome=true)->l.length<=4000
 nums:By S
 vers:oC S
 fewm:S.mods.length<=1000
 exs:∀r ∈ L,r.kind=5->dV r.p<=1000/\gI r.p
 pos:∀x,∀i ∈ dk S S.mods x,1<=i.n
 row:∀x (l:List bO),l.Perm (dk S S.mods x)->l.Pairwise (fun a b=>a.wr<=b.wr)->l=R x
 rowl:∀x,(R x).length<=1000
 objs:∀ys,Fj S ys->ys=Y
theorem tw.agr {M':Hp} {nx':Nat} {R:Int->List bO} {Y:List Int} (H:tw M nx h S L R Y) (ha:aq nx M M') (hn:nx<=nx'):tw M' nx' h S L R Y:=by
 obtain⟨lo,hi,h1,h2⟩:=H.hist;exact { H with hist:=⟨lo,hi,h1.agr (ha.le h2),af⟩,recs:=fun j r hr=>((H.recs j r hr).agr ha).wk hn }
def Vp (nx:Nat) (M:Hp) (T:List aF) (o:ew):Prop:=∃l:List aF,l.Perm T/\l.Pairwise (fun a b=>CZ b a=false)/\Ai nx M 9 aM l o
def Vx (nx:Nat) (M:Hp) (T:List aF) (q:aF->Bool) (o:ew):Prop:=∃l:List aF,l.Perm T/\l.Pairwise (fun a b=>CZ b a=false)/\sY o.2.1 (fun k=>nx<=k/\k<o.2.2) o.1 9 (l.filter q).length ((l.filter q).flatMap aM)/\aq nx M o.2.1/\nx<=o.2.2
theorem tw.some (hS:kL) (hN:kJ) (hI:Ci) (hE:qi) (ρ:aK) (j9:ρ.det=false) {R:Int->List bO} {Y:List Int} (H:tw M nx h S L R Y)
 (ask:Int->Bool) (hq:∀j:Nat,j<L.length->∀(M':Hp) (n':Nat),aq nx M M'->nx<=n'->ar ao ρ g (first++[.int .i64 j]++caps) M' n' (fe n' M' (.bool (ask j))))
 (ay:(ex (iS S Y R) ask 0 L).length<=1000):ar ao ρ 31 [.mp h 0,.fn (.func g) first caps] M nx (Vp nx M (ex (iS S Y R) ask 0 L)):=by
 obtain⟨lo,hi,h1,h2⟩:=H.hist;exact Yu hS hN hI hE ρ j9 h1 h2 H.n H.recs H.few H.fewr H.fewk H.fewo H.nums H.vers H.fewm H.exs H.pos H.row H.rowl H.objs ask hq ay
theorem Sv (ρ:aK) (M:Hp) (nx:Nat) (j:Int):ar ao ρ 32 [.int .i64 j] M nx (fe nx M (.bool true)):=by
 refine ar.wk 3 [.tmp 2] Tryz.func32 ?_;refine bR @fe.eq_1 ?_;exact⟨aq.refl _ _,af⟩
theorem f37 (ρ:aK) {pos:Int} (h:gG M kb=some (.row [.int .i64 pos])) (j:Int):ar ao ρ 37 [.int .i64 j,.mp kb 0] M nx (fe nx M (.bool (decide (j=pos)))):=by
 refine ar.wk 7 [.tmp 3] Tryz.func37 ?_;refine Ao lK h @fe.eq_1 ?_;exact⟨aq.refl _ _,af⟩
theorem f96 (ρ:aK) {k:Int} (h:gG M kb=some (.row [.int .i64 k])) (hb:kb<nx) (e:aF):ar ao ρ 96 [.agg (aM e),.mp kb 0] M nx (fe nx M (.bool (!decide (e.k=k)))):=by
 simp only[aM];refine ar.wk 8 [.tmp 3] Tryz.func96 ?_;refine Ao gy97 h @fe.eq_1 ?_;exact⟨O,af⟩
section
variable (hS:kL) (hN:kJ) (hI:Ci) (hE:qi) (ρ:aK) (j9:ρ.det=false) {M:Hp} {nx h:Nat} {S:HS} {L:List aR} {R:Int->List bO} {Y:List Int} (H:tw M nx h S L R Y)
include hS hN hI hE j9 H
theorem jU (ay:(ex (iS S Y R) (fun _=>true) 0 L).length<=1000):ar ao ρ 10 [.mp h 0] M nx (Vp nx M (ex (iS S Y R) (fun _=>true) 0 L)):=by
 refine ar.wk 5 [.tmp 2] Tryz.func10 ?_;refine RA ?_;refine gQ (tw.some hS hN hI hE ρ j9 (H.agr (aq.refl _ _) af) (fun _=>true) (first:=[]) (caps:=[]) (fun j _ M' n' _ _=>Sv ρ M' n' j) ay) ?_;rintro⟨u,M2,n2⟩ ⟨l,g1,g2,g3,g4,g5,g6⟩;simp only at g3 g4 g5 g6;have hc:=g4.cell;refine mI hc.1 hc.2 ?_;exact⟨l,g1,g2,g3,di.wkLo g4 af (by first | omega | (simp only;omega)),g5.le af,an⟩
theorem mJ (pos:Int) (ay:(ex (iS S Y R) (fun j=>decide (j=pos)) 0 L).length<=1000):ar ao ρ 12 [.mp h 0,.int .i64 pos] M nx (Vp nx M (ex (iS S Y R) (fun j=>decide (j=pos)) 0 L)):=by
 refine ar.wk 8 [.tmp 4] Tryz.func12 ?_;refine bR lK ?_;generalize xu:aG M nx _=M1;have a1:aq nx M M1:=by rw[<-xu];exact O
 have z1:gG M1 nx=some (.row [.int .i64 pos]):=by rw[<-xu];exact J
 clear xu;refine gQ (tw.some hS hN hI hE ρ j9 (H.agr a1 af) (fun j=>decide (j=pos)) (first:=[]) (caps:=[.mp nx 0]) (fun j _ M' n' ha _=>f37 ρ ((ha nx af).trans z1) j) ay) ?_;rintro⟨u,M2,n2⟩ ⟨l,g1,g2,g3,g4,g5,g6⟩;simp only at g3 g4 g5 g6;have hc:=g4.cell;refine Ao lK hc.1 hc.2 ?_;exact⟨l,g1,g2,g3,di.wkLo g4 af (by first | omega | (simp only;omega)),a1.trans (g5.le af),an⟩
theorem Wn (k:Int) (ay:(ex (iS S Y R) (fun _=>true) 0 L).length<=1000):ar ao ρ 52 [.mp h 0,.int .i64 k] M nx (Vx nx M (ex (iS S Y R) (fun _=>true) 0 L) fun e=>decide (e.k=k)):=by
 refine ar.wk 9 [.tmp 4] Tryz.func52 ?_;refine bR lK ?_;generalize xu:aG M nx _=M1;have a1:aq nx M M1:=by rw[<-xu];exact O
 have z1:gG M1 nx=some (.row [.int .i64 k]):=by rw[<-xu];exact J
 clear xu;refine gQ (jU hS hN hI hE ρ j9 (H.agr a1 af) ay) ?_;rintro⟨u,M2,n2⟩ ⟨l,g1,g2,g3,g4,g5,g6⟩;simp only at g3 g4 g5 g6;have hc:=g4.cell;have z2:=(g5 nx af).trans z1;have VF:l.length<=100000:=by rw[g1.length_eq];omega
 refine Ao lK hc.1 hc.2 ?_;refine gQ (f53 ρ (M:=M2) (g4.up (hi':=_) (fun _ _ _=>rfl) ?_) ?_ VF (first:=[]) (caps:=[.mp nx 0]) (fun e=>!decide (e.k=k)) fun e _ M' n' ha hn=>f96 ρ ((ha nx af).trans z2) af e) ?_
 ·omega
 ·omega
 rintro⟨u3,M3,n3⟩ ⟨g7,g8,g9⟩;simp only at g7 g8 g9;have hc:=g7.cell;refine Ao lK hc.1 hc.2 ?_;refine⟨l,g1,g2,?_,fun q hq=>(g8 q af).trans ((g5 q af).trans (a1 q hq)),an⟩;simp only[Bool.not_not]at g7;exact g7.keep fun q hq=>⟨rfl,an⟩
theorem DN (ay:(ex (iS S Y R) (fun _=>true) 0 L).length<=1000):ar ao ρ 20 [.mp h 0] M nx (Vx nx M (ex (iS S Y R) (fun _=>true) 0 L) fun e=>decide (e.k=4)):=by
 refine ar.wk 5 [.tmp 2] Tryz.func20 ?_;refine RA ?_;refine gQ (Wn hS hN hI hE ρ j9 (H.agr (aq.refl _ _) af) 4 ay) ?_;rintro⟨u,M2,n2⟩ ⟨l,g1,g2,g3,g5,g6⟩;simp only at g3 g5 g6;have hc:=g3.cell;refine mI hc.1 hc.2 ?_;exact⟨l,g1,g2,g3.keep fun q hq=>⟨rfl,an⟩,g5.le af,an⟩
theorem KB (ay:(ex (iS S Y R) (fun _=>true) 0 L).length<=1000):ar ao ρ 21 [.mp h 0] M nx (Vx nx M (ex (iS S Y R) (fun _=>true) 0 L) fun e=>decide (e.k=5)):=by
 refine ar.wk 5 [.tmp 2] Tryz.func21 ?_;refine RA ?_;refine gQ (Wn hS hN hI hE ρ j9 (H.agr (aq.refl _ _) af) 5 ay) ?_;rintro⟨u,M2,n2⟩ ⟨l,g1,g2,g3,g5,g6⟩;simp only at g3 g5 g6;have hc:=g3.cell;refine mI hc.1 hc.2 ?_;exact⟨l,g1,g2,g3.keep fun q hq=>⟨rfl,an⟩,g5.le af,an⟩
end
end
end Go.Xs
namespace Go.Xs
open List Nat Option
variable{M:Hp}{b hi i lo m nx:Nat}{cs:List XV}{l:List aR}{ps:List (Int×Int)}{r:aR}{tag:Nat->Tg}
open Go.Proofs
theorem f260 (ρ:aK) {k:Nat} {v0 v1 c2 c3 c4:XV} (mo:lo<=m) (hmh:m<hi) (ht:tag m = .mach) (hM:gG M m=some (.row [v0,v1,c2,c3,c4])) (h0:ly M lo hi tag v0 ps) (h1:bS M lo hi tag .names v1 2 ps.length (ps.flatMap fj)) (hh:hi<=nx)
 (few:ps.length<=1000) (a c:Int) (hk:gG M k=some (.row [.int .u64 a,.int .u64 c])) (QP:k<nx) (V6:hi<=k) :
 ar ao ρ 260 [.mp m 0,.sl k 2 0 1 1] M nx (kh M nx lo m tag ps (a,c) c2 c3 c4):=by
 refine ar.wk 12 [.tmp 4] Tryz.func260 ?_;refine dt Pt ?_;refine gQ (XF ρ (nx:=nx+7) mo hmh ht hM h0 h1 af few a c hk af V6) ?_;rintro⟨u,M2,n2⟩ ⟨i,tag',RX,RY,g1,g2,g3,g4,g5,g6,g7,g8,g9,RG⟩;simp only at g1 g2 g3 g4 g5 g6 g7 g8 g9 RG;subst g1;refine dt Pt ?_;exact⟨i,tag',RX,RY,rfl,g2,g3,g4,g5.agr (aq.refl _ _) an,g6.agr (aq.refl _ _) an,fun k hk=>g7 k af,fun k hk=>g8 k af,g9,an⟩
theorem Rm (ρ:aK) {vnum vnames vrows vend:XV} {rs:List XV} {le:List (Nat×Int×Bool)} (h:kI M lo hi m l.length l tag ps vnum vnames vrows vend rs le) (hh:hi<=nx) (few:l.length<=1000) (hr:gn r=true) :
 ar ao ρ 176 [.mp m 0,.int .u64 r.t,.int .u64 r.x,.agg (et (nv r))] M nx fun o=>o.1 = .tup []/\(∃tag' ps' vnum' vnames' vrows' rs',kI o.2.1 lo o.2.2 m l.length (l++[r]) tag' ps' vnum' vnames' vrows' vend rs' le)/\aq lo M o.2.1/\nx<=o.2.2:=by
 have vY:=h.m_hi;replace h:=h.norm;obtain⟨JM,Sc⟩:∃f,f=fun k=>if k<hi then tag k else Tg.none:=⟨_,rfl⟩
 rw[<-Sc]at h;have htn:∀k,hi<=k->JM k = .none:=fun k hk=>by rw[Sc];exact if_neg af
 clear Sc;simp only[et];refine ar.wk 49 [] Tryz.func176 ?_;refine dt gP ?_;generalize xu:aG (aG M _ _) _ _=M1;have a1:aq nx M M1:=by rw[<-xu];exact O
 have m1:gG M1 nx=some (.row [.int .u64 (nv r).v,.bool (nv r).dead]):=by rw[<-xu];exact J
 have m2:gG M1 (nx+7)=some (.row [.int .u64 r.t,.int .u64 r.x]):=by rw[<-xu];exact J
 clear xu;have aW:=(a1 m af).trans h.row;refine gQ (f260 ρ h.lo_m h.m_hi h.tg aW (h.num.agr (a1.le hh) (Nat.le_refl _)) (h.names.agr (a1.le hh) (Nat.le_refl _)) af (by have:=h.few;omega) r.t r.x m2 af af) ?_;rintro⟨u,M2,n2⟩ ⟨i,tag',RX,RY,g1,g2,g3,g4,g5,g6,g7,g8,g9,RG⟩;simp only at g1 g2 g3 g4 g5 g6 g7 g8 g9 RG;subst g1;have k2:∀k,k<nx+8->k≠m->JM k ≠ .num->JM k ≠ .names->gG M2 k=gG M1 k:=g8;have t2:∀k,k<nx->tag' k=JM k:=fun k hk=>g7 k af
 have y0:gG M2 nx=some (.row [.int .u64 (nv r).v,.bool (nv r).dead]):=(g8 nx af af (by rw[htn nx hh];simp) (by rw[htn nx hh];simp)).trans m1;obtain⟨hz,je,Od⟩:=h.rows;rcases Classical.em ((r.t,r.x) ∈ ps) with pB | pB
 ·have hA:fH ps (r.t,r.x)=ps:=if_pos pB
  rw[hA]at g2 g3 g5 g6;have uT:i<ps.length:=(List.getElem?_eq_some_iff.1 g2).1;rcases Od with ⟨_,e0⟩ | ⟨hl,rk,rfl,r1,r2,r3,r4⟩
  ·omega
  obtain⟨cf,v,hv,wz,wl,⟨_,e0⟩ | ⟨Gn,sk,rfl,s1,s2,s3,s4⟩⟩:=h.all i r.t r.x g2
  ·exact(cf (length_eq_zero_iff.1 e0)).elim
  have n1:=aZ h.tg r3 aj;have V2:=aZ h.tg s3 aj;have n3:=aZ r3 s3 aj;have hd:aw m rk=False/\aw rk m=False/\aw m sk=False/\aw sk m=False/\aw rk sk=False/\aw sk rk=False:=by simp only[aw,eq_iff_iff,iff_false];exact⟨n1,n1.symm,V2,V2.symm,n3,n3.symm⟩
  have yr:gG M2 rk=some (.row rs):=((g8 rk af n1.symm (by rw[r3];simp) (by rw[r3];simp)).trans (a1 rk af)).trans r4;have ys:gG M2 sk=some (.row ((bd l r.t r.x).flatMap et)):=((g8 sk af V2.symm (by rw[s3];simp) (by rw[s3];simp)).trans (a1 sk af)).trans s4;have Jw:List.drop i rs = .sl sk 2 0 (bd l r.t r.x).length (bd l r.t r.x).length::List.drop (i+1) rs:=by
   obtain⟨q1,q2⟩:=List.getElem?_eq_some_iff.1 hv;rw[<-q2];exact drop_eq_getElem_cons q1
  have c1:¬ (i:Int)=ps.length:=af;have ip:(bd l r.t r.x).length<=1000:=by
   unfold bd;rw[length_map];exact Nat.le_trans (length_filter_le _ _) few
  refine zQ gP g4 yr ys y0 c1 Jw je wl hd @Int.toNat_natCast ?_;refine⟨?_,⟨fun k=>if k=n2+22 then .row i else tag' k,ps,RX,RY,.sl rk 1 0 ps.length ps.length,rs.set i (.sl (n2+22) 2 0 ((bd l r.t r.x).length+1) ((bd l r.t r.x).length+1)),?_⟩,?_,af⟩
  ·(repeat' apply ap)<;>exact yj
  ·rw[X_ rs i af]
   generalize oM:aG (aG (vO _ _) _ _) _ _=M3;have x1:∀k,k<n2->k≠rk->k≠sk->gG M3 k=gG M2 k:=fun k h1 h2 h3=>by rw[<-oM];exact J
   have x2:gG M3 rk=some (.row (rs.set i (.sl (n2+22) 2 0 ((bd l r.t r.x).length+1) ((bd l r.t r.x).length+1)))):=by rw[<-oM];exact J
   have x3:gG M3 (n2+22)=some (.row ((bd l r.t r.x++[nv r]).flatMap et)):=by
    rw[flatMap_append,<-oM];have:List.take ((bd l r.t r.x).length*2) ((bd l r.t r.x).flatMap et)=(bd l r.t r.x).flatMap et:=by rw[<-wl,take_length]
    rw[this];exact J
   clear oM;have kk:∀(k:Nat) (tg:Tg),k<hi->JM k=tg->tg ≠ .rows->tg ≠ .row i->tg ≠ .mach->tg ≠ .num->tg ≠ .names->gG M3 k=gG M k:=fun k tg h1 h2 h3 h4 h5 h6 h7=>by
    rw[x1 k af (fun e=>h3 (by rw[<-h2,e];exact r3)) (fun e=>h4 (by rw[<-h2,e];exact s3)),g8 k af (fun e=>h5 (by rw[<-h2,e];exact h.tg)) (by rw[h2];exact h6) (by rw[h2];exact h7)];exact a1 k af
   have tt:∀(k:Nat) (tg:Tg),k<n2->tag' k=tg->tg ≠ .rows->tg ≠ .row i->gG M3 k=gG M2 k/\(if k=n2+22 then Tg.row i else tag' k)=tg:=fun k tg h1 h2 h3 h4=>by
    refine⟨x1 k h1 (fun e=>h3 (by rw[<-h2,e,t2 rk af];exact r3)) (fun e=>h4 (by rw[<-h2,e,t2 sk af];exact s3)),?_⟩;rw[if_neg af];exact h2
   have:=h.put (M3:=M3) (n3:=n2+25) (i:=i) (tag3:=fun k=>if k=n2+22 then Tg.row i else tag' k) (v0:=RX) (v1:=RY) (vrows':=.sl rk 1 0 ps.length ps.length) (rs':=rs.set i (.sl (n2+22) 2 0 ((bd l r.t r.x).length+1) ((bd l r.t r.x).length+1))) hr
    (fun k hk=>by rw[if_neg af];exact t2 k af) (by rw[x1 m af n1 V2];exact g4)
    (by rw[hA];exact g5.keep (fun k h1 h2=>tt k _ h1 h2 aj aj) af) (by rw[hA];exact g6.keep (fun k h1 h2=>tt k _ h1 h2 aj aj) af)
    (by rw[hA];exact⟨hz,by rw[length_set];exact je,.inr ⟨hl,rk,rfl,r1,af,by simp only;rw[if_neg af,t2 rk af];exact r3,x2⟩⟩) (by rw[hA];exact g2)
    ⟨.sl (n2+22) 2 0 ((bd l r.t r.x).length+1) ((bd l r.t r.x).length+1),by rw[getElem?_set_self af],am,by rw[flatMap_append,length_append,wl];simp[et];omega,.inr ⟨aj,n2+22,aj,by have:=h.lo_m;omega,af,aj,x3⟩⟩
    (fun j hj kX=>by rw[getElem?_set_ne (fun e=>kX e.symm)]) (fun k j hk hg kX=>kk k _ hk hg aj (by simp;exact kX) aj aj aj) (fun k hk hg=>kk k _ hk hg aj aj aj aj aj) af
   rw[hA]at this;exact this
  ·intro k hk
   have q1:=h.lo_m;have e0:gG M2 k=gG M k:=(g9 k hk).trans (a1 k af);exact J
 ·have hA:fH ps (r.t,r.x)=ps++[(r.t,r.x)]:=if_neg pB
  rw[hA]at g2 g3 g5 g6;have bA:bd l r.t r.x=[]:=Classical.byContradiction fun cf=>pB (h.whole _ _ cf)
  have AW:i=ps.length:=by
   rw[qZ,qN.2 pB]at g3;simp only[if_true,Option.some.injEq]at g3;omega
  subst AW;have ip:ps.length<=1000:=by have:=h.few;omega
  have MF:rs.length=ps.length:=by rw[je,Nat.mul_one]
  have fin:∀(M3:Hp) (R S n3:Nat),n2<=R->R<n3->n2<=S->S<n3->R≠S->gG M3 m=some (.row [RX,RY,.sl R 1 0 (ps.length+1) (ps.length+1),.int .i64 l.length,vend])->gG M3 R=some (.row (rs++[.sl S 2 0 1 1])) ->
   gG M3 S=some (.row [.int .u64 (nv r).v,.bool (nv r).dead])->(∀k,k<n2->k≠m->tag' k ≠ .rows->gG M3 k=gG M2 k) ->
   ∃tag' ps' vnum' vnames' vrows' rs',kI M3 lo n3 m l.length (l++[r]) tag' ps' vnum' vnames' vrows' vend rs' le:=by
   intro M3 R S n3 hR1 Gj hS1 hS2 hRS x0 x2 x3 x1;have kk:∀(k:Nat) (tg:Tg),k<hi->JM k=tg->tg ≠ .rows->tg ≠ .mach->tg ≠ .num->tg ≠ .names->gG M3 k=gG M k:=fun k tg h1 h2 h3 h5 h6 h7=>by
    rw[x1 k af (fun e=>h5 (by rw[<-h2,e];exact h.tg)) (by rw[t2 k af,h2];exact h3),g8 k af (fun e=>h5 (by rw[<-h2,e];exact h.tg)) (by rw[h2];exact h6) (by rw[h2];exact h7)];exact a1 k af
   have tt:∀(k:Nat) (tg:Tg),k<n2->tag' k=tg->tg ≠ .rows->tg ≠ .mach->gG M3 k=gG M2 k/\(if k=S then Tg.row ps.length else if k=R then .rows else tag' k)=tg:=fun k tg h1 h2 h3 h4=>by
    refine⟨x1 k h1 (fun e=>h4 (by rw[<-h2,e,t2 m af];exact h.tg)) (by rw[h2];exact h3),?_⟩;rw[if_neg af,if_neg af];exact h2
   have q1:=h.lo_m;refine⟨fun k=>if k=S then .row ps.length else if k=R then .rows else tag' k,fH ps (r.t,r.x),RX,RY,.sl R 1 0 (ps.length+1) (ps.length+1),rs++[.sl S 2 0 1 1],?_⟩;exact h.put (M3:=M3) (n3:=n3) (i:=ps.length) (tag3:=fun k=>if k=S then .row ps.length else if k=R then .rows else tag' k) hr
    (fun k hk=>by rw[if_neg af,if_neg af];exact t2 k af) x0
    (by rw[hA];exact g5.keep (fun k h1 h2=>tt k _ h1 h2 aj aj) af) (by rw[hA];exact g6.keep (fun k h1 h2=>tt k _ h1 h2 aj aj) af)
    (by rw[hA];exact⟨am,by simp[MF],.inr ⟨aj,R,aj,af,af,by simp[hRS],x2⟩⟩) (by rw[hA];exact g2)
    ⟨.sl S 2 0 1 1,by rw[<-MF,getElem?_concat_length],by rw[bA];simp,by rw[bA];simp[et],.inr ⟨by rw[bA];simp,S,by rw[bA];rfl,af,af,aj,by rw[bA];exact x3⟩⟩
    (fun j hj kX=>by rw[getElem?_append_left af]) (fun k j hk hg kX=>kk k _ hk hg aj aj aj aj) (fun k hk hg=>kk k _ hk hg aj aj aj aj) af
  have Vl:∀k,k<lo->gG M2 k=gG M k:=fun k hk=>(g9 k hk).trans (a1 k (by have:=h.lo_m;omega))
  have q1:=h.lo_m;rcases Od with ⟨rfl,e0⟩ | ⟨hl,rk,rfl,r1,r2,r3,r4⟩
  ·rw[e0]at je
   have jd:ps=[]:=length_eq_zero_iff.1 e0;have hrs:rs=[]:=length_eq_zero_iff.1 af;refine lO gP g4 y0 e0 @Int.toNat_natCast ?_;refine⟨?_,fin _ (n2+14) (n2+32) _ af af af af af ?_ ?_ ?_ ?_,?_,af⟩
   ·(repeat' apply ap)<;>exact yj
   ·rw[e0];exact J
   ·rw[hrs];exact J
   ·exact J
   ·intro k h1 h2 h3;exact J
   ·intro k hk
    have:=Vl k hk;exact J
  ·have n1:=aZ h.tg r3 aj
   have hd:aw m rk=False/\aw rk m=False:=by simp only[aw,eq_iff_iff,iff_false];exact⟨n1,n1.symm⟩
   have yr:gG M2 rk=some (.row rs):=((g8 rk af n1.symm (by rw[r3];simp) (by rw[r3];simp)).trans (a1 rk af)).trans r4;have kB:List.take ps.length rs=rs:=take_of_length_le af;have Jw:List.drop ps.length (rs++[XV.nils])=[XV.nils]:=by rw[drop_append_of_le_length af,drop_eq_nil_of_le af];rfl
   refine wT gP g4 yr y0 MF hd kB Jw @Int.toNat_natCast ?_;have gE:=fun v=>uJ (a:=.nils) (v:=v) rs
   rw[MF]at gE;rw[gE];refine⟨?_,fin _ (n2+14) (n2+32) _ af af af af af ?_ ?_ ?_ ?_,?_,af⟩
   ·(repeat' apply ap)<;>exact yj
   ·exact J
   ·exact J
   ·exact J
   ·intro k h1 h2 h3
    have e1:k≠rk:=fun e=>h3 (by rw[e,t2 rk af];exact r3)
    exact J
   ·intro k hk
    have:=Vl k hk;exact J
def Pp (M:Hp) (nx lo m:Nat) (l:List aR) (o:ew):Prop:=o.1 = .tup []/\cZ o.2.1 lo o.2.2 m l/\aq lo M o.2.1/\nx<=o.2.2
theorem f114 (ρ:aK) (hr:c_ M b r cs) (h:cZ M lo hi m l) (hh:hi<=nx) (few:l.length<=1000):ar ao ρ 114 [.mp m 0,.agg cs] M nx (Pp M nx lo m (l++[r])):=by
 obtain⟨pk,pa,pb,pv,ve,rfl,⟨p1,p2⟩,⟨q1,q2⟩,_,_⟩:=hr.cells;obtain⟨tag,ps,vnum,vnames,vrows,vend,rs,le,h⟩:=h;replace h:=h.norm;obtain⟨JM,Sc⟩:∃f,f=fun k=>if k<hi then tag k else Tg.none:=⟨_,rfl⟩
 rw[<-Sc]at h;have htn:∀k,hi<=k->JM k = .none:=fun k hk=>by rw[Sc];exact if_neg af
 clear Sc;have vY:=h.m_hi;have mo:=h.lo_m;have hM:=h.row;have hw:IntKind.i64.wrap ((l.length:Int)+1)=((l.length+1:Nat):Int):=by rw[wrap_i64 af af];omega
 have ay:(l++[r]).length=l.length+1:=aj;have hU:∀(M:Hp) (n:Nat) (k:Int) (b:Bool),Nt ao M 150 n k (.bool b) (.i 31 (.bool false)) (some (.map [] 0))=some ⟨.udf,[n],[(n,some (.map (cx vB (dD [] 0 k b)) (lB [] 0 k)))]⟩:=fun M n k b=>MZ (P:=ao) (M:=M) 150 n 31 0 k b (.bool false) []
 rcases h.ends with ⟨rfl,rfl⟩ | ⟨ek,ec,rfl,e1,e2,e3,e4⟩
 ·have jc:∀t,aH ([]:List (Nat×Int×Bool)) t=bH l t:=h.ended
  have fin:∀(M':Hp) (n' c':Nat) (le':List (Nat×Int×Bool)),(nx+7)<n'->hi<=n'->gG M' m=some (.row [vnum,vnames,vrows,.int .i64 ((l.length+1:Nat):Int),.mm (nx+7)])->gG M' (nx+7)=some (.map (cx vB le') c')->(∀k,k<hi->k≠m->k≠(nx+7)->gG M' k=gG M k)->gn r=false->(∀t,aH le' t=bH (l++[r]) t)->cZ M' lo n' m (l++[r]):=fun M' n' c' le' g1 g2 g3 g4 g5 g6 g7=>by
   obtain⟨tag',vd⟩:=h.doEnd (l':=l++[r]) (mn':=l.length+1) (.inr af) g1 g3 g4 g5 g2 (fun t x=>ss g6) g7 aj;rw[<-ay]at vd;exact⟨tag',ps,vnum,vnames,vrows,_,rs,le',vd⟩
  by_cases k1:r.kind=1
  ·refine ar.wk 63 [] Tryz.func114 ?_
   refine wT aS p1 p2 q1 q2 hM k1 hw hU ?_;refine⟨rfl,fin _ _ (lB [] 0 r.t) (dD [] 0 r.t false) an an J J (fun k h1 h2 h3=>J) (rL af af) fun t=>?_,fun k hk=>J,an⟩;rw[cQ,rU k1,jc]
  by_cases k3:r.kind=3
  ·have JF:nv r=⟨r.v,false⟩:=if_pos k3
   have vZ:gn r=true:=by simp[gn,k3]
   refine ar.wk 63 [] Tryz.func114 ?_;refine rf aS p1 p2 q1 q2 hM k1 k3 hw hU ?_;generalize xu:aG (aG (aG M _ _) _ _) _ _=M1;have x0:gG M1 m=some (.row [vnum,vnames,vrows,.int .i64 l.length,.mm (nx+7)]):=by rw[<-xu];exact J
   have x1:gG M1 (nx+7)=some (.map (cx vB []) 0):=by rw[<-xu];exact J
   have x2:∀k,k<hi->k≠m->k≠(nx+7)->gG M1 k=gG M k:=fun k h1 h2 h3=>by rw[<-xu];exact J
   have x3:aq lo M M1:=fun k hk=>by rw[<-xu];exact J
   clear xu;obtain⟨MV,oO⟩:=h.doEnd (n':=nx+8) (l':=l) (mn':=l.length) (.inr af) af x0 x1 x2 af (fun _ _=>rfl) jc (Nat.le_refl _);have kT:=fun nx' (hn:nx+8<=nx')=>Rm ρ (nx:=nx') oO hn few vZ
   rw[JF]at kT;simp only[et]at kT;refine lL (kT _ af) ak ?_ ?_
   ·refine dt aS ?_;try exact⟨⟩
   ·rintro⟨u,M2,n2⟩ ⟨g1,⟨CS,Re,w0,w1,w2,Rg,h2⟩,g3,g4⟩
    simp only at g1 g3 g4;subst g1;have aW:=h2.row;have JE:=h2.m_hi;simp only at aW JE;refine gk aS aW hw ?_;refine⟨rfl,⟨CS,Re,w0,w1,w2,.mm (nx+7),Rg,[],?_⟩,(x3.trans g3).set af _,an⟩;rw[ay];exact h2.many J (fun k h1 h2=>J) an
  by_cases k4:r.kind=4
  ·have JF:nv r=⟨0,true⟩:=if_neg k3
   have vZ:gn r=true:=by simp[gn,k4]
   refine ar.wk 63 [] Tryz.func114 ?_;refine zQ aS p1 p2 q1 q2 hM k1 k3 k4 hw hU ?_;generalize xu:aG (aG (aG M _ _) _ _) _ _=M1;have x0:gG M1 m=some (.row [vnum,vnames,vrows,.int .i64 l.length,.mm (nx+7)]):=by rw[<-xu];exact J
   have x1:gG M1 (nx+7)=some (.map (cx vB []) 0):=by rw[<-xu];exact J
   have x2:∀k,k<hi->k≠m->k≠(nx+7)->gG M1 k=gG M k:=fun k h1 h2 h3=>by rw[<-xu];exact J
   have x3:aq lo M M1:=fun k hk=>by rw[<-xu];exact J
   clear xu;obtain⟨MV,oO⟩:=h.doEnd (n':=nx+8) (l':=l) (mn':=l.length) (.inr af) af x0 x1 x2 af (fun _ _=>rfl) jc (Nat.le_refl _);have kT:=fun nx' (hn:nx+8<=nx')=>Rm ρ (nx:=nx') oO hn few vZ
   rw[JF]at kT;simp only[et]at kT;refine lL (kT _ af) ak ?_ ?_
   ·refine dt aS ?_;try exact⟨⟩
   ·rintro⟨u,M2,n2⟩ ⟨g1,⟨CS,Re,w0,w1,w2,Rg,h2⟩,g3,g4⟩
    simp only at g1 g3 g4;subst g1;have aW:=h2.row;have JE:=h2.m_hi;simp only at aW JE;refine gk aS aW hw ?_;refine⟨rfl,⟨CS,Re,w0,w1,w2,.mm (nx+7),Rg,[],?_⟩,(x3.trans g3).set af _,an⟩;rw[ay];exact h2.many J (fun k h1 h2=>J) an
  by_cases k6:r.kind=6
  ·refine ar.wk 63 [] Tryz.func114 ?_
   refine yq aS p1 p2 q1 q2 hM k1 k3 k4 k6 hw hU ?_;refine⟨rfl,fin _ _ (lB [] 0 r.t) (dD [] 0 r.t true) an an J J (fun k h1 h2 h3=>J) (rL af af) fun t=>?_,fun k hk=>J,an⟩;rw[cQ,n_ (.inl k6),jc]
  by_cases k7:r.kind=7
  ·refine ar.wk 63 [] Tryz.func114 ?_
   refine yq aS p1 p2 q1 q2 hM k1 k3 k4 k6 k7 (aI hw hU) ?_;refine⟨rfl,fin _ _ (lB [] 0 r.t) (dD [] 0 r.t true) an an J J (fun k h1 h2 h3=>J) (rL af af) fun t=>?_,fun k hk=>J,an⟩;rw[cQ,n_ (.inr k7),jc]
  ·refine ar.wk 63 [] Tryz.func114 ?_
   refine yq aS p1 p2 q1 q2 hM k1 k3 k4 k6 k7 (aI hw hU) ?_;refine⟨rfl,fin _ _ 0 [] an an J J (fun k h1 h2 h3=>J) (rL af af) fun t=>?_,fun k hk=>J,an⟩;rw[tI k1 k6 k7,jc]
 ·have n1:=aZ h.tg e3 aj
  have hd:aw m ek=False/\aw ek m=False:=by simp only[aw,eq_iff_iff,iff_false];exact⟨n1,n1.symm⟩
  have jc:∀t,aH (le:List (Nat×Int×Bool)) t=bH l t:=h.ended;have fin:∀(M':Hp) (n' c':Nat) (le':List (Nat×Int×Bool)),ek<n'->hi<=n'->gG M' m=some (.row [vnum,vnames,vrows,.int .i64 ((l.length+1:Nat):Int),.mm ek])->gG M' ek=some (.map (cx vB le') c')->(∀k,k<hi->k≠m->k≠ek->gG M' k=gG M k)->gn r=false->(∀t,aH le' t=bH (l++[r]) t)->cZ M' lo n' m (l++[r]):=fun M' n' c' le' g1 g2 g3 g4 g5 g6 g7=>by
   obtain⟨tag',vd⟩:=h.doEnd (l':=l++[r]) (mn':=l.length+1) (.inl ⟨e1,e2,e3⟩) g1 g3 g4 g5 g2 (fun t x=>ss g6) g7 aj;rw[<-ay]at vd;exact⟨tag',ps,vnum,vnames,vrows,_,rs,le',vd⟩
  by_cases k1:r.kind=1
  ·refine ar.wk 63 [] Tryz.func114 ?_
   refine rf aS p1 p2 q1 q2 hM k1 hw hd e4 ?_;refine⟨rfl,fin _ _ (lB le ec r.t) (dD le ec r.t false) an an J J (fun k h1 h2 h3=>J) (rL af af) fun t=>?_,fun k hk=>J,an⟩;rw[cQ,rU k1,jc]
  by_cases k3:r.kind=3
  ·have JF:nv r=⟨r.v,false⟩:=if_pos k3
   have vZ:gn r=true:=by simp[gn,k3]
   refine ar.wk 63 [] Tryz.func114 ?_;refine zQ aS p1 p2 q1 q2 hM k1 k3 hw hd e4 ?_;generalize xu:aG M _ _=M1;have x0:gG M1 m=some (.row [vnum,vnames,vrows,.int .i64 l.length,.mm ek]):=by rw[<-xu];exact J
   have x1:gG M1 ek=some (.map (cx vB le) ec):=by rw[<-xu];exact J
   have x2:∀k,k<hi->k≠m->k≠ek->gG M1 k=gG M k:=fun k h1 h2 h3=>by rw[<-xu];exact J
   have x3:aq lo M M1:=fun k hk=>by rw[<-xu];exact J
   clear xu;obtain⟨MV,oO⟩:=h.doEnd (n':=nx+8) (l':=l) (mn':=l.length) (.inl ⟨e1,e2,e3⟩) af x0 x1 x2 af (fun _ _=>rfl) jc (Nat.le_refl _);have kT:=fun nx' (hn:nx+8<=nx')=>Rm ρ (nx:=nx') oO hn few vZ
   rw[JF]at kT;simp only[et]at kT;refine lL (kT _ af) ak ?_ ?_
   ·refine dt aS ?_;try exact⟨⟩
   ·rintro⟨u,M2,n2⟩ ⟨g1,⟨CS,Re,w0,w1,w2,Rg,h2⟩,g3,g4⟩
    simp only at g1 g3 g4;subst g1;have aW:=h2.row;have JE:=h2.m_hi;simp only at aW JE;refine gk aS aW hw ?_;refine⟨rfl,⟨CS,Re,w0,w1,w2,.mm ek,Rg,le,?_⟩,(x3.trans g3).set af _,an⟩;rw[ay];exact h2.many J (fun k h1 h2=>J) an
  by_cases k4:r.kind=4
  ·have JF:nv r=⟨0,true⟩:=if_neg k3
   have vZ:gn r=true:=by simp[gn,k4]
   refine ar.wk 63 [] Tryz.func114 ?_;refine yq aS p1 p2 q1 q2 hM k1 k3 k4 hw hd e4 ?_;generalize xu:aG M _ _=M1;have x0:gG M1 m=some (.row [vnum,vnames,vrows,.int .i64 l.length,.mm ek]):=by rw[<-xu];exact J
   have x1:gG M1 ek=some (.map (cx vB le) ec):=by rw[<-xu];exact J
   have x2:∀k,k<hi->k≠m->k≠ek->gG M1 k=gG M k:=fun k h1 h2 h3=>by rw[<-xu];exact J
   have x3:aq lo M M1:=fun k hk=>by rw[<-xu];exact J
   clear xu;obtain⟨MV,oO⟩:=h.doEnd (n':=nx+8) (l':=l) (mn':=l.length) (.inl ⟨e1,e2,e3⟩) af x0 x1 x2 af (fun _ _=>rfl) jc (Nat.le_refl _);have kT:=fun nx' (hn:nx+8<=nx')=>Rm ρ (nx:=nx') oO hn few vZ
   rw[JF]at kT;simp only[et]at kT;refine lL (kT _ af) ak ?_ ?_
   ·refine dt aS ?_;try exact⟨⟩
   ·rintro⟨u,M2,n2⟩ ⟨g1,⟨CS,Re,w0,w1,w2,Rg,h2⟩,g3,g4⟩
    simp only at g1 g3 g4;subst g1;have aW:=h2.row;have JE:=h2.m_hi;simp only at aW JE;refine gk aS aW hw ?_;refine⟨rfl,⟨CS,Re,w0,w1,w2,.mm ek,Rg,le,?_⟩,(x3.trans g3).set af _,an⟩;rw[ay];exact h2.many J (fun k h1 h2=>J) an
  by_cases k6:r.kind=6
  ·refine ar.wk 63 [] Tryz.func114 ?_
   refine yq aS p1 p2 q1 q2 hM k1 k3 k4 k6 hw (aI hd e4) ?_;refine⟨rfl,fin _ _ (lB le ec r.t) (dD le ec r.t true) an an J J (fun k h1 h2 h3=>J) (rL af af) fun t=>?_,fun k hk=>J,an⟩;rw[cQ,n_ (.inl k6),jc]
  by_cases k7:r.kind=7
  ·refine ar.wk 63 [] Tryz.func114 ?_
   refine yq aS p1 p2 q1 q2 hM k1 k3 k4 k6 k7 (aI hw (aI hd e4)) ?_;refine⟨rfl,fin _ _ (lB le ec r.t) (dD le ec r.t true) an an J J (fun k h1 h2 h3=>J) (rL af af) fun t=>?_,fun k hk=>J,an⟩;rw[cQ,n_ (.inr k7),jc]
  ·refine ar.wk 63 [] Tryz.func114 ?_
   refine yq aS p1 p2 q1 q2 hM k1 k3 k4 k6 k7 (aI hw (aI hd e4)) ?_;refine⟨rfl,fin _ _ ec le an an J J (fun k h1 h2 h3=>J) (rL af af) fun t=>?_,fun k hk=>J,an⟩;rw[tI k1 k6 k7,jc]
def mc (i:Nat):Int:=if i=0 then 4 else if i=1 then 5 else 9+i
def kM (i:Nat) (l:List aR) (r:aR):Bool:=match i with
 | 0=>decide (1<=r.kind)&&decide (r.kind<=7)
 | 1=>fL r
 | 2=>!(decide (r.t=0))
 | 3=>!(decide (r.kind=1)) || !(bH l r.t).isSome
 | 4=>decide (r.kind=1)||(bH l r.t).isSome
 | 5=>!((bH l r.t).getD false)
 | 6=>CT l r
 | 7=>FB l r
 | 8=>tQ r.es
 | 9=>tN l r
 | 10=>ka l r
 | _=>uu l r
def oW (l:List aR) (r:aR):Nat->Nat->Int
 | 0,_=>0
 | n+1,i=>if kM i l r then oW l r n (i+1) else mc i
def eA (l:List aR) (r:aR):Int:=oW l r 12 0
def yt:List XV:=(List.range 12).flatMap fun i=>[.int .i64 (mc i),.fn (.func (164+i)) [] []]
theorem EQ:∀i,i<12->(yt.drop (i*2)).take 2=[.int .i64 (mc i),.fn (.func (164+i)) [] []]:=by
 intro i hi;have:i=0\/i=1\/i=2\/i=3\/i=4\/i=5\/i=6\/i=7\/i=8\/i=9\/i=10\/i=11:=af;rcases this with rfl | rfl | rfl | rfl | rfl | rfl | rfl | rfl | rfl | rfl | rfl | rfl<;>rfl
theorem P2 (ρ:aK) (M:Hp) (nx:Nat):ar ao ρ 113 [] M nx fun r=>∃k,r.1 = .sl k 2 0 12 12/\nx<=k/\k<r.2.2/\gG r.2.1 k=some (.row yt)/\aq nx M r.2.1/\nx<=r.2.2:=by
 refine ar.wk 14 [.tmp 0] Tryz.func113 ?_;refine dt so ?_;refine⟨nx+13,rfl,af,af,?_,O,af⟩;rw[if_pos (show aw (nx+13) (nx+13) from rfl)];rfl
theorem Xe (hS:kL) (hN:kJ) (ρ:aK) (hr:c_ M b r cs) (hb:b<=nx) (hc:dV r.p<=1000) (iu:gI r.p) (h:cZ M lo hi m l) (hh:hi<=nx) (few:l.length<=1000) (hi':i<12) :
 ar ao ρ (164+i) [.mp m 0,.agg cs] M nx (fe nx M (.bool (kM i l r))):=by
 have hE:∃le,L5 M nx m le/\∀t,aH le t=bH l t:=by
  obtain⟨tag,ps,vnum,vnames,vrows,vend,rs,le,h⟩:=h;refine⟨le,⟨Nat.lt_of_lt_of_le h.m_hi hh,_,_,_,_,_,h.row,?_⟩,h.ended⟩;rcases h.ends with q | ⟨k,c,q1,q2,q3,q4,q5⟩
  ·exact .inl q
  ·exact .inr ⟨k,c,q1,af,q5⟩
 obtain⟨le,hE,jc⟩:=hE;have:i=0\/i=1\/i=2\/i=3\/i=4\/i=5\/i=6\/i=7\/i=8\/i=9\/i=10\/i=11:=af;rcases this with rfl | rfl | rfl | rfl | rfl | rfl | rfl | rfl | rfl | rfl | rfl | rfl
 ·exact f164 ρ hr
 ·exact f165 ρ hr hb hc
 ·exact f166 ρ hr
 ·have:=f167 ρ (hr.wk hb) hE (Nat.le_refl _)
  rw[jc]at this;exact this
 ·have:=f168 ρ (hr.wk hb) hE (Nat.le_refl _)
  rw[jc]at this;exact this
 ·have:=f169 ρ (hr.wk hb) hE (Nat.le_refl _)
  rw[jc]at this;exact this
 ·exact f170 ρ hr h hh
 ·exact f171 ρ hr h hh
 ·exact Xy ρ hr hb
 ·exact f173 ρ hr hb h hh
 ·exact f174 hS hN ρ hr hb h hh few
 ·exact f175 ρ hr hb hc iu h hh
theorem Ah (hi:i<12):oW l r (12 - i) i=if kM i l r then oW l r (12 - (i+1)) (i+1) else mc i:=by
 rw[show 12 - i=(12 - (i+1))+1 by omega];rfl
theorem f64 (hS:kL) (hN:kJ) (ρ:aK) (hr:c_ M b r cs) (hb:b<=nx) (hc:dV r.p<=1000) (iu:gI r.p) (h:cZ M lo hi m l) (hh:hi<=nx) (few:l.length<=1000) :
 ar ao ρ 64 [.mp m 0,.agg cs] M nx fun o=>o.1 = .int .i64 (eA l r)/\cZ o.2.1 lo o.2.2 m (if eA l r=0 then l++[r] else l)/\aq lo M o.2.1/\nx<=o.2.2:=by
 have mo:lo<=m/\m<hi:=by obtain⟨_,_,_,_,_,_,_,_,h⟩:=h;exact⟨h.lo_m,h.m_hi⟩
 have mP:=hr;obtain⟨pk,pa,pb,pv,ve,rfl,⟨p1,p2⟩,⟨q1,q2⟩,_,_⟩:=hr.cells;refine ar.wk 27 [.tmp 4] Tryz.func64 ?_;refine lO cD p1 p2 q1 q2 ?_;refine gQ (P2 ρ _ _) ?_;rintro⟨u,M1,n1⟩ ⟨k,g1,g2,g3,g4,g5,g6⟩;simp only at g1 g2 g3 g4 g5 g6;subst g1;have Qw:aq nx M M1:=((aq.refl nx M).set (Nat.le_refl _) _).trans (g5.le af);have sQ:=g5 nx af;rw[aB,if_pos rfl]at sQ;have cw:bE M1 n1 (.sl k 2 0 12 12) 2 12 yt:=⟨af,.inr ⟨k,0,12,yt,rfl,g3,by unfold vR;rw[g4],ak,rfl⟩⟩;refine dt cD ?_;refine aC (fun m' s=>∃i:Nat,i<=12/\m'=12 - i/\oW l r (12 - i) i=eA l r/\gG s.env 0=some (.mp m 0)/\gG s.env 3=some (.mp nx 0)/\gG s.env 9=some (.sl k 2 0 12 12)/\gG s.env 10=some (.int .i64 12)/\gG s.env 11=some (.int .i64 i)/\aq n1 M1 s.M/\n1<=s.nx)
  12 ⟨0,af,af,rfl,?_⟩ ?_
 ·refine dt cD ?_
  exact⟨O,af⟩
 ·rintro m' ⟨env,M',nx'⟩ ⟨i,hi',ir,pA,e0,e3,e9,dx,kW,ha,hn⟩
  simp only at e0 e3 e9 dx kW ha hn;have NQ:=(ha nx af).trans sQ;have T8:aq nx M M':=Qw.trans (ha.le af);by_cases aL:(i:Int)<12
  ·have aP:i<12:=af
   obtain⟨n,o,jw,bC,aU⟩:=cw.elem (P:=ao) aP (t:=223) (t':=227) Oq.2.2.2.1 NC.1;have aU:=aU M' ha;rw[EQ i aP]at aU;have bV:=eF i;have bw:=Ah (l:=l) (r:=r) aP;refine rf cD e0 e3 e9 dx kW aL bC aU NQ ?_;refine lG (Xe hS hN ρ (mP.agr ((((T8.set (show nx<=nx'+3 by omega) _).set (show nx<=nx'+3 by omega) _)).le hb)) af hc iu (h.agr ((((T8.set (show nx<=nx'+3 by omega) _).set (show nx<=nx'+3 by omega) _)).le hh) (Nat.le_refl _)) af few aP) fun M2 n2 k2 k3=>?_
   have y:=k2 (nx'+3) af;rw[aB,if_pos rfl]at y;have jX:aq n1 M1 M2:=((ha.set (show n1<=nx'+3 by omega) _).set (show n1<=nx'+3 by omega) _).trans (k2.le af);cases hq:kM i l r with
   | true =>
     refine mD cD e0 e3 e9 dx kW hq bV ?_;exact⟨12 - (i+1),af,i+1,af,rfl,by rw[<-pA,bw,hq];rfl,rfl,jX,af⟩
   | false =>
     refine mD cD e0 e3 e9 dx kW hq y ?_;have hrn:eA l r=mc i:=by rw[<-pA,bw,hq];rfl
     have cf:mc i≠0:=by unfold mc;split<;>(try split)<;>omega
     have haF:aq nx M M2:=Qw.trans (jX.le af);rw[hrn,if_neg cf];exact⟨rfl,h.agr (haF.le hh) af,haF.le af,af⟩
  ·have gB:i=12:=af
   subst gB;have Z4:eA l r=0:=pA.symm;refine mD cD e0 e3 e9 dx kW aL NQ ?_;refine gQ (f114 ρ (mP.agr (T8.le hb)) (h.agr (T8.le hh) (Nat.le_refl _)) af few) ?_;rintro⟨u,M2,n2⟩ ⟨k1,k2,k3,k4⟩;simp only at k1 k2 k3 k4;subst k1;refine dt cD ?_;rw[Z4,if_pos rfl];exact⟨rfl,k2.agr (aq.refl _ _) af,(T8.le af).trans k3,af⟩
def R2 (r:aR):Prop:=dV r.p<=1000/\gI r.p
def Id (L:List aR) (n:Nat) (rl:Int):Prop :=
 (∀j r,j<n->L[j]?=some r->eA (L.take j) r=0)/\((n=L.length/\rl=0)\/∃r,L[n]?=some r/\eA (L.take n) r=rl/\rl≠0)
theorem Jd (hm:nx<=m) (hM:gG M m=some (.row [.nilm,.nils,.nils,.int .i64 0,.nilm])):cZ M nx (m+1) m [] :=
 ⟨fun _=>.mach,[],.nilm,.nils,.nils,.nilm,[],[],hm,af,rfl,hM,.inl ⟨rfl,rfl⟩,⟨aj,rfl,.inl ⟨rfl,rfl⟩⟩,⟨aj,rfl,.inl ⟨rfl,rfl⟩⟩,fun i t x h=>by simp at h,fun t x h=>(h rfl).elim,.nil,.inl ⟨rfl,rfl⟩,fun t=>rfl,Nat.le_refl _⟩
theorem SS (hS:kL) (hN:kJ) (ρ:aK) {v:XV} {L:List aR} (hL:cP M b v L) (hb:b<=nx) (few:L.length<=1000) (fit:∀r ∈ L,R2 r) :
 ar ao ρ 28 [v] M nx fun o=>(∃n rl,o.1 = .tup [.int .i64 (n:Nat),.int .i64 rl]/\Id L n rl)/\aq nx M o.2.1/\nx<=o.2.2:=by
 obtain⟨row,cw,gS⟩:=hL;have ay:=fun N=>cw.len (P:=ao) (t:=22) jp.2.2.2.2.2 N
 have Zf:=cw.cell;refine ar.wk 24 [.tmp 2,.tmp 3] Tryz.func28 ?_;refine fM az ay ?_;refine aC (fun m' s=>∃i:Nat,i<=L.length/\m'=L.length - i/\(∀j r,j<i->L[j]?=some r->eA (L.take j) r=0)/\gG s.env 0=some v/\gG s.env 4=some (.mp (nx+2) 0)/\gG s.env 8=some v/\gG s.env 9=some (.int .i64 L.length)/\gG s.env 10=some (.int .i64 i) /\
  cZ s.M nx s.nx (nx+2) (L.take i)/\aq nx M s.M/\nx+3<=s.nx)
  L.length ⟨0,af,af,?_⟩ ?_
 ·refine dt az ?_
  refine⟨fun j r hj=>af,?_,O,af⟩;exact(Jd af J).agr (aq.refl _ _) af
 ·rintro m' ⟨env,M',nx'⟩ ⟨i,hi,ir,Gs,e0,e4,e8,e9,dx,oO,ha,hn⟩
  simp only at e0 e4 e8 e9 dx oO ha hn;by_cases aL:(i:Int)<L.length
  ·have aP:i<L.length:=af
   obtain⟨r,D_⟩:∃r,L[i]?=some r:=⟨L[i],by simp[aP]⟩;obtain⟨n,o,jw,bC,aU⟩:=cw.elem (P:=ao) aP (t:=22) (t':=47) jp.2.2.2.1 il.1;have aU:=aU M' (ha.le hb);have mP:=(gS i r D_).agr (ha.le hb);obtain⟨pk,pa,pb,pv,ve,dI,⟨p1,p2⟩,⟨q1,q2⟩,_,_⟩:=mP.cells;rw[dI]at aU mP;have bV:=eF i;obtain⟨f1,f2⟩:=fit r (mem_of_getElem? D_);have kB:L.take (i+1)=L.take i++[r]:=by rw[take_add_one,D_];rfl
   refine yq az e0 e4 e8 e9 dx aL bC aU p1 p2 (aI q1 q2) ?_;generalize xu:aG (aG M' _ _) _ _=M1;have a1:aq nx' M' M1:=by rw[<-xu];exact O
   clear xu;refine gQ (f64 hS hN ρ (mP.agr (a1.le af)) af f1 f2 (oO.agr a1 (Nat.le_refl _)) af (by rw[length_take];omega)) ?_;rintro⟨u,M2,n2⟩ ⟨k1,k2,k3,k4⟩;simp only at k1 k2 k3 k4;subst k1;have jX:aq nx M M2:=(ha.trans (a1.le af)).trans k3;by_cases hq:eA (L.take i) r=0
   ·rw[if_pos hq,<-kB]at k2
    refine mD az e0 e4 e8 e9 dx hq bV ?_;refine⟨L.length - (i+1),af,i+1,af,rfl,fun j r' hj sA=>?_,rfl,k2.agr (aq.refl _ _) af,jX,af⟩;by_cases kX:j=i
    ·subst kX
     rw[D_]at sA;cases sA;exact hq
    ·exact Gs j r' af sA
   ·refine ky az e0 e4 e8 e9 dx hq ?_
    exact⟨⟨i,_,rfl,Gs,.inr ⟨r,D_,rfl,hq⟩⟩,jX,af⟩
  ·have gB:i=L.length:=af
   refine mD az e0 e4 e8 e9 dx aL ay ?_;subst gB;exact⟨⟨_,_,rfl,Gs,.inl ⟨rfl,rfl⟩⟩,ha,af⟩
end Go.Xs
namespace Go.Xs
open List Nat Option
variable{S:HS}{r:aR}
noncomputable section
open Go.Proofs
def dL (L:List aR):Nat->HS
 | 0=>vF
 | n+1=>match L[n]? with | some r=>(dL L n).take n r | none=>dL L n
theorem zt (S:HS) (n:Nat) (cr:List XV) (i:Int) (r:aR):∀k,(S.wr n cr).preds i r k=(S.preds i r k).wr n cr
 | 0=>rfl
 | k+1=>by
   unfold HS.preds;rw[zt S n cr i r k];cases r.es[k]? <;> rfl
theorem Dw (S:HS) (n:Nat) (cr:List XV) (i:Nat) (r:aR):(S.wr n cr).take i r=(S.take i r).wr n cr:=by
 unfold HS.take;by_cases h1:r.kind=1
 ·rw[if_pos h1,if_pos h1];rfl
 rw[if_neg h1,if_neg h1];by_cases h2:r.kind=2
 ·rw[if_pos h2,if_pos h2];rfl
 rw[if_neg h2,if_neg h2];by_cases h3:r.kind=3\/r.kind=4
 ·rw[if_pos h3,if_pos h3];rfl
 rw[if_neg h3,if_neg h3];by_cases h5:r.kind=5
 ·rw[if_pos h5,if_pos h5];exact zt ..
 rw[if_neg h5,if_neg h5];by_cases h6:r.kind=6
 ·rw[if_pos h6,if_pos h6]
  show (match S.txs[((S.num r.t).getD 0).toNat]? with | some a=>_ | none=>_)=_;cases S.txs[((S.num r.t).getD 0).toNat]? <;> rfl
 rw[if_neg h6,if_neg h6];show (match S.txs[((S.num r.t).getD 0).toNat]? with | some a=>_ | none=>_)=_;cases S.txs[((S.num r.t).getD 0).toNat]? <;> rfl
theorem kK.wr (h:kK S r) (n:Nat) (cr:List XV):kK (S.wr n cr) r:=⟨h.kind,h.tx,h.txs,h.mods,h.com,h.looks,h.cnt⟩
theorem kK.addr (h:kK S r) (cs:List XV):kK (S.addr cs) r:=⟨h.kind,h.tx,h.txs,h.mods,h.com,h.looks,h.cnt⟩
structure pS (S:HS):Prop where
 here:∀(k:Nat) (x j:Int),j ∈ S.places k x->0<=j/\j<S.mods.length
 few:S.txs.length<=100000/\S.mods.length<=100000/\∀k x,(S.places k x).length<=100000
def dl (S:HS) (k:Nat) (j:Nat):Prop:=∃x,(S.places k x).getLast?=some (j:Int)
def jN (L:List aR):HS:=(dL L L.length).done L.length (dL L L.length).txs.length fun j=>∃k,k<(dL L L.length).txs.length/\dl (dL L L.length) k j
def Ti (r:aR):Prop:=R2 r/\r.es.length<=1000
theorem wo {α β:Type} {f:α->β}:∀{l:List α},(l.map f).Nodup->∀{a b:α},a ∈ l->b ∈ l->f a=f b->a=b
 | [],_,a,b,ha,_,_=>by cases ha
 | c::l,hn,a,b,ha,hb,h=>by
   rw[map_cons,nodup_cons]at hn;rcases mem_cons.1 ha with e1 | Jo <;> rcases mem_cons.1 hb with e2 | rA
   ·rw[e1,e2]
   ·exact(hn.1 (by rw[<-e1,h];exact mem_map.2 ⟨b,rA,rfl⟩)).elim
   ·exact(hn.1 (by rw[<-e2,<-h];exact mem_map.2 ⟨a,Jo,rfl⟩)).elim
   ·exact wo hn.2 Jo rA h
theorem DH {α:Type} {f:α->Nat} {seen:List Nat} {b:Nat}:∀(l:List α),(l.filter fun e=>decide (f e ∉ seen++[b])).length<=(l.filter fun e=>decide (f e ∉ seen)).length
 | []=>Nat.le_refl _
 | a::l=>by
   have ih:=DH (f:=f) (seen:=seen) (b:=b) l;rw[filter_cons,filter_cons];by_cases h:f a ∈ seen
   ·have h':f a ∈ seen++[b]:=mem_append_left _ h
    simp only[h,h',not_true_eq_false,decide_false];simpa using ih
   ·by_cases h':f a ∈ seen++[b]
    ·simp only[h,h',not_true_eq_false,not_false_eq_true,decide_false,decide_true,if_true,length_cons]
     simp only[Bool.false_eq_true,if_false];omega
    ·simp only[h,h',not_false_eq_true,decide_true,if_true,length_cons]
     omega
theorem Dp {α:Type} {f:α->Nat} {seen:List Nat}:∀{l:List α} {e:α},f e ∉ seen->e ∈ l->(l.filter fun a=>decide (f a ∉ seen++[f e])).length<(l.filter fun a=>decide (f a ∉ seen)).length
 | [],e,_,he=>by cases he
 | a::l,e,y7,he=>by
   rw[filter_cons,filter_cons];rcases mem_cons.1 he with rfl | he
   ·have h':f e ∈ seen++[f e]:=aj
    have:=DH (f:=f) (seen:=seen) (b:=f e) l;simp only[y7,h',not_true_eq_false,not_false_eq_true,decide_false,decide_true,if_true,length_cons];simp only[Bool.false_eq_true,if_false];omega
   ·have ih:=Dp (f:=f) y7 he
    by_cases h:f a ∈ seen
    ·have h':f a ∈ seen++[f e]:=mem_append_left _ h
     simp only[h,h',not_true_eq_false,decide_false];simpa using ih
    ·by_cases h':f a ∈ seen++[f e]
     ·simp only[h,h',not_true_eq_false,not_false_eq_true,decide_false,decide_true,if_true,length_cons]
      simp only[Bool.false_eq_true,if_false];omega
     ·simp only[h,h',not_false_eq_true,decide_true,if_true,length_cons]
      omega
structure KM (L:List aR) (M:Hp) (nx b:Nat) (o:ew):Prop where
 post:∃n rl,Id L n rl/\nx<=o.2.2/\((rl≠0/\o.1 = .tup [.nilp,.int .i64 (n:Nat),.int .i64 rl]/\aq nx M o.2.1) \/
  (rl=0/\∃h N cr,o.1 = .tup [.mp h 0,.int .i64 (n:Nat),.int .i64 0]/\HF o.2.1 o.2.2 N nx h ((jN L).wr L.length cr)/\aq nx M o.2.1 /\
    ∀j r,L[j]?=some r->eL o.2.1 (iJ o.2.2 N) r ((cr.drop (j*11)).take 11)))
theorem f9 (hS:kL) (hN:kJ) (ρ:aK) (j9:ρ.det=false) {M:Hp} {nx b:Nat} {v:XV} {L:List aR} (hL:cP M b v L) (hb:b<=nx) (few:L.length<=1000) (fit:∀r ∈ L,Ti r)
 (hT:(∀j r,L[j]?=some r->eA (L.take j) r=0)->(∀i r,L[i]?=some r->kK (dL L i) r)/\pS (dL L L.length)) :
 ar ao ρ 9 [v] M nx (KM L M nx b):=by
 have Zf:cellsOf v=[v]/\ax v=true:=by
  obtain⟨row,cw,_⟩:=hL;exact cw.cell
 refine ar.wk 97 [.tmp 2,.tmp 3,.tmp 4] Tryz.func9 ?_;refine dt rX ?_;refine gQ (SS hS hN ρ (hL.agr (aq.refl _ _)) af few fun r hr=>(fit r hr).1) ?_;rintro⟨u,M1,n1⟩ ⟨⟨n,rl,k1,k2⟩,k3,k4⟩;simp only at k1 k3 k4;subst k1;have NK:aq nx M M1:=k3.le af;by_cases je:rl=0
 ·subst je
  have ay:∀N,kZ ao N 22 v=some ⟨.int .i64 L.length,[],[]⟩:=fun N=>by
   obtain⟨row,cw,_⟩:=hL;exact cw.len (P:=ao) (t:=22) jp.2.2.2.2.2 N
  have Gs:∀j r,L[j]?=some r->eA (L.take j) r=0:=by
   obtain⟨q1,q2 | ⟨r,_,q3,q4⟩⟩:=k2
   ·intro j r hj
    have:=(List.getElem?_eq_some_iff.1 hj).1;exact q1 j r af hj
   ·exact(q4 rfl).elim
  obtain⟨hT,Qv⟩:=hT Gs;clear Gs;refine fM rX ay ?_;generalize rz:aG (aG (aG (aG M1 (n1+7) (bx.map [] 0)) (n1+8) (bx.map [] 0)) (n1+9) (bx.map [] 0)) (n1+11) _=M0;obtain⟨N0,hF0,YN⟩:=Pj (M:=M0) (nx:=n1+12) (lo:=nx) (h:=n1+11) (a:=n1+7) (b:=n1+8) (c:=n1+9) af af af af af af af af af af af af af af (by rw[<-rz];exact J) (by rw[<-rz];exact J) (by rw[<-rz];exact J) (by rw[<-rz];exact J);have YC:aq nx M M0:=by rw[<-rz];exact(by(repeat (refine aq.set ?_ af _));exact NK)
  clear rz;refine aC (fun m' s=>∃(i:Nat) (N:Hp) (cr:List XV),i<=L.length/\m'=L.length - i/\gG s.env 0=some v/\gG s.env 5=some (.int .i64 n)/\gG s.env 7=some (.mp (n1+11) 0)/\gG s.env 28=some v/\gG s.env 29=some (.int .i64 L.length)/\gG s.env 30=some (.int .i64 i) /\
   HF s.M s.nx N nx (n1+11) ((dL L i).wr i cr)/\aq nx M s.M/\(∀j r,j<i->L[j]?=some r->eL s.M (iJ s.nx N) r ((cr.drop (j*11)).take 11))/\n1+12<=s.nx)
   L.length ⟨0,N0,[],af,af,?_⟩ ?_
  ·refine dt rX ?_
   exact⟨hF0.agr (aq.refl _ _) af,YC,fun j r hj=>af,af⟩
  ·rintro m' ⟨env,M',nx'⟩ ⟨i,N,cr,hi,ir,e0,e5,e7,NG,NH,NI,hF,Ur,RO,hn⟩
   simp only at e0 e5 e7 NG NH NI hF Ur RO hn;by_cases aL:(i:Int)<L.length
   ·have aP:i<L.length:=af
    obtain⟨r,D_⟩:∃r,L[i]?=some r:=⟨L[i],by simp[aP]⟩;obtain⟨row,cw,gS⟩:=hL.agr (Ur.le hb);obtain⟨n,o,jw,bC,aU⟩:=cw.elem (P:=ao) aP (t:=22) (t':=47) jp.2.2.2.1 il.1;have aU:=aU M' (aq.refl _ _);have mP:=gS i r D_;obtain⟨pk,pa,pb,pv,ve,dI,⟨p1,p2⟩,⟨q1,q2⟩,_,_⟩:=mP.cells;rw[dI]at aU mP;clear gS cw dI;have bV:=eF i;obtain⟨⟨f1,f2⟩,fA⟩:=fit r (mem_of_getElem? D_);have aQ:=hT i r D_;clear hT fit hL NK k3 YC ay;refine yq rX e0 e5 e7 NG NH NI aL bC aU p1 (aI p2 (aI q1 q2)) ?_;generalize aW:aG (aG M' (nx'+4) _) (nx'+4) _=M2;have a2:aq (nx'+4) M' M2:=by rw[<-aW];exact O
    have y2:gG M2 (nx'+4)=some (.row [.int .i64 r.kind,.int .u64 r.t,.int .u64 r.x,.int .u64 r.w,.int .u64 r.n,.int .u64 r.v,.int .i64 pk,.int .u64 pa,.int .u64 pb,pv,ve]):=by rw[<-aW];exact J
    clear aW;refine gQ (Tv ρ (mP.agr (a2.le af)) (show b<=nx'+8 by omega) af af) ?_;rintro⟨u,M3,n3⟩ ⟨⟨cs',g1,g2⟩,g3,g4⟩;simp only at g1 g2 g3 g4;subst g1;obtain⟨pk',pa',pb',pv',ve',yJ,⟨MR,MS⟩,⟨MT,MU⟩,_,_⟩:=(g2.lt (b:=n3) fun k hk=>hk.2).cells;have cF:cs'.length=11:=by rw[yJ];rfl
    have a3:aq (nx'+4) M' M3:=a2.trans (g3.le af);have y3:=(g3 (nx'+4) af).trans y2;have hF3:HF M3 n3 N nx (n1+11) ((dL L i).wr i cr):=hF.agr (a3.le af) af;have hNb:gG N (nx'+4)=none:=hF.out af;have Q2:∀q,PK b (nx'+8) n3 q->iJ n3 N q/\q≠nx'+4:=fun q hq=>by
     obtain⟨h1,h2⟩:(q<b\/nx'+8<=q)/\q<n3:=hq;refine⟨⟨h2,?_⟩,af⟩;cases hn:gG N q with
     | none=>rfl
     | some x =>
       have:=hF.lt q x hn;have:=hF.ge q x hn;omega
    have Vt:dL L (i+1)=(dL L i).take i r:=by
     conv=>lhs;unfold dL
     rw[D_]
    obtain⟨M4,Gi⟩:∃M4,M4=aG M3 (nx'+4) (.row cs'):=⟨_,rfl⟩;have o4:∀q,q≠nx'+4->gG M4 q=gG M3 q:=fun q hq=>by rw[Gi,aB,if_neg fun e=>hq e.symm]
    have a4:aq (nx'+4) M3 M4:=fun q hq=>o4 q af
    have y4:gG M4 (nx'+4)=some (.row cs'):=by rw[Gi,aB,if_pos rfl]
    have hF4:HF M4 n3 N nx (n1+11) ((dL L i).wr i cr):=hF3.keep (fun k x hk=>o4 k fun e=>by rw[e,hNb]at hk;cases hk) (Nat.le_refl _);have g5:eL M4 (iJ n3 N) r cs':=g2.keep fun q hq=>⟨o4 q (Q2 q hq).2,(Q2 q hq).1⟩
    have Ug:∀j r',j<i->L[j]?=some r'->eL M4 (iJ n3 N) r' ((cr.drop (j*11)).take 11):=fun j r' h1 h2=>(RO j r' h1 h2).keep fun q hq=>by
     have:=hq.1;exact⟨(o4 q af).trans (a3 q af),af,hq.2⟩
    obtain⟨vrec,c1,nk,c3,c4,vm,c6,om,old,bA,hhn,AV,HV,MH⟩:=hF4.addr cF (show i<=100000 by omega);have hd:aw (n1+11) (nx'+4)=False/\aw (nx'+4) (n1+11)=False:=by simp only[aw,eq_iff_iff,iff_false];omega
    have JI:=(o4 (n1+11) af).symm.trans bA;have yG:cr.length=i*11:=AV;clear g2 g3 y2 a2 RO hF hF3 hF4 Q2 mP;rcases HV with ⟨rfl,ZR,rfl⟩ | ⟨sk,rfl,bT,VQ,cf,aal,aaj,aai,rfl⟩
    ·rw[yJ]at Gi
     refine yq rX e0 e5 e7 NG NH NI y3 JI hd MR (aI MS (aI MT (aI MU yJ))) ?_;rw[<-Gi];refine⟨bn _ _ _ _ _ _ (fun q hq=>by simp only[mem_singleton]at hq ⊢;omega) (fun q hq=>aj) (fun q hq=>by simp at hq),?_⟩;have AW:i=0:=ZR;have Ze:cr=[]:=length_eq_zero_iff.1 af;generalize mR:aG (aG (aG M4 (n3+7) _) (n3+8) _) (n1+11) _=M5;obtain⟨N5,NM,TW⟩:=MH M5 (n3+15) (n3+8) af af (fun j h1 h2 _=>by rw[<-mR];exact J) (by rw[<-mR];subst AW;exact J) (by rw[<-mR];show _=some (bx.row (cr++cs'));rw[Ze,yJ];exact J);have YI:aq (n1+11) M4 M5:=by rw[<-mR];exact O
     clear mR Gi MH;have T4:=g5.aside TW (q:=iJ (n3+15) N5) fun q hq=>⟨by have:=hq.1;omega,hq.2⟩
     rw[<-yJ];refine gQ (Yt ρ T4 NM i ((aQ.wr i cr).addr _)) ?_;rintro⟨u,M6,n6⟩ ⟨k1,MM,N6,k3,MN,k5⟩;simp only at k1 MM k3 MN k5;subst k1;rw[show (((dL L i).wr i cr).addr cs')=(dL L i).wr (i+1) (cr++cs') from rfl,Dw,<-Vt]at k3;refine mD rX e0 e5 e7 NG NH NI bV ?_;refine⟨L.length - (i+1),af,i+1,N6,cr++cs',af,rfl,rfl,k3.agr (aq.refl _ _) af,((Ur.trans (a3.le af)).trans (a4.le af)).trans ((YI.le af).trans (k5.le af)),fun j r' hj sA=>?_,af⟩;by_cases kX:j=i
     ·subst kX
      rw[D_]at sA;cases sA;rw[drop_append_of_le_length af,drop_eq_nil_of_le af,nil_append,take_of_length_le af];exact T4.aside MN fun q hq=>⟨by have:=hq.1;omega,hq.2⟩
     ·have mS:j<i:=af
      have hjm:(j+1)*11<=i*11:=mul_le_mul_right _ mS;rw[drop_append_of_le_length af,take_append_of_le_length (by rw[length_drop];omega)];exact((Ug j r' mS sA).aside TW (q:=iJ (n3+15) N5) fun q hq=>⟨by have:=hq.1;omega,hq.2⟩).aside MN fun q hq=>⟨by have:=hq.1;omega,hq.2⟩
    ·have aak:sk≠nx'+4:=fun e=>aaj (by rw[e];exact hNb)
     have UN:gG M3 sk=some (.row cr):=(o4 sk aak).symm.trans aal;have kB:List.take (i*11) cr=cr:=take_of_length_le af;have py:aw (n1+11) (nx'+4)=False/\aw (nx'+4) (n1+11)=False/\aw (n1+11) sk=False/\aw sk (n1+11)=False/\aw (nx'+4) sk=False/\aw sk (nx'+4)=False:=by simp only[aw,eq_iff_iff,iff_false];omega
     have hn1':1<=i:=bT;have Uq:((dL L i).wr i cr).nrec=i:=rfl;rw[Uq]at JI;rw[yJ]at Gi;refine yq rX e0 e5 e7 NG NH NI y3 JI UN yG (aI kB (aI py (aI MR (aI MS (aI MT (aI MU yJ)))))) ?_;rw[<-Gi];refine⟨bn _ _ _ _ _ _ (fun q hq=>by simp only[mem_singleton]at hq ⊢;omega) (fun q hq=>aj) (fun q hq=>by simp at hq),?_⟩;generalize mR:aG (aG (vO (aG M4 (n3+7) _) sk) (n3+8) _) (n1+11) _=M5;obtain⟨N5,NM,TW⟩:=MH M5 (n3+15) (n3+8) af af (fun j h1 h2 h3=>by
      have h4:j≠sk:=by simpa using h3
      rw[<-mR];exact J) (by rw[<-mR];exact J) (by rw[<-mR];show _=some (bx.row (cr++cs'));rw[yJ];exact J)
     have hskx:nx<=sk:=aai;have YI:aq nx M4 M5:=by rw[<-mR];exact fun q hq=>J
     clear mR Gi MH;have T4:=g5.aside TW (q:=iJ (n3+15) N5) fun q hq=>⟨by have:=hq.1;omega,hq.2⟩
     rw[<-yJ];refine gQ (Yt ρ T4 NM i ((aQ.wr i cr).addr _)) ?_;rintro⟨u,M6,n6⟩ ⟨k1,MM,N6,k3,MN,k5⟩;simp only at k1 MM k3 MN k5;subst k1;rw[show (((dL L i).wr i cr).addr cs')=(dL L i).wr (i+1) (cr++cs') from rfl,Dw,<-Vt]at k3;refine mD rX e0 e5 e7 NG NH NI bV ?_;refine⟨L.length - (i+1),af,i+1,N6,cr++cs',af,rfl,rfl,k3.agr (aq.refl _ _) af,((Ur.trans (a3.le af)).trans (a4.le af)).trans (YI.trans (k5.le af)),fun j r' hj sA=>?_,af⟩;by_cases kX:j=i
     ·subst kX
      rw[D_]at sA;cases sA;rw[drop_append_of_le_length af,drop_eq_nil_of_le af,nil_append,take_of_length_le af];exact T4.aside MN fun q hq=>⟨by have:=hq.1;omega,hq.2⟩
     ·have mS:j<i:=af
      have hjm:(j+1)*11<=i*11:=mul_le_mul_right _ mS;rw[drop_append_of_le_length af,take_append_of_le_length (by rw[length_drop];omega)];exact((Ug j r' mS sA).aside TW (q:=iJ (n3+15) N5) fun q hq=>⟨by have:=hq.1;omega,hq.2⟩).aside MN fun q hq=>⟨by have:=hq.1;omega,hq.2⟩
   ·have gB:i=L.length:=af
    obtain⟨S,NO⟩:∃S,S=(dL L L.length).wr L.length cr:=⟨_,rfl⟩;rw[gB,<-NO]at hF;have Qv:pS S:=by rw[NO];exact⟨Qv.here,Qv.few⟩
    rw[gB]at RO;have Zd:∀j r,L[j]?=some r->eL M' (iJ nx' N) r ((cr.drop (j*11)).take 11):=fun j r hj=>RO j r (List.getElem?_eq_some_iff.1 hj).1 hj
    clear RO hT hF0 YN YC hL;obtain⟨mu,lt,ge,top,htop,tag,vrec,vtxs,vcom,vmods,vlook,nk,vk,ok,cn,cv,co,ptrs,lnum,lver,lobj,H⟩:=hF;have bA:gG M' (n1+11)=some (.row [vrec,vtxs,.mm nk,vcom,vmods,.mm vk,vlook,.mm ok]):=(mu _ _ H.row).1;have htl:=fun N=>(H.txs.sl).len (P:=ao) (t:=78) sr.2.2.2.2.2 N
    refine rf rX e0 e5 e7 NG NH NI aL bA htl ?_;have Vl:=e0;have e5':=e5;have e7':=e7;have hTl:=Qv.few.1;clear e0 e5 e7 NG NH NI bA htl aL;refine aC (fun m2 s=>∃(k:Nat) (N2:Hp),k<=S.txs.length/\m2=S.txs.length - k/\gG s.env 0=some v/\gG s.env 5=some (.int .i64 n)/\gG s.env 7=some (.mp (n1+11) 0)/\gG s.env 55=some vtxs/\gG s.env 56=some (.int .i64 S.txs.length)/\gG s.env 57=some (.int .i64 k) /\
     Mu N2 s.M/\(∀q x,gG N2 q=some x->q<nx'/\nx<=q)/\eM N2 nx top (n1+11) (S.done L.length k fun j=>∃q,q<k/\dl S q j) tag vrec vtxs vcom vmods vlook nk vk ok cn cv co ptrs lnum lver lobj/\gM nx' N M' N2 s.M/\aq nx M s.M/\nx'<=s.nx)
     S.txs.length ⟨0,N,af,af,?_⟩ ?_
    ·refine dt rX ?_
     refine⟨by rw[Vl],by rw[e5'],by rw[e7'],mu,fun q x hq=>⟨lt q x hq,ge q x hq⟩,?_,fun q x h1 h2 h3=>⟨h3,h2⟩,Ur,af⟩;have:(S.done L.length 0 fun j=>∃q,q<0/\dl S q j)=S:=by
      unfold HS.done;rw[BS,ki (Q:=fun _=>False) (fun j=>aj),Br]
     rw[this];exact H
    ·rintro m2 ⟨env,M2,n2⟩ ⟨k,N2,hk,JE,e0,e5,e7,RC,RE,RF,Rc,RW,H2,Qs,T0,fq⟩
     simp only at e0 e5 e7 RC RE RF Rc H2 Qs T0 fq;by_cases aL:(k:Int)<S.txs.length
     ·have aP:k<S.txs.length:=af
      obtain⟨a,Y6⟩:∃a,S.txs[k]?=some a:=⟨S.txs[k],by simp[aP]⟩;have Qy:(S.done L.length k fun j=>∃q,q<k/\dl S q j).txs[k]?=some a:=by
       show (xx _ _ _)[k]?=_;rw[fw,Y6];simp
      obtain⟨w,Q3,QP⟩:=H2.known k a Qy;obtain⟨rk,mk,cm,lm,rfl,r1,r2,r3,r4,m1,MO,m3,m4,⟨FX,l0⟩,l1⟩:=QP;have ms2:xQ N2 M2:=fun q x h _=>(Rc q x h).1
      have Y3:=H2.txs;rw[show (S.done L.length k fun j=>∃q,q<k/\dl S q j).txs.length=S.txs.length from rp ..]at Y3;obtain⟨q,o,Oc,bC,aU⟩:=(Y3.sub ms2).sl.fldG (P:=ao) aP (t:=78) sr.2.2.2.1;have aU:=aU 0 (.mp rk 0) af (by rw[Nat.mul_one,getElem?_take,if_pos af,getElem?_drop,Nat.add_zero];exact Q3) 84 1 Cq.1 M2 (aq.refl _ _);rw[Nat.add_zero]at aU;have Gr:=(Rc _ _ r4).1;have Uw:=(Rc _ _ m4).1;have m4x:=m4;have g0:=e0;have g5:=e5;have g7:=e7;have g55:=RC;have g56:=RE;have g57:=RF;simp only[d_,cons_append,nil_append]at Gr;have dmr:mk≠rk:=aZ m3 r3 aj;have j8:aw rk mk=False/\aw mk rk=False:=by simp only[aw,eq_iff_iff,iff_false];omega
      have bV:=eF k;have NZ:∀N,kZ ao N 22 v=some ⟨.int .i64 L.length,[],[]⟩:=fun N=>ay N
      have UG:=Q3;clear Y3 Q3;have QQ:∀q,q<top->tag q ≠ .known k->q≠rk:=fun q _ h e=>h (by rw[e];exact r3)
      by_cases oN:a.s=3
      case' pos =>
       refine yq rX e0 e5 e7 RC RE RF aL bC aU Gr (aI Uw (aI oN (aI NZ (aI j8 (aI @qv (aI @s6 (aI @pP (aI @tf Co.2.2.2.2)))))))) ?_;obtain⟨it,JV⟩:∃it,it=n2+21:=⟨_,rfl⟩;rw[<-JV];generalize oM:aG M2 rk _=M3;have Z7:gG M3 rk=some (.row (d_ { a with e:=L.length } ++ [.mm mk])):=by rw[<-oM];simp only[d_,cons_append,nil_append,oN];exact J
       have o3:∀q,q≠rk->gG M3 q=gG M2 q:=fun q hq=>by rw[<-oM];exact J
       have Zu:nx'<=it/\it+1<=n2+22:=af;clear oM JV;obtain⟨N3,AP⟩:∃N3,N3=aG N2 rk (.row (d_ { a with e:=L.length } ++ [.mm mk])):=⟨_,rfl⟩;obtain⟨mu3,lt3',A3⟩:=zl Rc (fun q x h=>(RW q x h).1) (show rk<nx' by omega) (by rw[r4];simp) (x:=.row (d_ { a with e:=L.length } ++ [.mm mk])) rfl Z7 (fun q _ hq=>o3 q hq);rw[<-AP]at mu3 lt3' A3;have K3:∀q,q<top->tag q ≠ .known k->gG N3 q=gG N2 q:=fun q h1 h2=>by rw[AP,aB,if_neg fun e=>QQ q h1 h2 e.symm]
       have lt3:∀q x,gG N3 q=some x->q<nx'/\nx<=q:=fun q x h=>by
        rw[AP,aB]at h;split at h
        ·rename_i e;subst e;omega
        ·exact RW q x h
       have G3:aq nx M M3:=fun q hq=>(o3 q af).trans (T0 q hq)
       have A3':gM nx' N M' N3 M3:=Qs.trans A3 (Nat.le_refl _);have H3:eM N3 nx top (n1+11) (S.done L.length (k+1) fun j=>∃q,q<k/\dl S q j) tag vrec vtxs vcom vmods vlook nk vk ok cn cv co ptrs lnum lver lobj:=by
        refine H2.setTx (ts:=xx L.length (k+1) S.txs) (i:=k) (a:=a) (a':={ a with e:=L.length }) (by rw[rp];exact(rp ..).symm) (fun j hj=>?_) ?_ r3 UG Qy r4 (fun q h1 h2=>by rw[AP,aB,if_neg fun e=>h2 e.symm]) (by rw[AP,aB,if_pos rfl])
        ·show _=(xx _ _ _)[j]?
         rw[tU,getElem?_modify];have:¬ k=j:=fun e=>hj e.symm
         cases (xx (L.length:Int) k S.txs)[j]? <;> simp[this]
        ·rw[fw,Y6]
         simp[oN]
       have ZP:gG M3 mk=some (.map (cx vX lm) cm):=(o3 mk dmr).trans Uw;have oN:=True.intro
      case' neg =>
       refine yq rX e0 e5 e7 RC RE RF aL bC aU Gr (aI Uw (aI oN (aI NZ (aI j8 (aI @qv (aI @s6 (aI @pP (aI @tf Co.2.2.2.2)))))))) ?_;obtain⟨it,JV⟩:∃it,it=n2+14:=⟨_,rfl⟩;rw[<-JV];obtain⟨M3,oM⟩:∃M3,M3=M2:=⟨_,rfl⟩;obtain⟨N3,AP⟩:∃N3,N3=N2:=⟨_,rfl⟩;have Zu:nx'<=it/\it+1<=n2+15:=af;rw[<-oM];have mu3:Mu N3 M3:=by rw[AP,oM];exact Rc
       have K3:∀q,q<top->tag q ≠ .known k->gG N3 q=gG N2 q:=fun q h1 h2=>by rw[AP]
       have lt3:∀q x,gG N3 q=some x->q<nx'/\nx<=q:=by rw[AP];exact RW
       have G3:aq nx M M3:=by rw[oM];exact T0
       have A3':gM nx' N M' N3 M3:=by rw[oM,AP];exact Qs
       have H3:eM N3 nx top (n1+11) (S.done L.length (k+1) fun j=>∃q,q<k/\dl S q j) tag vrec vtxs vcom vmods vlook nk vk ok cn cv co ptrs lnum lver lobj:=by
        have:xx (L.length:Int) (k+1) S.txs=xx L.length k S.txs:=by
         refine ext_getElem? fun j=>?_
         rw[tU,getElem?_modify];by_cases hj:k=j
         ·subst hj
          rw[fw,Y6];simp[oN]
         ·cases (xx (L.length:Int) k S.txs)[j]? <;> simp[hj]
        rw[AP];unfold HS.done at H2 ⊢;rw[this];exact H2
       have ZP:gG M3 mk=some (.map (cx vX lm) cm):=by rw[oM];exact Uw
       clear oM AP JV;have oN:=True.intro
      all_goals
       clear Qy bC aU Gr j8 H2 Qs T0 RW UG oN e0 e5 e7 RC RE RF Uw;refine aC (fun m4 s=>∃(seen:List Nat) (st:Nat) (N4:Hp),m4=(lm.filter fun e=>decide (e.1 ∉ seen)).length/\gG s.env 0=some v/\gG s.env 5=some (.int .i64 n)/\gG s.env 7=some (.mp (n1+11) 0)/\gG s.env 55=some vtxs/\gG s.env 56=some (.int .i64 S.txs.length)/\gG s.env 57=some (.int .i64 k)/\gG s.env 77=some (.mp it 0) /\
        gG s.M it=some (.iter (some mk) cm seen st)/\cm<=st/\Mu N4 s.M/\(∀q x,gG N4 q=some x->q<nx'/\nx<=q) /\
        eM N4 nx top (n1+11) (S.done L.length (k+1) fun j=>(∃q,q<k/\dl S q j)\/∃e ∈ lm,e.1 ∈ seen/\(S.places k e.2.1).getLast?=some (j:Int)) tag vrec vtxs vcom vmods vlook nk vk ok cn cv co ptrs lnum lver lobj /\
        (∀q,q<top->tag q ≠ .mods->gG N4 q=gG N3 q)/\gM nx' N M' N4 s.M/\aq nx M s.M/\it<s.nx)
        _ ⟨[],cm,N3,rfl,?_⟩ ?_
       ·refine dt rX ?_
        refine⟨g0,g5,g7,g55,g56,g57,Nat.le_refl _,fun q x hq=>?_,lt3,?_,fun _ _ _=>trivial,fun q x h1 h2 h3=>?_,fun q hq=>?_,af⟩
        ·obtain⟨q1,q2⟩:=mu3 q x hq
         have:=(lt3 q x hq).1;exact⟨by rw[aB,if_neg af];exact q1,q2⟩
        ·have:(S.done L.length (k+1) fun j=>(∃q,q<k/\dl S q j)\/∃e ∈ lm,e.1 ∈ ([]:List Nat)/\(S.places k e.2.1).getLast?=some (j:Int))=S.done L.length (k+1) fun j=>∃q,q<k/\dl S q j:=by
          unfold HS.done;rw[ki (Q:=fun j=>∃q,q<k/\dl S q j) fun j=>by simp]
         rw[this];exact H3
        ·obtain⟨q1,q2⟩:=A3' q x h1 h2 h3
         exact⟨by rw[aB,if_neg af];exact q1,q2⟩
        ·rw[aB,if_neg af];exact G3 q hq
       ·rintro m4 ⟨Yq,M4,n4⟩ ⟨seen,st,N4,VH,f0,fP,f7,WI,VJ,Px,OM,JB,bw,Oj,V1,H4,K4,A4,G4,QX⟩
        simp only at f0 fP f7 WI VJ Px OM JB Oj H4 A4 G4 QX;have ZQ:gG M4 mk=some (.map (cx vX lm) cm):=(Oj mk _ (by rw[K4 mk MO (by rw[m3];simp),K3 mk MO (by rw[m3];simp)];exact m4x)).1;refine gk rX @OM @qv ?_;refine Cf j9 JB ZQ FX.lt bw (Nat.le_refl _) ?_ ?_
        ·intro dy
         have hP:eM N4 nx top (n1+11) (S.done L.length (k+1) fun j=>∃q,q<k+1/\dl S q j) tag vrec vtxs vcom vmods vlook nk vk ok cn cv co ptrs lnum lver lobj:=by
          have:(S.done L.length (k+1) fun j=>(∃q,q<k/\dl S q j)\/∃e ∈ lm,e.1 ∈ seen/\(S.places k e.2.1).getLast?=some (j:Int))=S.done L.length (k+1) fun j=>∃q,q<k+1/\dl S q j:=by
           unfold HS.done;rw[ki (Q:=fun j=>∃q,q<k+1/\dl S q j) fun j=>?_];constructor
           ·rintro(⟨q,h1,h2⟩ | ⟨e,h1,h2,h3⟩)
            ·exact⟨q,af,h2⟩
            ·exact⟨k,af,e.2.1,h3⟩
           ·rintro⟨q,h1,h2⟩
            by_cases hq:q=k
            ·subst hq
             obtain⟨x,hx⟩:=h2;right;cases hl:aH lm x with
             | none =>
               rw[show S.places q x=[] from l0 x hl]at hx;cases hx
             | some u =>
               obtain⟨b',rA⟩:=ju hl;exact⟨(b',x,u),rA,dy _ rA,hx⟩
            ·exact .inl ⟨q,af,h2⟩
          rw[<-this];exact H4
         clear K4 K3 dy;refine iQ rX f0 fP @f7 @WI VJ @Px bV ?_;exact⟨S.txs.length - (k+1),af,k+1,N4,af,rfl,rfl,Oj,V1,hP,A4,G4,af⟩
        ·intro e he y7
         have jc:=gH FX.kd e he;obtain⟨cf,Bd⟩:=l1 e.2.1 e.2.2 jc;have ms4:xQ N4 M4:=fun q x h _=>(Oj q x h).1
         have cw:=((Bd.keep (M':=N4) (tag':=tag) (fun q h1 h2=>⟨by rw[K4 q h1 (by rw[h2];simp),K3 q h1 (by rw[h2];simp)],h2⟩) (Nat.le_refl _)).sub ms4).sl;have ZV:0<(S.places k e.2.1).length:=length_pos_iff.2 cf;have hpf:=Qv.few.2.2 k e.2.1;obtain⟨j0,ZZ,Zy,D4⟩:∃j0:Nat,(S.places k e.2.1)[(S.places k e.2.1).length - 1]?=some (j0:Int)/\j0<S.mods.length/\(S.places k e.2.1).getLast?=some (j0:Int):=by
          obtain⟨z,hz⟩:∃z,(S.places k e.2.1)[(S.places k e.2.1).length - 1]?=some z:=⟨(S.places k e.2.1)[(S.places k e.2.1).length - 1],by simp[ZV]⟩;obtain⟨h1,h2⟩:=Qv.here k e.2.1 z (mem_of_getElem? hz);refine⟨z.toNat,by rw[hz];congr 1;omega,af,?_⟩;rw[getLast?_eq_getElem?,hz];congr 1;omega
         obtain⟨q,o,Oc,bC,aU⟩:=cw.fldG (P:=ao) (i:=(S.places k e.2.1).length - 1) (by show _<(S.places k e.2.1).length;omega) (t:=88) Av.2.2.2.1;have hlx:∀N,kZ ao N 88 e.2.2=some ⟨.int .i64 ((S.places k e.2.1).length:Nat),[],[]⟩:=fun N=>cw.len (P:=ao) (t:=88) Av.2.2.2.2.2 N
         have aU:=aU 0 (.int .i64 j0) af (by
          rw[Nat.mul_one,getElem?_take,if_pos af,getElem?_drop,Nat.add_zero,getElem?_map];show Option.map _ (S.places k e.2.1)[_]?=_;rw[ZZ];rfl) 3 1 dA.1
         rw[Nat.add_zero]at aU;obtain⟨z1,z2,z3⟩:=H4.mods;obtain⟨P4,hP4⟩:∃P4:Nat->Prop,P4=fun j=>(∃q,q<k/\dl S q j)\/∃e ∈ lm,e.1 ∈ seen/\(S.places k e.2.1).getLast?=some (j:Int):=⟨_,rfl⟩
         rw[<-hP4]at H4 z1 z2 z3;have F2:(S.done L.length (k+1) P4).mods.length=S.mods.length:=im ..;rw[F2]at z1 z2 z3;obtain⟨crow,NS⟩:∃crow,crow=(S.done L.length (k+1) P4).mods.flatMap cO:=⟨_,rfl⟩;rw[<-NS]at z2 z3;rcases z3 with ⟨_,z0⟩ | ⟨_,mkey,Ec,y1,y2,y3,y4⟩
         ·omega
         have VI:=Qv.few.2.1;have Zx:∀κ,br ao 80 vmods (.int κ (j0:Int))=some (.mp mkey (j0*8)):=fun κ=>by
          rw[Ec,cy,oi.2.2.2.1,ev _ _ _ _ _ af af];simp
         have F_:IntKind.i64.wrap (((S.places k e.2.1).length:Int) - 1)=(((S.places k e.2.1).length - 1:Nat):Int):=by rw[wrap_i64 af af];omega
         have xm:((S.done L.length (k+1) fun j=>∃q,q<k/\dl S q j).places k e.2.1).length=(S.places k e.2.1).length:=rfl;have hrow4:=(Oj _ _ H4.row).1;have hmr4:=(Oj _ _ y4).1;have hhh:=H4.h_hi;generalize mR:aG M4 it _=M5;have Jx:i7 M5 (.mp it 0)=some ⟨.tup [.int .u64 e.2.1,e.2.2],[it,mk],[]⟩:=rj (vf:=vX) (l:=lm) (by rw[<-mR];exact J) (by rw[<-mR];exact J) FX.nd he;have w1:gG M5 (n1+11)=some (.row [vrec,vtxs,.mm nk,vcom,vmods,.mm vk,vlook,.mm ok]):=by rw[<-mR];exact J
         have w2:gG M5 mkey=some (.row crow):=by rw[<-mR];exact J
         have w3:gG M5 it=some (.iter (some mk) cm (seen++[e.1]) cm):=by rw[<-mR];exact J
         have ZH:=aU M5 (by rw[<-mR];exact(aq.refl _ _).set af _);have G5:aq nx M M5:=by rw[<-mR];exact(by(repeat (refine aq.set ?_ af _));exact G4)
         have mu5:Mu N4 M5:=fun q x hq=>by
          obtain⟨q1,q2⟩:=Oj q x hq;have:=(V1 q x hq).1;exact⟨by rw[<-mR,aB,if_neg af];exact q1,q2⟩
         have A5:gM nx' N M' N4 M5:=fun q x h1 h2 h3=>by
          obtain⟨q1,q2⟩:=A4 q x h1 h2 h3;exact⟨by rw[<-mR,aB,if_neg af];exact q1,q2⟩
         clear mR aU A4 G4 Oj Bd cw;clear K3 xm;refine ii rX f0 fP @f7 @WI VJ @Px @OM @yA Jx w1 (aI w2 (aI hlx (aI bC (aI ZH (aI Zx (aI F_ z2)))))) ?_;generalize NU:bp crow (j0*8+7) [XV.bool true]=crow';have Ui:crow'=(fJ (fun j=>P4 j\/j=j0) S.mods).flatMap cO:=by
          rw[<-NU,NS];exact(KO P4 S.mods Zy).symm
         obtain⟨mu6,lt6,A6⟩:=zl mu5 (fun q x h=>(V1 q x h).1) (show mkey<nx' by omega) (by rw[y4];simp) (x:=.row crow') rfl (M':=aG M5 mkey (.row crow')) (by rw[aB,if_pos rfl]) (fun q _ hq=>by rw[aB,if_neg fun e=>hq e.symm]);have lt7:∀q x,gG (aG N4 mkey (.row crow')) q=some x->q<nx'/\nx<=q:=fun q x h=>by
          rw[aB]at h;split at h
          ·rename_i e1;subst e1;omega
          ·exact V1 q x h
         have hH6:=H4.setMods (ms:=fJ (fun j=>P4 j\/j=j0) S.mods) (M':=aG N4 mkey (.row crow')) (fun q h1 h2=>by rw[aB,if_neg fun e1=>h2 (by rw[<-e1];exact y3)])
          ⟨by rw[im];exact z1,by rw[<-Ui,im,<-NU,ib _ _ _ (by simp only[length_cons,length_nil];omega)];exact z2,.inr ⟨by rw[im];omega,mkey,by rw[im];exact Ec,y1,y2,y3,by rw[aB,if_pos rfl,Ui]⟩⟩
         have hH7:eM (aG N4 mkey (.row crow')) nx top (n1+11) (S.done L.length (k+1) fun j=>(∃q,q<k/\dl S q j)\/∃e' ∈ lm,e'.1 ∈ seen++[e.1]/\(S.places k e'.2.1).getLast?=some (j:Int)) tag vrec vtxs vcom vmods vlook nk vk ok cn cv co ptrs lnum lver lobj:=by
          have:fJ (fun j=>(∃q,q<k/\dl S q j)\/∃e' ∈ lm,e'.1 ∈ seen++[e.1]/\(S.places k e'.2.1).getLast?=some (j:Int)) S.mods=fJ (fun j=>P4 j\/j=j0) S.mods:=by
           refine ki (fun j=>?_) _;rw[hP4];constructor
           ·rintro(h | ⟨e',h1,h2,h3⟩)
            ·exact .inl (.inl h)
            ·rcases mem_append.1 h2 with h2 | h2
             ·exact .inl (.inr ⟨e',h1,h2,h3⟩)
             ·rw[mem_singleton]at h2
              have:e'=e:=wo FX.nd h1 he h2;subst this;rw[D4]at h3;right;simp only[Option.some.injEq]at h3;omega
           ·rintro((h | ⟨e',h1,h2,h3⟩) | h)
            ·exact .inl h
            ·exact .inr ⟨e',h1,mem_append_left _ h2,h3⟩
            ·subst h
             exact .inr ⟨e,he,aj,D4⟩
          unfold HS.done;rw[this];exact hH6
         refine⟨_,?_,seen++[e.1],cm,aG N4 mkey (.row crow'),rfl,J,Nat.le_refl _,mu6,lt7,hH7,fun q h1 h2=>?_,A5.trans A6 (Nat.le_refl _),(by(repeat (refine aq.set ?_ af _));exact G5),af⟩
         ·rw[VH]
          exact Dp y7 he
         ·rw[aB,if_neg fun e1=>h2 (by rw[<-e1];exact y3)]
          exact K4 q h1 h2
     ·have F0:k=S.txs.length:=af
      refine mD rX e0 e5 e7 RC RE RF aL ?_;refine⟨n,0,k2,an,.inr ⟨rfl,n1+11,N2,cr,rfl,⟨Rc,fun q x hq=>by have:=(RW q x hq).1;simp only;omega,fun q x hq=>(RW q x hq).2,top,an,tag,vrec,vtxs,vcom,vmods,vlook,nk,vk,ok,cn,cv,co,ptrs,lnum,lver,lobj,?_⟩,T0,fun j r hj=>(Zd j r hj).aside Qs fun q hq=>⟨by have:=hq.1;simp only;omega,hq.2⟩⟩⟩;rw[F0,NO]at H2;exact H2
 ·refine fM rX je ?_
  exact⟨n,rl,k2,an,.inl ⟨je,rfl,NK⟩⟩
end
end Go.Xs
namespace Go.Xs
open List Nat Option
noncomputable section
open Go.Proofs Go.RowKit
theorem names:(ao.funcs.toList.all fun fn=>!(fn.name == "runtime.NumGoroutine"))=true:=U
theorem Ws:Extern.findNext Tryz.f294=none/\Extern.find Tryz.f294=some Extern.BytealgCount.count:=⟨U,U⟩
theorem Xj:Extern.findNext Tryz.f372=none/\Extern.find Tryz.f372=some Extern.BytealgIndexByte.indexByte:=⟨U,U⟩
theorem I2 (ρ:aK):Dt ao ρ (KD 294 372) :=
 K7 ⟨_,Tryz.func294,U,mV names _ _ Tryz.func294,Ws⟩ ⟨_,Tryz.func372,U,mV names _ _ Tryz.func372,Xj⟩
def Pl:Option (List ew)->Option ew
 | some [r]=>some r
 | _=>none
def nl (o:Option (List ew)):ew:=match Pl o with | some r=>r | none=>(.un,.nil,0)
theorem Jf {o:Option (List ew)} (h:(Pl o).isSome=true):o=some [nl o]:=by
 match o,h with
 | some [r],_=>rfl
theorem ft.run {P:Program} {ρ:aK} {call:fB} (hc:i9 P ρ call) {g:Nat} {args:List XV} {M:Hp} {nx:Nat} {r:ew} (h:call g args M nx=some [r]):ft P ρ g args M nx fun x=>x=r:=fun w σ vs aQ aO aX o a K Q hK =>
 hc g args M nx [r] h w σ vs aQ aO aX o a K Q fun v w' ⟨r',hr,hp⟩=>hK v w' ⟨r',by simpa using hr,hp⟩
def tk (s:List Nat):Option (List ew):=Ty ao (fun _ _ _=>none) (KD 294 372) 100000 60 57 [.str s] .nil 0
theorem CJ (ρ:aK) {s:List Nat} {cells:List XV} (h1:(Pl (tk s)).isSome=true) (h2:(nl (tk s)).1 = .tup [.agg cells,.int .i64 0]) (ks:List Nat) (M:Hp) (nx:Nat) :
 ar ao ρ 57 [.str s] M nx fun r=>r.1 = .tup [.agg (nO nx cells),.int .i64 0]/\r.2.2=(nl (tk s)).2.2+nx/\aq nx M r.2.1/\∀k cs,k ∈ ks->gG (nl (tk s)).2.1 k=some (.row cs)->gG r.2.1 (k+nx)=some (.row (nO nx cs)):=by
 have h0:ft ao ρ 57 [.str s] .nil 0 fun x=>x=nl (tk s):=ft.run (LH (ρ:=ρ) follows (mV names) (fun _ _ _ _ _ h=>by cases h) (I2 ρ) (fuel:=100000) 60) (Jf h1)
 rw[show nl (tk s)=((nl (tk s)).1,(nl (tk s)).2.1,(nl (tk s)).2.2) from rfl,h2]at h0;exact ar.shift (fun σ vs hv=>by simpa only [ce,VR] using hv) h0 ks M nx
def TD (M:Hp) (nx:Nat) (r:aR) (o:ew):Prop:=(∃cs,o.1 = .tup [.agg cs,.int .i64 0]/\eL o.2.1 (fun k=>nx<=k/\k<o.2.2) r cs)/\aq nx M o.2.1/\nx<=o.2.2
def PH:Ex:=.mk 0 0 0 []
theorem f6 (ρ:aK) {s:List Nat} {k t x w n v:Int} (h1:(Pl (tk s)).isSome=true) (h2:(nl (tk s)).1 = .tup [.agg [.int .i64 k,.int .u64 t,.int .u64 x,.int .u64 w,.int .u64 n,.int .u64 v,.int .i64 0,.int .u64 0,.int .u64 0,.nils,.nils],.int .i64 0]) (M:Hp) (nx:Nat) :
 ar ao ρ 57 [.str s] M nx (TD M nx ⟨k,t,x,w,n,v,PH,[]⟩):=(CJ ρ h1 h2 [] M nx).mono fun r ⟨q1,q2,q3,_⟩ =>
 ⟨⟨_,q1,[.int .i64 0,.int .u64 0,.int .u64 0,.nils],.nils,rfl,⟨.nils,[],rfl,⟨aj,.inl ⟨rfl,rfl,rfl⟩⟩,trivial⟩,⟨aj,.inl ⟨rfl,rfl,rfl⟩⟩⟩,q3,af⟩
def QN:List (List Nat×aR):=[([98,101,103,105,110,32,49],⟨1,1,0,0,0,0,PH,[]⟩),([119,114,105,116,101,32,49,32,53,32,55],⟨3,1,5,0,0,7,PH,[]⟩),([99,111,109,109,105,116,32,49],⟨6,1,0,0,0,0,PH,[]⟩),([98,101,103,105,110,32,50],⟨1,2,0,0,0,0,PH,[]⟩),([112,114,101,100,32,50,32,97,108,108,32,53,58,49,46,49,58,49],⟨5,2,0,0,0,0,.mk 1 0 0 [],[⟨5,1,1,true⟩]⟩),([98,101,103,105,110,32,51],⟨1,3,0,0,0,0,PH,[]⟩),([100,101,108,101,116,101,32,51,32,53],⟨4,3,5,0,0,0,PH,[]⟩),([119,114,105,116,101,32,51,32,54,32,49],⟨3,3,6,0,0,1,PH,[]⟩),([99,111,109,109,105,116,32,51],⟨6,3,0,0,0,0,PH,[]⟩),([99,111,109,109,105,116,32,50],⟨6,2,0,0,0,0,PH,[]⟩)]
theorem RB (ρ:aK):∀p ∈ QN,∀(M:Hp) (nx:Nat),ar ao ρ 57 [.str p.1] M nx (TD M nx p.2):=by
 intro p hp;simp only[QN,mem_cons,not_mem_nil,or_false]at hp;rcases hp with rfl | rfl | rfl | rfl | rfl | rfl | rfl | rfl | rfl | rfl
 ·exact f6 ρ U U
 ·exact f6 ρ U U
 ·exact f6 ρ U U
 ·exact f6 ρ U U
 ·intro M nx
  refine(CJ ρ (s:=[112,114,101,100,32,50,32,97,108,108,32,53,58,49,46,49,58,49]) (cells:=[.int .i64 5,.int .u64 2,.int .u64 0,.int .u64 0,.int .u64 0,.int .u64 0,.int .i64 1,.int .u64 0,.int .u64 0,.nils,.sl 1559 4 0 1 1]) U U [1559] M nx).mono fun r ⟨q1,q2,q3,q4⟩=>?_
  have hn:(nl (tk [112,114,101,100,32,50,32,97,108,108,32,53,58,49,46,49,58,49])).2.2=1574:=U;have hr:=q4 1559 [.int .u64 5,.int .u64 1,.int .u64 1,.bool true] (mem_cons_self ..) U;rw[hn]at q2;exact⟨⟨_,q1,[.int .i64 1,.int .u64 0,.int .u64 0,.nils],.sl (1559+nx) 4 0 1 1,rfl,⟨.nils,[],rfl,⟨aj,.inl ⟨rfl,rfl,rfl⟩⟩,trivial⟩,⟨aj,.inr ⟨1559+nx,0,1,_,rfl,⟨af,af⟩,by unfold vR;rw[hr],by simp[nO],rfl⟩⟩⟩,q3,af⟩
 ·exact f6 ρ U U
 ·exact f6 ρ U U
 ·exact f6 ρ U U
 ·exact f6 ρ U U
 ·exact f6 ρ U U
def iY:List aR:=QN.map (·.2)
end
end Go.Xs
namespace Go.Xs
open List Nat Option
noncomputable section
open Go.Proofs
theorem Rp (hS:kL) (hN:kJ) (ρ:aK) (j9:ρ.det=false) {M:Hp} {nx K0:Nat} (hK0:K0<nx) (z0:gG M K0=some (.row (QN.map fun p=>.str p.1))) {Q:ew->Prop}
 (hNew:∀M' n' v,aq nx M M'->nx<=n'->cP M' n' v iY->ar ao ρ 9 [v] M' n' fun o=>∃h,o.1 = .tup [.mp h 0,.int .i64 10,.int .i64 0]/\aq n' M' o.2.1/\n'<=o.2.2/\∀N n2,aq o.2.2 o.2.1 N->o.2.2<=n2->Q (.mp h 0,N,n2)) :
 ar ao ρ 25 [.sl K0 1 0 10 10] M nx fun o=>Q o/\aq nx M o.2.1/\nx<=o.2.2:=by
 have hwl:QN.length=10:=rfl;have MK:iY.length=10:=rfl;have cw:bE M nx (.sl K0 1 0 10 10) 1 10 (QN.map fun p=>XV.str p.1):=⟨af,.inr ⟨K0,0,10,_,rfl,hK0,by unfold vR;rw[z0],by simp[hwl],rfl⟩⟩;have ay:=fun N=>cw.len (P:=ao) (t:=71) LG.2.2.2.2.2 N
 refine ar.wk 35 [.tmp 2] Tryz.func25 ?_;refine bR cS ?_;refine aC (fun m' s=>∃(i K:Nat) (vv:XV) (rw:List XV),i<=10/\m'=10 - i/\gG s.env 0=some (.sl K0 1 0 10 10)/\gG s.env 3=some vv/\gG s.env 4=some (.int .i64 (i:Int))/\rw.length=i*11/\(vv = .nils/\i=0\/0<i/\vv = .sl K 11 0 i i/\gG s.M K=some (.row rw))/\nx<=K/\K<s.nx /\
  (∀j r,j<i->iY[j]?=some r->c_ s.M K r ((rw.drop (j*11)).take 11))/\aq nx M s.M) 10 ⟨0,nx,.nils,[],af,af,?_⟩ ?_
 ·refine bR cS ?_
  refine⟨.inl trivial,af,af,fun j e h=>absurd h (not_lt_zero _),aq.refl _ _⟩
 ·rintro m' ⟨env,M',nx'⟩ ⟨i,K,vv,rw',hi,ir,e0,e3,e4,je,vi,Gg,Gh,fF,ha⟩
  simp only at e0 e3 e4 vi Gh fF ha;by_cases aL:(i:Int)<10
  ·have aP:i<10:=af
   obtain⟨p,hp⟩:∃p,QN[i]?=some p:=⟨QN[i]' af,getElem?_eq_getElem _⟩;have Q4:iY[i]?=some p.2:=by unfold iY;rw[getElem?_map,hp];rfl
   have bV:=eF i;obtain⟨n,o,jw,bC,Gl⟩:=cw.fld (P:=ao) aP (t:=71) LG.2.2.2.1;have aU:=Gl 0 (.str p.1) ak (by
    rw[Nat.mul_one,getElem?_take,if_pos ak,getElem?_drop,Nat.add_zero,getElem?_map,hp];rfl) 9 _ S6.1 M' ha
   rw[Nat.add_zero]at aU;refine iQ cS e0 e3 e4 aL ay bC aU ?_;refine gQ (RB ρ p (mem_of_getElem? hp) M' _) ?_;rintro⟨u,M2,n2⟩ ⟨⟨cs,g1,g2⟩,g3,g4⟩;simp only at g1 g2 g3 g4;subst g1;have a2:aq nx' M' M2:=g3.le af;have g2K:∀(H:Hp) (K':Nat),n2<=K'->(∀q,q<n2->q≠K->gG H q=gG M2 q)->c_ H K' p.2 cs:=fun H K' Ml hH=>c_.pp.2 (g2.keep fun q hq=>⟨hH q af af,show q<K' by omega⟩)
   have g2:=g2K M2 n2 (Nat.le_refl _) fun _ _ _=>rfl
   obtain⟨pk,pa,pb,pv,ve,dI,⟨p1,p2⟩,⟨q1,q2⟩,_⟩:=g2.cells;have CL:cs.length=11:=by rw[dI];rfl
   have qB:∀(H:Hp) (K':Nat) (oQ:List XV),n2<=K'->oQ=rw'++cs->(∀q,q<n2->q≠K->gG H q=gG M2 q)->∀j r',j<i+1->iY[j]?=some r'->c_ H K' r' ((oQ.drop (j*11)).take 11):=fun H K' oQ Ml Oe hH j r' hj sA=>by
    subst Oe;rw[mf je CL hj];split
    ·rename_i kX
     exact c_.pp.2 ((c_.pp.1 (fF j r' kX sA)).keep fun q hq=>⟨by have hq:q<K:=hq;rw[hH q af af,a2 q af],by have hq:q<K:=hq;show q<K';omega⟩)
    ·have:j=i:=af
     subst this;rw[Q4]at sA;cases sA;exact g2K H K' Ml hH
   rcases vi with ⟨rfl,rfl⟩ | ⟨AW,rfl,hK⟩
   ·have mP:rw'=[]:=length_eq_zero_iff.1 af
    subst mP;rw[dI]at qB;subst dI;have MJ:IntKind.i64.wrap (0+1)=((1:Nat):Int):=ak;refine CU cS p1 p2 q1 q2 MJ e0 e3 e4 ?_;refine⟨9,af,1,n2+9,_,_,af,rfl,rfl,rfl,rfl,.inr ⟨af,rfl,if_pos (show aw _ _ from rfl)⟩,af,af,qB _ (n2+9) _ af rfl fun q hq nP=>J,fun q hq=>?_⟩;have:=(a2 q af).trans (ha q hq);exact J
   ·have qK:=(a2 K af).trans hK
    have kB:rw'.take (i*11)=rw':=take_of_length_le af;rw[dI]at qB;subst dI;refine ii cS qK je kB p1 p2 q1 q2 bV e0 e3 e4 ?_;refine⟨10 - (i+1),af,i+1,n2+9,_,_,af,rfl,rfl,rfl,by rw[length_append,je];simp only[length_cons,length_nil];omega,.inr ⟨af,rfl,if_pos (show aw _ _ from rfl)⟩,af,af,qB _ (n2+9) _ af rfl fun q hq nP=>J,fun q hq=>?_⟩;have:=(a2 q af).trans (ha q hq);exact J
  ·have gB:i=10:=af
   refine iC cS e0 e3 e4 aL ay ?_;have gS:cP M' (nx'+5) vv iY:=by
    refine⟨rw',⟨af,?_⟩,fun j r hr=>(fF j r (by have:=(List.getElem?_eq_some_iff.1 hr).1;omega) hr).wk af⟩;rcases vi with ⟨rfl,h0⟩ | ⟨h0,rfl,hK⟩
    ·omega
    ·exact .inr ⟨K,0,i,rw',by rw[gB,MK],af,by unfold vR;rw[hK],af,by rw[drop_zero,take_of_length_le af]⟩
   refine gQ (hNew M' _ vv ha af gS) ?_;rintro⟨u,M4,n4⟩ ⟨hh,g1,g2,g3,g4⟩;simp only at g1 g2 g3 g4;subst g1;refine bR cS ?_;exact⟨g4 _ _ (aq.refl _ _) af,ha.trans (g2.le af),af⟩
end
end Go.Xs
namespace Go.Xs
open List Nat Option
variable{k:Nat}{l:List aR}{r:aR}
noncomputable section
theorem Fi (i:Nat):mc i≠0:=by
 unfold mc;split
 ·decide
 ·split
  ·decide
  ·omega
theorem qn {l:List aR} {r:aR}:∀(n i:Nat),oW l r n i=0->∀j,i<=j->j<i+n->kM j l r=true
 | 0,i,_,j,h1,h2=>af
 | n+1,i,h,j,h1,h2=>by
   unfold oW at h;split at h
   ·rename_i hk
    by_cases e:j=i
    ·subst e;exact hk
    ·exact qn n (i+1) h j af af
   ·exact(Fi i h).elim
theorem lY (h:eA l r=0) (j:Nat) (hj:j<12):kM j l r=true:=qn 12 0 h j af af
theorem ru (h:eA l r=0):1<=r.kind/\r.kind<=7:=by
 have:=lY h 0 af;simp only[kM,Bool.and_eq_true,decide_eq_true_eq]at this;exact this
theorem jH (h:eA l r=0) (h1:r.kind=1):bH l r.t=none:=by
 have:=lY h 3 af;simp only[kM,h1,decide_true,Bool.not_true,Bool.false_or,Bool.not_eq_true']at this;cases he:bH l r.t with
 | none=>rfl
 | some b=>rw[he]at this;cases this
theorem pd (h:eA l r=0) (h1:r.kind≠1):∃b,bH l r.t=some b:=by
 have:=lY h 4 af;simp only[kM,h1,decide_false,Bool.false_or]at this;exact isSome_iff_exists.1 this
structure qV (S:HS) (l:List aR):Prop where
 num:∀t k,S.num t=some k->∃(j:Nat) (a:ku),k=(j:Int)/\S.txs[j]?=some a/\a.t=t
 txs:∀(j:Nat) a,S.txs[j]?=some a->S.num a.t=some (j:Int)
 fresh:∀t,bH l t=none->S.num t=none
 begun:∀t b,bH l t=some b->S.num t≠none
 com:∀(j j':Nat) a b,S.txs[j]?=some a->S.txs[j']?=some b->a.s=1->b.s=1->j=j'\/(a.n<b.n/\a.e<b.e)\/(b.n<a.n/\b.e<a.e)
 comb:∀(j:Nat) a,S.txs[j]?=some a->a.s=1->a.n<S.com.length/\0<=a.e/\a.e<l.length
 com0:∀(j:Nat) a,S.txs[j]?=some a->a.s=1->0<=a.n
 mods:∀(j:Nat) m,S.mods[j]?=some m->∃k:Nat,S.num m.t=some (k:Int)/\(j:Int) ∈ S.places k m.x/\m.w=m.t/\1<=m.n/\m.n<=((S.places k m.x).length:Int)/\S.ver m.x m.w m.n=some (j:Int)/\m.fin=false
 places:∀(k:Nat) x z,z ∈ S.places k x->∃(j:Nat) (m:fS),z=(j:Int)/\S.mods[j]?=some m/\m.x=x/\S.num m.t=some (k:Int)
 vers:∀x w n z,S.ver x w n=some z->∃(j:Nat) (m:fS),z=(j:Int)/\S.mods[j]?=some m/\m.x=x/\m.w=w/\m.n=n
 ntx:S.txs.length<=l.length
 nmod:S.mods.length<=l.length
 ncom:S.com.length<=l.length
 npl:∀k x,(S.places k x).length<=l.length
 nlook:S.looks.length<=1001*l.length
 nobj:∀x,0<=(S.obj x).getD 0/\(S.obj x).getD 0<=1001*(l.length:Int)
theorem eJ {t:Int} {o:Option Bool} (h:r.kind≠1) (h6:r.kind≠6) (h7:r.kind≠7):de t o r=o:=by
 unfold de;by_cases e:r.t=t
 ·rw[if_pos e,if_neg h,if_neg (by rintro(q | q)<;>contradiction)]
 ·rw[if_neg e]
theorem qV.start:qV vF []:=by
 exact⟨(fun t k h=>by cases h),(fun j a h=>by simp[vF]at h),(fun t _=>rfl),(fun t b h=>by cases h),(fun j j' a b h=>by simp[vF]at h),(fun j a h=>by simp[vF]at h),(fun j a h=>by simp[vF]at h),(fun j m h=>by simp[vF]at h),(fun k x z h=>by simp[vF]at h),(fun x w n z h=>by cases h),by simp[vF],by simp[vF],by simp[vF],by simp[vF],by simp[vF],by simp[vF]⟩
variable {S:HS} {l:List aR} {r:aR}
theorem qV.looks {S':HS} (h:qV S l) (he:∀t,bH (l++[r]) t=bH l t) (e1:S'.num=S.num) (e2:S'.txs=S.txs) (e3:S'.com=S.com) (e4:S'.mods=S.mods) (e5:S'.places=S.places) (e6:S'.ver=S.ver)
 (h1:S'.looks.length<=S.looks.length+1001) (h2:∀x,0<=(S'.obj x).getD 0/\(S'.obj x).getD 0<=(S.obj x).getD 0+1001):qV S' (l++[r]):=by
 refine⟨?_,?_,?_,?_,?_,?_,?_,?_,?_,?_,?_,?_,?_,?_,?_,?_⟩
 ·rw[e1,e2];exact h.num
 ·rw[e1,e2];exact h.txs
 ·intro t ht;rw[he]at ht;rw[e1];exact h.fresh t ht
 ·intro t b ht;rw[he]at ht;rw[e1];exact h.begun t b ht
 ·rw[e2];exact h.com
 ·intro j a h1 h2
  rw[e2]at h1;have:=h.comb j a h1 h2;rw[e3,length_append];simp only[length_cons,length_nil];omega
 ·rw[e2];exact h.com0
 ·rw[e1,e4,e5,e6];exact h.mods
 ·rw[e1,e4,e5];exact h.places
 ·rw[e4,e6];exact h.vers
 ·rw[e2,length_append];have:=h.ntx;omega
 ·rw[e4,length_append];have:=h.nmod;omega
 ·rw[e3,length_append];have:=h.ncom;omega
 ·intro k x;rw[e5,length_append];have:=h.npl k x;omega
 ·rw[length_append];have:=h.nlook;simp only[length_cons,length_nil];omega
 ·intro x
  have:=h.nobj x;have:=h2 x;rw[length_append];simp only[length_cons,length_nil];omega
theorem qV.begin (h:qV S l) (h1:r.kind=1) (hf:bH l r.t=none) (i:Int):qV (S.begin i r) (l++[r]):=by
 have Bc:=h.fresh _ hf;have qy:∀t,bH (l++[r]) t=if r.t=t then some false else bH l t:=fun t=>by
  rw[bL];unfold de;rw[if_pos h1]
 have Q0:∀t (k:Nat),S.num t=some (k:Int)->k<S.txs.length:=fun t k hk=>by
  obtain⟨j,a,e,h2,_⟩:=h.num t _ hk;have:=(List.getElem?_eq_some_iff.1 h2).1;omega
 have ow:∀(j:Nat) a,(S.txs++[(⟨r.t,i,0,3,-1⟩:ku)])[j]?=some a->S.txs[j]?=some a\/(j=S.txs.length/\a=⟨r.t,i,0,3,-1⟩):=fun j a hj=>by
  by_cases hl:j<S.txs.length
  ·rw[getElem?_append_left hl]at hj;exact .inl hj
  ·have:=(List.getElem?_eq_some_iff.1 hj).1
   simp only[length_append,length_cons,length_nil]at this;have e:j=S.txs.length:=af;subst e;rw[getElem?_concat_length]at hj;cases hj;exact .inr ⟨rfl,rfl⟩
 have gE:∀(k:Nat) t x,S.num t=some (k:Int)->(S.begin i r).places k x=S.places k x:=fun k t x hk=>by
  have:=Q0 t k hk;exact if_neg af
 have hplN:∀x,S.places S.txs.length x=[]\/True:=fun _=>.inr trivial
 refine⟨fun t k hk=>?_,fun j a hj=>?_,fun t ht=>?_,fun t b ht=>?_,fun j j' a b hj mS ha hb=>?_,fun j a hj ha=>?_,fun j a hj ha=>?_,fun j m hm=>?_,fun k x z hz=>?_,h.vers,?_,?_,?_,fun k x=>?_,?_,fun x=>?_⟩
 ·have ia:(if t=r.t then some (S.txs.length:Int) else S.num t)=some k:=hk
  split at ia
  ·rename_i e
   cases ia;exact⟨S.txs.length,⟨r.t,i,0,3,-1⟩,rfl,by show (S.txs++[_])[S.txs.length]?=_;rw[getElem?_concat_length],e.symm⟩
  ·obtain⟨j,a,e,h2,h3⟩:=h.num t k ia
   have:=(List.getElem?_eq_some_iff.1 h2).1;exact⟨j,a,e,by show (S.txs++[_])[j]?=_;rw[getElem?_append_left this];exact h2,h3⟩
 ·show (if a.t=r.t then some (S.txs.length:Int) else S.num a.t)=_
  rcases ow j a hj with hj | ⟨e,rfl⟩
  ·have:=h.txs j a hj
   rw[if_neg fun e=>by rw[e,Bc]at this;cases this];exact this
  ·rw[if_pos rfl,e]
 ·rw[qy]at ht
  split at ht
  ·cases ht
  ·rename_i e
   show (if t=r.t then some (S.txs.length:Int) else S.num t)=_;rw[if_neg fun q=>e q.symm];exact h.fresh t ht
 ·rw[qy]at ht
  show (if t=r.t then some (S.txs.length:Int) else S.num t)≠_;split at ht
  ·rename_i e;rw[if_pos e.symm];simp
  ·rename_i e
   rw[if_neg fun q=>e q.symm];exact h.begun t b ht
 ·rcases ow j a hj with hj | ⟨_,rfl⟩
  ·rcases ow j' b mS with mS | ⟨_,rfl⟩
   ·exact h.com j j' a b hj mS ha hb
   ·cases hb
  ·cases ha
 ·rcases ow j a hj with hj | ⟨_,rfl⟩
  ·have:=h.comb j a hj ha
   rw[length_append];simp only[length_cons,length_nil];show a.n<S.com.length/\_;omega
  ·cases ha
 ·rcases ow j a hj with hj | ⟨_,rfl⟩
  ·exact h.com0 j a hj ha
  ·cases ha
 ·obtain⟨k,h2,h3,h4,h5,h6,h7,h8⟩:=h.mods j m hm
  have cf:m.t≠r.t:=fun e=>by rw[e,Bc]at h2;cases h2
  refine⟨k,?_,?_,h4,h5,?_,h7,h8⟩
  ·show (if m.t=r.t then some (S.txs.length:Int) else S.num m.t)=_
   rw[if_neg cf];exact h2
  ·rw[gE k _ _ h2];exact h3
  ·rw[gE k _ _ h2];exact h6
 ·have Rb:z ∈ (if k=S.txs.length then [] else S.places k x):=hz
  split at Rb
  ·cases Rb
  ·obtain⟨j,m,e1,e2,e3,e4⟩:=h.places k x z Rb
   refine⟨j,m,e1,e2,e3,?_⟩;show (if m.t=r.t then some (S.txs.length:Int) else S.num m.t)=_;rw[if_neg fun e=>by rw[e,Bc]at e4;cases e4];exact e4
 ·show (S.txs++[_]).length<=_
  have:=h.ntx;simp only[length_append,length_cons,length_nil];omega
 ·rw[length_append];have:=h.nmod;show S.mods.length<=_;omega
 ·rw[length_append];have:=h.ncom;show S.com.length<=_;omega
 ·show (if k=S.txs.length then [] else S.places k x).length<=_
  have:=h.npl k x;rw[length_append];split
  ·simp
  ·omega
 ·rw[length_append];have:=h.nlook;show S.looks.length<=_;omega
 ·have:=h.nobj x
  rw[length_append];simp only[length_cons,length_nil];show 0<=(S.obj x).getD 0/\(S.obj x).getD 0<=_;omega
theorem qV.modify (h:qV S l) (Vq:r.kind=3\/r.kind=4) (hk:S.num r.t=some (k:Int)) (i:Int):qV (S.modify i r k) (l++[r]):=by
 have he:∀t,bH (l++[r]) t=bH l t:=fun t=>by rw[bL,eJ af af af]
 obtain⟨nm,F6⟩:∃nm:fS,nm=⟨i,r.t,r.x,r.t,(((S.places k r.x).length+1:Nat):Int),r.v,decide (r.kind=4),false⟩:=⟨_,rfl⟩;have F3:(S.modify i r k).mods=S.mods++[nm]:=by rw[F6];rfl
 have ow:∀(j:Nat) m,(S.mods++[nm])[j]?=some m->S.mods[j]?=some m\/(j=S.mods.length/\m=nm):=fun j m hj=>by
  by_cases hl:j<S.mods.length
  ·rw[getElem?_append_left hl]at hj;exact .inl hj
  ·have:=(List.getElem?_eq_some_iff.1 hj).1
   simp only[length_append,length_cons,length_nil]at this;have e:j=S.mods.length:=af;subst e;rw[getElem?_concat_length]at hj;cases hj;exact .inr ⟨rfl,rfl⟩
 have dz:∀(j:Nat) m,S.mods[j]?=some m->(S.mods++[nm])[j]?=some m:=fun j m hj=>by
  rw[getElem?_append_left (List.getElem?_eq_some_iff.1 hj).1];exact hj
 have gE:∀(j:Nat) x,(S.modify i r k).places j x=if j=k/\x=r.x then S.places k r.x++[(S.mods.length:Int)] else S.places j x:=fun _ _=>rfl
 have Q5:∀x w n,(S.modify i r k).ver x w n=if x=r.x/\w=r.t/\n=(((S.places k r.x).length+1:Nat):Int) then some (S.mods.length:Int) else S.ver x w n:=fun _ _ _=>rfl
 refine⟨h.num,h.txs,fun t ht=>h.fresh t (by rw[he]at ht;exact ht),fun t b ht=>h.begun t b (by rw[he]at ht;exact ht),h.com,fun j a hj ha=>?_,h.com0,fun j m hm=>?_,fun k' x z hz=>?_,fun x w n z hz=>?_,?_,?_,?_,fun k' x=>?_,?_,fun x=>?_⟩
 ·have:=h.comb j a hj ha
  rw[length_append];simp only[length_cons,length_nil];show a.n<S.com.length/\_;omega
 ·rw[F3]at hm
  rcases ow j m hm with hm | ⟨e,rfl⟩
  ·obtain⟨k',h2,h3,h4,h5,h6,h7,h8⟩:=h.mods j m hm
   refine⟨k',h2,?_,h4,h5,?_,?_,h8⟩
   ·rw[gE]
    split
    ·rename_i e;obtain⟨e1,e2⟩:=e;subst e1;rw[e2]at h3;exact mem_append_left _ h3
    ·exact h3
   ·rw[gE]
    split
    ·rename_i e;obtain⟨e1,e2⟩:=e;subst e1;rw[e2]at h6
     rw[length_append];simp only[length_cons,length_nil];omega
    ·exact h6
   ·rw[Q5,if_neg]
    ·exact h7
    ·rintro⟨e1,e2,e3⟩
     rw[h4]at e2;rw[e2,hk]at h2;cases h2;rw[e1,e3]at h6;omega
  ·subst F6
   refine⟨k,hk,?_,rfl,?_,?_,?_,rfl⟩
   ·rw[gE,if_pos ⟨rfl,rfl⟩,e];simp
   ·simp only;omega
   ·rw[gE,if_pos ⟨rfl,rfl⟩,length_append]
    simp only[length_cons,length_nil];omega
   ·rw[Q5,if_pos ⟨rfl,rfl,rfl⟩,e]
 ·rw[gE]at hz
  rw[F3];split at hz
  ·rename_i e
   obtain⟨rfl,rfl⟩:=e;rcases mem_append.1 hz with hz | hz
   ·obtain⟨j,m,e1,e2,e3,e4⟩:=h.places _ _ z hz
    exact⟨j,m,e1,dz j m e2,e3,e4⟩
   ·rw[mem_singleton]at hz
    exact⟨S.mods.length,nm,hz,getElem?_concat_length,by rw[F6],by rw[F6];exact hk⟩
  ·obtain⟨j,m,e1,e2,e3,e4⟩:=h.places _ _ z hz
   exact⟨j,m,e1,dz j m e2,e3,e4⟩
 ·rw[Q5]at hz
  rw[F3];split at hz
  ·rename_i e
   cases hz;exact⟨S.mods.length,nm,rfl,getElem?_concat_length,by rw[F6];exact e.1.symm,by rw[F6];exact e.2.1.symm,by rw[F6];exact e.2.2.symm⟩
  ·obtain⟨j,m,e1,e2,e3⟩:=h.vers x w n z hz
   exact⟨j,m,e1,dz j m e2,e3⟩
 ·rw[length_append];have:=h.ntx;show S.txs.length<=_;omega
 ·rw[F3];have:=h.nmod;simp only[length_append,length_cons,length_nil];omega
 ·rw[length_append];have:=h.ncom;show S.com.length<=_;omega
 ·rw[gE,length_append]
  have:=h.npl k' x;have:=h.npl k r.x;split
  ·simp only[length_append,length_cons,length_nil];omega
  ·omega
 ·rw[length_append];have:=h.nlook;show S.looks.length<=_;omega
 ·have:=h.nobj x
  rw[length_append];simp only[length_cons,length_nil];show 0<=(if x=r.x then some ((S.obj r.x).getD 0+1) else S.obj x).getD 0/\(if x=r.x then some ((S.obj r.x).getD 0+1) else S.obj x).getD 0<=_;split
  ·rename_i e;subst e;simp only[getD_some];omega
  ·omega
theorem qV.endTx (h:qV S l) (Vr:r.kind=6\/r.kind=7) {a a':ku} (hk:S.num r.t=some (k:Int)) (ha:S.txs[k]?=some a) (ht:a'.t=r.t) {com':List Int} (hc:S.com.length<=com'.length/\com'.length<=l.length+1)
 (hs:a'.s=1->a'.n=(S.com.length:Int)/\S.com.length<com'.length/\a'.e=(l.length:Int)):qV (S.endTx k a' com') (l++[r]):=by
 have kA:=(List.getElem?_eq_some_iff.1 ha).1;have qL:a.t=r.t:=by
  obtain⟨j,b,e,h2,h3⟩:=h.num _ _ hk;have:j=k:=af;subst this;rw[ha]at h2;cases h2;exact h3
 have ow:∀(j:Nat),(S.txs.set k a')[j]?=if j=k then some a' else S.txs[j]?:=fun j=>by
  by_cases e:j=k
  ·subst e;rw[getElem?_set_self kA,if_pos rfl]
  ·rw[getElem?_set_ne fun q=>e q.symm,if_neg e]
 have qy:∀t,bH (l++[r]) t=if r.t=t then some true else bH l t:=fun t=>by
  rw[bL];unfold de;by_cases e:r.t=t
  ·rw[if_pos e,if_pos e,if_neg af,if_pos Vr]
  ·rw[if_neg e,if_neg e]
 refine⟨fun t k' ia=>?_,fun j b hj=>?_,fun t zp=>?_,fun t b zp=>?_,fun j j' b c hj mS hb jY=>?_,fun j b hj hb=>?_,fun j b hj hb=>?_,h.mods,h.places,h.vers,?_,?_,?_,fun k x=>?_,?_,fun x=>?_⟩
 ·obtain⟨j,b,e,h2,h3⟩:=h.num t k' ia
  by_cases ej:j=k
  ·subst ej
   rw[ha]at h2;cases h2;exact⟨j,a',e,by show (S.txs.set j a')[j]?=_;rw[ow,if_pos rfl],by rw[ht,<-qL];exact h3⟩
  ·exact⟨j,b,e,by show (S.txs.set k a')[j]?=_;rw[ow,if_neg ej];exact h2,h3⟩
 ·have mS:(S.txs.set k a')[j]?=some b:=hj
  rw[ow]at mS;split at mS
  ·rename_i e
   cases mS;rw[ht,e];exact hk
  ·exact h.txs j b mS
 ·rw[qy]at zp
  split at zp
  ·cases zp
  ·exact h.fresh t zp
 ·rw[qy]at zp
  split at zp
  ·rename_i e
   rw[<-e];show S.num r.t≠none;rw[hk];simp
  ·exact h.begun t b zp
 ·have mj:(S.txs.set k a')[j]?=some b:=hj
  have f_:(S.txs.set k a')[j']?=some c:=mS;rw[ow]at mj f_;split at mj
  ·rename_i e
   cases mj;split at f_
   ·rename_i e';left;omega
   ·have h1:=h.comb j' c f_ jY
    obtain⟨h2,h3,h4⟩:=hs hb;right;right;omega
  ·split at f_
   ·cases f_
    have h1:=h.comb j b mj hb;obtain⟨h2,h3,h4⟩:=hs jY;right;left;omega
   ·exact h.com j j' b c mj f_ hb jY
 ·have mj:(S.txs.set k a')[j]?=some b:=hj
  rw[ow]at mj;rw[length_append];simp only[length_cons,length_nil];show b.n<com'.length/\_;split at mj
  ·cases mj
   obtain⟨h2,h3,h4⟩:=hs hb;omega
  ·have h1:=h.comb j b mj hb
   omega
 ·have mj:(S.txs.set k a')[j]?=some b:=hj
  rw[ow]at mj;split at mj
  ·cases mj
   obtain⟨h2,h3,h4⟩:=hs hb;omega
  ·exact h.com0 j b mj hb
 ·show (S.txs.set k a').length<=_
  have:=h.ntx;simp only[length_set,length_append,length_cons,length_nil];omega
 ·rw[length_append];have:=h.nmod;show S.mods.length<=_;omega
 ·rw[length_append]
  simp only[length_cons,length_nil];exact hc.2
 ·rw[length_append];have:=h.npl k x;show (S.places k x).length<=_;omega
 ·rw[length_append];have:=h.nlook;show S.looks.length<=_;omega
 ·have:=h.nobj x
  rw[length_append];simp only[length_cons,length_nil];show 0<=(S.obj x).getD 0/\(S.obj x).getD 0<=_;omega
theorem oR (S:HS) (i:Int) (r:aR):∀n,(S.preds i r n).num=S.num/\(S.preds i r n).txs=S.txs/\(S.preds i r n).com=S.com/\(S.preds i r n).mods=S.mods/\(S.preds i r n).places=S.places/\(S.preds i r n).ver=S.ver
 | 0=>⟨rfl,rfl,rfl,rfl,rfl,rfl⟩
 | n+1=>by
   have ih:=oR S i r n;unfold HS.preds;cases r.es[n]? with
   | none=>exact ih
   | some e=>exact ih
theorem qV.take (h:qV S l) (hr:eA l r=0) (he:r.es.length<=1000):qV (S.take l.length r) (l++[r]):=by
 obtain⟨k1,k2⟩:=ru hr;by_cases e1:r.kind=1
 ·have:S.take l.length r=S.begin l.length r:=by simp only[HS.take,if_pos e1]
  rw[this];exact h.begin e1 (jH hr e1) _
 obtain⟨b,hb⟩:=pd hr e1;have cf:=h.begun _ _ hb;obtain⟨kk,sT⟩:=ne_none_iff_exists'.1 cf;obtain⟨k,a,rfl,ha,qL⟩:=h.num _ _ sT;have hk:((S.num r.t).getD 0).toNat=k:=by rw[sT];rfl
 by_cases e2:r.kind=2
 ·have:S.take l.length r=S.look ⟨l.length,0,r.t,r.x,r.w,r.n,false,false⟩:=by simp[HS.take,e2]
  rw[this];refine h.looks (fun t=>by rw[bL,eJ af af af]) rfl rfl rfl rfl rfl rfl (by simp[HS.look]) fun x=>?_
  have:=h.nobj x;have:=h.nobj r.x;show 0<=(if x=r.x then some ((S.obj r.x).getD 0+1) else S.obj x).getD 0/\(if x=r.x then some ((S.obj r.x).getD 0+1) else S.obj x).getD 0<=_;split
  ·rename_i e;subst e;simp only[getD_some];omega
  ·omega
 by_cases DW:r.kind=3\/r.kind=4
 ·have:S.take l.length r=S.modify l.length r k:=by simp only[HS.take,if_neg e1,if_neg e2,if_pos DW,hk]
  rw[this];exact h.modify DW sT _
 by_cases e5:r.kind=5
 ·have:S.take l.length r=S.preds l.length r r.es.length:=by simp[HS.take,e5]
  rw[this];obtain⟨q1,q2,q3,q4,q5,q6⟩:=oR S l.length r r.es.length;obtain⟨b1,b2⟩:=nF (S:=S) (i:=l.length) (r:=r) r.es.length;refine h.looks (fun t=>by rw[bL,eJ af af af]) q1 q2 q3 q4 q5 q6 af fun x=>?_
  have h1:=h.nobj x;have h2:=b2 x;omega
 by_cases e6:r.kind=6
 ·have:S.take l.length r=S.endTx k ⟨r.t,a.b,l.length,1,(S.com.length:Int)⟩ (S.com++[r.t]):=by simp only[HS.take,if_neg e1,if_neg e2,if_neg DW,if_neg e5,if_pos e6,hk,ha]
  rw[this];have:=h.ncom;exact h.endTx (.inl e6) sT ha rfl (by simp only[length_append,length_cons,length_nil];omega) fun _=>⟨rfl,by simp only[length_append,length_cons,length_nil];omega,rfl⟩
 ·have:S.take l.length r=S.endTx k ⟨r.t,a.b,l.length,2,a.n⟩ S.com:=by simp only[HS.take,if_neg e1,if_neg e2,if_neg DW,if_neg e5,if_neg e6,hk,ha]
  rw[this];have:=h.ncom;exact h.endTx (.inr af) sT ha rfl af fun q=>by cases q
theorem oc {L:List aR} (hw:∀j r,L[j]?=some r->eA (L.take j) r=0) (he:∀r ∈ L,r.es.length<=1000):∀i,i<=L.length->qV (dL L i) (L.take i)
 | 0,_=>by rw[take_zero];exact qV.start
 | i+1,hi=>by
   have ih:=oc hw he i af;obtain⟨r,hr⟩:∃r,L[i]?=some r:=⟨L[i],aj⟩;have kB:L.take (i+1)=L.take i++[r]:=by rw[take_add_one,hr];rfl
   have hl:(L.take i).length=i:=by rw[length_take];omega
   have:=ih.take (hw i r hr) (he r (mem_of_getElem? hr));rw[hl]at this;rw[kB];unfold dL;rw[hr];exact this
theorem qV.takeOk (h:qV S l) (hl:l.length<=60) (hr:eA l r=0) (he:r.es.length<=1000):kK S r:=by
 have h1:=h.ntx;have h2:=h.nmod;have h3:=h.ncom;have h4:=h.nlook
 refine⟨ru hr,fun e1=>?_,af,af,af,af,fun x=>?_⟩
 ·obtain⟨b,hb⟩:=pd hr e1
  obtain⟨kk,sT⟩:=ne_none_iff_exists'.1 (h.begun _ _ hb);obtain⟨k,a,rfl,ha,qL⟩:=h.num _ _ sT;exact⟨k,a,sT,ha,qL,by have:=h.npl k r.x;omega⟩
 ·have:=h.nobj x;omega
theorem qV.placesOk (h:qV S l) (hl:l.length<=60):pS S:=by
 have h1:=h.ntx;have h2:=h.nmod
 refine⟨fun k x j hj=>?_,af,af,fun k x=>by have:=h.npl k x;omega⟩;obtain⟨j',m,e1,e2,_⟩:=h.places k x j hj;have:=(List.getElem?_eq_some_iff.1 e2).1;omega
theorem B4 {L:List aR} (hl:L.length<=60) (he:∀r ∈ L,r.es.length<=1000) (hw:∀j r,L[j]?=some r->eA (L.take j) r=0):(∀i r,L[i]?=some r->kK (dL L i) r)/\pS (dL L L.length):=by
 refine⟨fun i r hr=>?_,?_⟩
 ·have hi:=(List.getElem?_eq_some_iff.1 hr).1
  exact(oc hw he i af).takeOk (by rw[length_take];omega) (hw i r hr) (he r (mem_of_getElem? hr))
 ·have:=oc hw he L.length (Nat.le_refl _)
  rw[take_length]at this;exact this.placesOk hl
end
end Go.Xs
namespace Go.Xs
open List Nat Option
noncomputable section
open Go.Proofs
end
end Go.Xs
namespace Go.Xs
open List Nat Option
noncomputable section
open Go.Proofs
end
end Go.Xs
namespace Go.Xs
open List Nat Option
noncomputable section
open Classical
structure sC (S:HS):Prop where
 nums:∀t k,S.num t=some k->∃(j:Nat) (a:ku),k=(j:Int)/\S.txs[j]?=some a/\a.t=t
 vers:∀x w n z,S.ver x w n=some z->∃(j:Nat) (m:fS),z=(j:Int)/\S.mods[j]?=some m
 mods:∀(j:Nat) m,S.mods[j]?=some m->S.ver m.x m.w m.n=some (j:Int)/\m.w=m.t/\1<=m.n/\∃(k:Nat) (a:ku),S.num m.t=some (k:Int)/\S.txs[k]?=some a/\a.t=m.t
 com:∀(j j':Nat) a b,S.txs[j]?=some a->S.txs[j']?=some b->a.s=1->b.s=1->j=j'\/(a.n<b.n/\a.e<b.e)\/(b.n<a.n/\b.e<a.e)
 comb:∀(j:Nat) a,S.txs[j]?=some a->a.s=1->0<=a.n/\0<=a.e/\a.e<=1000
 fin1:∀(j j':Nat) m m',S.mods[j]?=some m->S.mods[j']?=some m'->m.fin=true->m'.fin=true->m.t=m'.t->m.x=m'.x->j=j'
 nmod:S.mods.length<=60
theorem zT {L:List aR} (hl:L.length<=60) (he:∀r ∈ L,r.es.length<=1000) (hw:∀j r,L[j]?=some r->eA (L.take j) r=0):sC (jN L):=by
 have h:=oc hw he L.length (Nat.le_refl _);rw[take_length]at h;obtain⟨S,hS⟩:∃S,S=dL L L.length:=⟨_,rfl⟩;have hH:jN L=S.done L.length S.txs.length fun j=>∃k,k<S.txs.length/\dl S k j:=by rw[hS];rfl
 rw[<-hS]at h;rw[hH];have gt:∀(j:Nat) a,(xx (L.length:Int) S.txs.length S.txs)[j]?=some a->∃a0,S.txs[j]?=some a0/\a.t=a0.t/\a.s=a0.s/\a.n=a0.n/\(a.s=1->a.e=a0.e):=fun j a hj=>by
  rw[fw]at hj;cases h0:S.txs[j]? with
  | none=>rw[h0]at hj;cases hj
  | some a0 =>
    rw[h0]at hj;simp only[map_some,Option.some.injEq]at hj;subst hj;refine⟨a0,rfl,?_⟩;split
    ·rename_i e;exact⟨rfl,rfl,rfl,fun q=>by simp only at q;omega⟩
    ·exact⟨rfl,rfl,rfl,fun _=>rfl⟩
 have tg:∀(j:Nat) a0,S.txs[j]?=some a0->∃a,(xx (L.length:Int) S.txs.length S.txs)[j]?=some a/\a.t=a0.t:=fun j a0 h0=>by
  rw[fw,h0];refine⟨_,rfl,?_⟩;simp only;split<;>rfl
 obtain⟨P,hP⟩:∃P:Nat->Prop,P=fun j=>∃k,k<S.txs.length/\dl S k j:=⟨_,rfl⟩
 rw[<-hP];have gm:∀(j:Nat) m,(fJ P S.mods)[j]?=some m->∃m0,S.mods[j]?=some m0/\m = { m0 with fin:=m0.fin||decide (P j) }:=fun j m hj=>by
  rw[ie]at hj;cases h0:S.mods[j]? with
  | none=>rw[h0]at hj;cases hj
  | some m0 =>
    rw[h0]at hj;simp only[map_some,Option.some.injEq]at hj;exact⟨m0,rfl,hj.symm⟩
 have mg:∀(j:Nat) m0,S.mods[j]?=some m0->∃m,(fJ P S.mods)[j]?=some m:=fun j m0 h0=>by
  rw[ie,h0];exact⟨_,rfl⟩
 refine⟨fun t k hk=>?_,fun x w n z hz=>?_,fun j m hj=>?_,fun j j' a b hj mS ha hb=>?_,fun j a hj ha=>?_,fun j j' m m' hj mS hf Zl ht hx=>?_,?_⟩
 ·obtain⟨j,a0,e,h1,h2⟩:=h.num t k hk
  obtain⟨a,h3,h4⟩:=tg j a0 h1;exact⟨j,a,e,h3,by rw[h4];exact h2⟩
 ·obtain⟨j,m0,e,h1,_⟩:=h.vers x w n z hz
  obtain⟨m,h2⟩:=mg j m0 h1;exact⟨j,m,e,h2⟩
 ·obtain⟨m0,h1,rfl⟩:=gm j m hj
  obtain⟨k,h2,h3,h4,h5,h6,h7,h8⟩:=h.mods j m0 h1;obtain⟨k',a0,e,h9,Gf⟩:=h.num _ _ h2;obtain⟨a,RJ,uO⟩:=tg k' a0 h9;exact⟨h7,h4,h5,k',a,by rw[<-e];exact h2,RJ,by rw[uO];exact Gf⟩
 ·obtain⟨a0,h1,e1,e2,e3,e4⟩:=gt j a hj
  obtain⟨b0,u9,JS,NF,TT,e4'⟩:=gt j' b mS;have:=h.com j j' a0 b0 h1 u9 (by rw[<-e2];exact ha) (by rw[<-NF];exact hb);rw[e3,TT,e4 ha,e4' hb];exact this
 ·obtain⟨a0,h1,e1,e2,e3,e4⟩:=gt j a hj
  have:=h.comb j a0 h1 (by rw[<-e2];exact ha);have h0:=h.com0 j a0 h1 (by rw[<-e2];exact ha);rw[e3,e4 ha];omega
 ·obtain⟨m0,h1,rfl⟩:=gm j m hj
  obtain⟨m0',u9,rfl⟩:=gm j' m' mS;obtain⟨k,h2,h3,h4,h5,h6,h7,h8⟩:=h.mods j m0 h1;obtain⟨k',DY,RK,Yz,h5',h6',h7',h8'⟩:=h.mods j' m0' u9;simp only[h8,h8',Bool.false_or,decide_eq_true_eq]at hf Zl;rw[hP]at hf Zl;obtain⟨q,_,x,hq⟩:=hf;obtain⟨q',_,x',nP⟩:=Zl;obtain⟨i1,n1,f1,f2,f3,f4⟩:=h.places q x _ (mem_of_getLast? hq);obtain⟨i2,n2,g1,g2,g3,g4⟩:=h.places q' x' _ (mem_of_getLast? nP);have z1:i1=j:=af;have z2:i2=j':=af;subst z1;subst z2;rw[h1]at f2;rw[u9]at g2;cases f2;cases g2;have zp:m0.t=m0'.t:=ht;have Gt:m0.x=m0'.x:=hx;rw[zp,g4]at f4;have eq:q'=q:=by
   simp only[Option.some.injEq]at f4;omega
  rw[<-f3,Gt,g3,<-eq,nP]at hq;simp only[Option.some.injEq]at hq;omega
 ·have:=h.nmod
  show (fJ P S.mods).length<=60;rw[im];omega
end
end Go.Xs
namespace Go.Xs
open List Nat Option
variable{S:HS}{j:Nat}
noncomputable section
structure Je (l:List bO):Prop where
 up:l.Pairwise fun a b=>a.wr<b.wr/\a.en<b.en/\¬ (a.w=b.w/\a.n=b.n)
 born:∀e ∈ l,1<=e.n/\0<=e.en/\e.en<=1000
theorem Je.lt {l:List bO} (h:Je l) {i:Nat} {a b:bO} (hi:l[i]?=some a) (hj:l[j]?=some b) (eS:i<j):a.wr<b.wr/\a.en<b.en/\¬ (a.w=b.w/\a.n=b.n):=by
 obtain⟨h1,e1⟩:=List.getElem?_eq_some_iff.1 hi;obtain⟨h2,e2⟩:=List.getElem?_eq_some_iff.1 hj;have:=(pairwise_iff_getElem.1 h.up) i j h1 h2 eS;rw[e1,e2]at this;exact this
theorem SO {α:Type} {q:α->Bool}:∀{l:List α} {k i:Nat} {e:α},l[k]?=some e->q e=true->(∀j a,j<k->l[j]?=some a->q a=false)->eN q l i=((i+k:Nat):Int)
 | [],k,i,e,h,_,_=>by simp at h
 | a::l,0,i,e,h,hq,_=>by
   simp only[getElem?_cons_zero,Option.some.injEq]at h;subst h;exact if_pos hq
 | a::l,k+1,i,e,h,hq,hn=>by
   simp only[getElem?_cons_succ]at h;have h0:q a=false:=hn 0 a af rfl;have h1:eN q (a::l) i=eN q l (i+1):=if_neg (by rw[h0];simp);rw[h1,SO h hq fun j b hj hb=>hn (j+1) b af (by simpa using hb)];congr 1;omega
theorem Je.place {l:List bO} (h:Je l) {k:Nat} {e:bO} (he:l[k]?=some e):ba l e.w e.n=(((k+1:Nat):Int),true):=by
 have hn:=(h.born e (mem_of_getElem? he)).1;have hi:eN (gi e.w e.n) l 0=(k:Int):=by
  rw[SO he (by simp[gi]) fun j a hj ha=>?_]
  ·congr 1;omega
  ·have:=(h.lt ha he hj).2.2
   simp only[gi,Bool.and_eq_false_iff,decide_eq_false_iff_not];by_cases q:a.w=e.w
   ·right;exact fun q'=>this ⟨q,q'⟩
   ·exact .inl q
 unfold ba;rw[if_neg am,hi];have:decide (0<=(k:Int))=true:=aj;rw[this];simp
theorem sC.txR (h:sC S) {m:fS} (hj:S.mods[j]?=some m):∃(k:Nat) (a:ku),S.num m.t=some (k:Int)/\S.txs[k]?=some a/\Xs.txR S m.t=(a,true):=by
 obtain⟨h1,h2,h3,k,a,h4,h5,h6⟩:=h.mods j m hj;refine⟨k,a,h4,h5,?_⟩;unfold Xs.txR Ho;rw[h4];have:((k:Int)).toNat=k:=af;simp only[this,h5]
theorem DC {x:Int} {e:bO} (he:e ∈ dk S S.mods x):∃(j:Nat) (m:fS),S.mods[j]?=some m/\m.x=x/\mL S m=true/\e=gf S m:=by
 unfold dk at he;obtain⟨m,hm,rfl⟩:=mem_map.1 he;rw[mem_filter]at hm;obtain⟨hm,hc⟩:=hm;rw[Bool.and_eq_true,decide_eq_true_eq]at hc;obtain⟨j,hj⟩:=getElem?_of_mem hm;exact⟨j,m,hj,hc.1,hc.2,rfl⟩
theorem sC.apart (h:sC S) {j':Nat} {m m':fS} (hj:S.mods[j]?=some m) (mS:S.mods[j']?=some m') (hx:m.x=m'.x) (hc:mL S m=true) (jY:mL S m'=true) :
 j=j'\/((gf S m).wr<(gf S m').wr/\(gf S m).en<(gf S m').en)\/((gf S m').wr<(gf S m).wr/\(gf S m').en<(gf S m).en):=by
 obtain⟨k,a,h1,h2,h3⟩:=h.txR hj;obtain⟨k',a',u9,DY,RK⟩:=h.txR mS;unfold mL at hc jY;rw[Bool.and_eq_true,decide_eq_true_eq]at hc jY;rw[h3]at hc;rw[RK]at jY;simp only[gf,h3,RK];rcases h.com k k' a a' h2 DY hc.2 jY.2 with e | e | e
 ·left
  subst e;rw[h2]at DY;cases DY;have ht:m.t=m'.t:=by
   obtain⟨_,_,_,q,b,g1,g2,g3⟩:=h.mods j m hj;obtain⟨_,_,_,q',b',DX,RH,RI⟩:=h.mods j' m' mS;rw[h1]at g1;rw[u9]at DX;have e1:q=k:=by simp only[Option.some.injEq]at g1;omega
   have e2:q'=k:=by simp only[Option.some.injEq]at DX;omega
   subst e1;rw[e2,g2]at RH;cases RH;rw[<-g3,<-RI]
  exact h.fin1 j j' m m' hj mS hc.1 jY.1 ht hx
 ·exact .inr (.inl e)
 ·exact .inr (.inr e)
theorem Fm (h:sC S) (x:Int):(dk S S.mods x).Pairwise fun a b=>a.wr≠b.wr:=by
 unfold dk;rw[pairwise_map,pairwise_filter,pairwise_iff_getElem];intro i j hi hj eS h1 h2;rw[Bool.and_eq_true,decide_eq_true_eq]at h1 h2;have:=h.apart (j:=i) (j':=j) (m:=S.mods[i]) (m':=S.mods[j]) aj aj (by rw[h1.1,h2.1]) h1.2 h2.2;omega
theorem P6 (h:sC S) {x:Int} {l:List bO} (hp:l.Perm (dk S S.mods x)) (hs:l.Pairwise fun a b=>a.wr<=b.wr):Je l:=by
 have pB:∀e ∈ l,∃(j:Nat) (m:fS),S.mods[j]?=some m/\m.x=x/\mL S m=true/\e=gf S m:=fun e he=>DC (hp.mem_iff.1 he)
 have cf:l.Pairwise fun a b=>a.wr≠b.wr:=(hp.pairwise_iff (fun h=>Ne.symm h)).2 (Fm h x)
 refine⟨?_,fun e he=>?_⟩
 ·have:=hs.and cf
  refine Pairwise.imp_of_mem ?_ this;rintro a b ha hb ⟨h1,h2⟩;obtain⟨j,m,e1,e2,e3,rfl⟩:=pB a ha;obtain⟨j',m',JS,NF,TT,rfl⟩:=pB b hb;rcases h.apart e1 JS (by rw[e2,NF]) e3 TT with q | q | q
  ·subst q
   rw[e1]at JS;cases JS;exact(h2 rfl).elim
  ·refine⟨q.1,q.2,fun hv=>?_⟩
   have v1:=(h.mods j m e1).1;have v2:=(h.mods j' m' JS).1;have oP:m.w=m'.w/\m.n=m'.n:=hv;rw[e2,oP.1,oP.2]at v1;rw[NF,v1]at v2;simp only[Option.some.injEq]at v2;have:j=j':=af;subst this;rw[e1]at JS;cases JS;exact h2 rfl
  ·omega
 ·obtain⟨j,m,e1,e2,e3,rfl⟩:=pB e he
  obtain⟨v1,v2,v3,_⟩:=h.mods j m e1;obtain⟨k,a,h1,h2,h3⟩:=h.txR e1;unfold mL at e3;rw[Bool.and_eq_true,decide_eq_true_eq,h3]at e3;have:=h.comb k a h2 e3.2;simp only[gf,h3];exact⟨v3,af,af⟩
end
end Go.Xs
namespace Go.Xs
open List Nat Option
variable{S:HS}
noncomputable section
theorem Na:∀{l m:List Int},l.Nodup->(∀x ∈ l,x ∈ m)->l.length<=m.length
 | [],m,_,_=>aj
 | a::l,m,hn,hs=>by
   rw[nodup_cons]at hn;have ha:=hs a (mem_cons_self ..);have:=Na (l:=l) (m:=m.erase a) hn.2 fun x hx=>by
    have cf:x≠a:=fun e=>hn.1 (e ▸ hx)
    exact(mem_erase_of_ne cf).2 (hs x (mem_cons_of_mem _ hx))
   have hl:=length_erase_of_mem ha;have:0<m.length:=length_pos_of_mem ha;rw[length_cons];omega
structure ObB (S:HS) (i:Nat):Prop where
 obj:∀x,(S.obj x).isSome=true->x ∈ S.looks.map (·.x)++S.mods.map (·.x)
 looks:S.looks.length<=60*i
 mods:S.mods.length<=i
theorem BG {a:my} (h:∀x,(S.obj x).isSome=true->x ∈ S.looks.map (·.x)++S.mods.map (·.x)):∀x,((S.look a).obj x).isSome=true->x ∈ (S.look a).looks.map (·.x)++(S.look a).mods.map (·.x):=fun x hx=>by
 simp only[HS.look]at hx ⊢;split at hx
 ·rename_i e;subst e;simp
 ·have:=h x hx
  simp only[map_append,mem_append,mem_map]at this ⊢;rcases this with q | q
  ·exact .inl (.inl q)
  ·exact .inr q
theorem yT {S:HS} {i:Int} {r:aR} (h:∀x,(S.obj x).isSome=true->x ∈ S.looks.map (·.x)++S.mods.map (·.x)):∀n,(∀x,((S.preds i r n).obj x).isSome=true->x ∈ (S.preds i r n).looks.map (·.x)++(S.preds i r n).mods.map (·.x))/\(S.preds i r n).looks.length<=S.looks.length+n/\(S.preds i r n).mods=S.mods
 | 0=>⟨h,by simp[HS.preds],rfl⟩
 | n+1=>by
   obtain⟨h1,h2,h3⟩:=yT h n;unfold HS.preds;split
   ·exact⟨BG h1,by simp only[HS.look,length_append,length_cons,length_nil];omega,h3⟩
   ·exact⟨h1,af,h3⟩
theorem No {i:Nat} {r:aR} (h:ObB S i) (he:r.es.length<=60):ObB (S.take i r) (i+1):=by
 obtain⟨h1,h2,h3⟩:=h;unfold HS.take;split
 ·exact⟨h1,by simp only[HS.begin];omega,by simp only[HS.begin];omega⟩
 split
 ·exact⟨BG h1,by simp only[HS.look,length_append,length_cons,length_nil];omega,by simp only[HS.look];omega⟩
 split
 ·refine⟨fun x hx=>?_,by simp only[HS.modify];omega,by simp only[HS.modify,length_append,length_cons,length_nil];omega⟩
  simp only[HS.modify]at hx ⊢;split at hx
  ·rename_i e;subst e;simp
  ·have:=h1 x hx
   simp only[map_append,mem_append]at this ⊢;rcases this with q | q
   ·exact .inl q
   ·exact .inr (.inl q)
 split
 ·obtain⟨g1,g2,g3⟩:=yT (S:=S) (i:=i) (r:=r) h1 r.es.length
  exact⟨g1,af,by rw[g3];omega⟩
 split
 ·split
  ·exact⟨h1,by simp only[HS.endTx];omega,by simp only[HS.endTx];omega⟩
  ·exact⟨h1,af,af⟩
 ·split
  ·exact⟨h1,by simp only[HS.endTx];omega,by simp only[HS.endTx];omega⟩
  ·exact⟨h1,af,af⟩
theorem ww {L:List aR} (he:∀r ∈ L,r.es.length<=60):∀i,i<=L.length->ObB (dL L i) i
 | 0,_=>⟨fun x hx=>by simp[dL,vF]at hx,by simp[dL,vF],by simp[dL,vF]⟩
 | i+1,hi=>by
   have ih:=ww he i af;obtain⟨r,hr⟩:∃r,L[i]?=some r:=⟨L[i]' af,getElem?_eq_getElem _⟩;unfold dL;rw[hr];exact No ih (he r (mem_of_getElem? hr))
def hV (S:HS) (x:Int):List bO:=open Classical in if h:∃l:List bO,l.Perm (dk S S.mods x)/\l.Pairwise (fun a b=>a.wr<=b.wr) then Classical.choose h else []
def lF (S:HS):List Int:=open Classical in if h:∃ys,Fj S ys then Classical.choose h else []
theorem Ii:∀{l m:List bO},l.Pairwise (fun a b=>a.wr<b.wr)->m.Pairwise (fun a b=>a.wr<b.wr)->(∀e,e ∈ l ↔ e ∈ m)->l=m
 | [],[],_,_,_=>rfl
 | [],b::m,_,_,h=>by have:=(h b).2 (mem_cons_self ..);cases this
 | a::l,[],_,_,h=>by have:=(h a).1 (mem_cons_self ..);cases this
 | a::l,b::m,h1,h2,h=>by
   rw[pairwise_cons]at h1 h2;have qJ:a=b:=by
    rcases mem_cons.1 ((h a).1 (mem_cons_self ..)) with e | e
    ·exact e
    ·rcases mem_cons.1 ((h b).2 (mem_cons_self ..)) with e' | e'
     ·exact e'.symm
     ·have:=h1.1 b e';have:=h2.1 a e;omega
   subst qJ;rw[Ii h1.2 h2.2 fun e=>⟨fun he=>?_,fun he=>?_⟩]
   ·rcases mem_cons.1 ((h e).1 (mem_cons_of_mem _ he)) with e' | e'
    ·subst e';have:=h1.1 e he;omega
    ·exact e'
   ·rcases mem_cons.1 ((h e).2 (mem_cons_of_mem _ he)) with e' | e'
    ·subst e';have:=h2.1 e he;omega
    ·exact e'
theorem M_ (h:sC S) {x:Int} {l m:List bO} (h1:l.Perm (dk S S.mods x)) (h2:l.Pairwise fun a b=>a.wr<=b.wr) (h3:m.Perm (dk S S.mods x)) (h4:m.Pairwise fun a b=>a.wr<=b.wr):l=m :=
 Ii ((P6 h h1 h2).up.imp fun h=>h.1) ((P6 h h3 h4).up.imp fun h=>h.1) fun e=>by rw[h1.mem_iff,h3.mem_iff]
theorem Po (h:sC S) {x:Int} {l:List bO} (h1:l.Perm (dk S S.mods x)) (h2:l.Pairwise fun a b=>a.wr<=b.wr):l=hV S x:=by
 have hx:∃l:List bO,l.Perm (dk S S.mods x)/\l.Pairwise (fun a b=>a.wr<=b.wr):=⟨l,h1,h2⟩;unfold hV;rw[dif_pos hx];exact M_ h h1 h2 (Classical.choose_spec hx).1 (Classical.choose_spec hx).2
theorem IT:∀{l m:List Int},l.Pairwise (· < ·)->m.Pairwise (· < ·)->(∀e,e ∈ l ↔ e ∈ m)->l=m
 | [],[],_,_,_=>rfl
 | [],b::m,_,_,h=>by have:=(h b).2 (mem_cons_self ..);cases this
 | a::l,[],_,_,h=>by have:=(h a).1 (mem_cons_self ..);cases this
 | a::l,b::m,h1,h2,h=>by
   rw[pairwise_cons]at h1 h2;have qJ:a=b:=by
    rcases mem_cons.1 ((h a).1 (mem_cons_self ..)) with e | e
    ·exact e
    ·rcases mem_cons.1 ((h b).2 (mem_cons_self ..)) with e' | e'
     ·exact e'.symm
     ·have:=h1.1 b e';have:=h2.1 a e;omega
   subst qJ;rw[IT h1.2 h2.2 fun e=>⟨fun he=>?_,fun he=>?_⟩]
   ·rcases mem_cons.1 ((h e).1 (mem_cons_of_mem _ he)) with e' | e'
    ·subst e';have:=h1.1 e he;omega
    ·exact e'
   ·rcases mem_cons.1 ((h e).2 (mem_cons_of_mem _ he)) with e' | e'
    ·subst e';have:=h2.1 e he;omega
    ·exact e'
theorem TZ {ys:List Int} (h:Fj S ys):ys=lF S:=by
 have hx:∃ys,Fj S ys:=⟨ys,h⟩;unfold lF;rw[dif_pos hx];have h2:=Classical.choose_spec hx;exact IT h.1 h2.1 fun e=>by rw[h.2,h2.2]
theorem SE (S:HS) (x:Int):(dk S S.mods x).length<=S.mods.length:=by
 unfold dk;rw[length_map];exact length_filter_le _ _
theorem Mn (S:HS) (x:Int):(hV S x).length<=S.mods.length:=by
 unfold hV;split
 ·rename_i h
  rw[(Classical.choose_spec h).1.length_eq];exact SE S x
 ·simp
structure Ga (L:List aR):Prop where
 len:L.length<=60
 es:∀r ∈ L,r.es.length<=60
 exs:∀r ∈ L,dV r.p<=60
 pos:∀r ∈ L,gI r.p
theorem Mp {L:List aR} (hf:Ga L) (hw:∀j r,L[j]?=some r->eA (L.take j) r=0) {M N:Hp} {nx lo h:Nat} {cr:List XV} (hF:HF M nx N lo h ((jN L).wr L.length cr))
 (hR:∀j r,L[j]?=some r->eL M (iJ nx N) r ((cr.drop (j*11)).take 11)):tw M nx h ((jN L).wr L.length cr) L (hV (jN L)) (lF (jN L)):=by
 have he:∀r ∈ L,r.es.length<=1000:=fun r hr=>by have:=hf.es r hr;omega
 have vW:=zT hf.len he hw;have VM:=ww hf.es L.length (Nat.le_refl _);have MD:((jN L).wr L.length cr).looks=(dL L L.length).looks:=rfl;have JF:((jN L).wr L.length cr).mods.length=(dL L L.length).mods.length:=by
  show (fJ _ _).length=_;rw[im]
 obtain⟨hi,h1,h2⟩:=hF.hist;refine { hist:=⟨lo,hi,h2,h1⟩,n:=rfl,recs:=fun j r hr=>(hR j r hr).lt fun k hk=>hk.1,few:=by have:=hf.len;omega,fewr:=fun r hr=>by have:=hf.es r hr;have:=hf.exs r hr;omega,fewk:=?_,fewo:=fun l hn hx=>?_,nums:=fun t k hk=>?_,vers:=vW.vers,fewm:=?_,exs:=fun r hr _=>⟨by have:=hf.exs r hr;omega,hf.pos r hr⟩,pos:=fun x e hx=>?_,row:=fun x l h1 h2=>Po vW h1 h2,rowl:=fun x=>?_,objs:=fun ys h=>TZ h }
 ·have:=VM.looks;have:=hf.len;rw[MD];omega
 ·have:=Na hn fun x hxl=>VM.obj x (hx x hxl)
  rw[length_append,length_map,length_map]at this;have:=VM.looks;have:=VM.mods;have:=hf.len
  omega
 ·obtain⟨j,a,e1,e2,_⟩:=vW.nums t k hk
  exact⟨j,a,e1,e2⟩
 ·have:=VM.mods;have:=hf.len;omega
 ·obtain⟨j,m,e1,_,_,rfl⟩:=DC hx
  exact(vW.mods j m e1).2.2.1
 ·have:=Mn (jN L) x;have:=vW.nmod;omega
end
end Go.Xs
namespace Go.Xs
open List Nat Option
noncomputable section
theorem T3:∀j r,iY[j]?=some r->eA (iY.take j) r=0:=by
 have h:((List.range 10).all fun j=>match iY[j]? with | some r=>decide (eA (iY.take j) r=0) | none=>true)=true:=U;intro j r hj;have hl:j<10:=by have:=(List.getElem?_eq_some_iff.1 hj).1;exact this
 rw[List.all_eq_true]at h;have:=h j (mem_range.2 hl);rw[hj]at this;simpa using this
theorem Gb:Ga iY:=by
 refine⟨ak,?_,?_,?_⟩
 ·have h:(iY.all fun r=>decide (r.es.length<=60))=true:=U
  simpa using h
 ·have h:(iY.all fun r=>decide (dV r.p<=60))=true:=U
  simpa using h
 ·intro r hr
  simp only[iY,QN,map_cons,map_nil,mem_cons,not_mem_nil,or_false]at hr;rcases hr with rfl | rfl | rfl | rfl | rfl | rfl | rfl | rfl | rfl | rfl<;>simp[PH,gI,o_]
theorem N7:sC (jN iY):=zT ak (fun r hr=>by have:=Gb.es r hr;omega) T3
theorem I1:(jN iY).mods=[⟨1,1,5,1,1,7,false,true⟩,⟨6,3,5,3,1,0,true,true⟩,⟨7,3,6,3,1,1,false,true⟩]:=by
 have h0:(dL iY iY.length).mods=[⟨1,1,5,1,1,7,false,false⟩,⟨6,3,5,3,1,0,true,false⟩,⟨7,3,6,3,1,1,false,false⟩]:=U;have h1:(dL iY iY.length).txs.length=3:=U;have p:∀j:Nat,j<3->∃k,k<(dL iY iY.length).txs.length/\dl (dL iY iY.length) k j:=by
  rw[h1];intro j hj
  match j,hj with
  | 0,_=>exact⟨0,ak,5,U⟩
  | 1,_=>exact⟨2,ak,5,U⟩
  | 2,_=>exact⟨2,ak,6,U⟩
 unfold jN HS.done;simp only;rw[h0];simp only[fJ,List.mapIdx_cons,List.mapIdx_nil,Bool.false_or,Nat.zero_add,Nat.reduceAdd];simp only[eq_true (p 0 ak),eq_true (p 1 ak),eq_true (p 2 ak),decide_true]
theorem SK:hV (jN iY) 5=[⟨1,1,0,2⟩,⟨3,1,1,8⟩]:=by
 refine(Po N7 ?_ aj).symm;rw[I1];have:dk (jN iY) [⟨1,1,5,1,1,7,false,true⟩,⟨6,3,5,3,1,0,true,true⟩,⟨7,3,6,3,1,1,false,true⟩] 5=[⟨1,1,0,2⟩,⟨3,1,1,8⟩]:=U;rw[this]
theorem SC:hV (jN iY) 6=[⟨3,1,1,8⟩]:=by
 refine(Po N7 ?_ aj).symm;rw[I1];have:dk (jN iY) [⟨1,1,5,1,1,7,false,true⟩,⟨6,3,5,3,1,0,true,true⟩,⟨7,3,6,3,1,1,false,true⟩] 6=[⟨3,1,1,8⟩]:=U;rw[this]
theorem Vs:lF (jN iY)=[5,6]:=by
 refine(TZ ⟨aj,fun x=>⟨fun hx=>?_,fun hx=>?_⟩⟩).symm
 ·simp only[mem_cons,not_mem_nil,or_false]at hx
  rcases hx with rfl | rfl<;>kernel_rfl
 ·have:=(ww Gb.es iY.length (Nat.le_refl _)).obj x hx
  rw[show (dL iY iY.length).looks.map (·.x)++(dL iY iY.length).mods.map (·.x)=[5,5,5,6] by kernel_rfl]at this;simp only[mem_cons,not_mem_nil,or_false]at this ⊢;omega
theorem ji {l:List my} {p t x:Int}:(fD l p t x).x=x:=by
 unfold fD;split
 ·rename_i k hk
  have:=List.find?_some hk;simpa using this
 ·rfl
theorem Kv {S:HS} {Y:List Int} {R R':Int->List bO} (h:∀x ∈ Y,R x=R' x) (j:Nat) (r:aR):iS S Y R j r=iS S Y R' j r:=by
 unfold iS;split
 ·rw[List.flatMap_map,List.flatMap_map]
  induction Y with
  | nil=>rfl
  | cons y Y ih =>
    rw[flatMap_cons,flatMap_cons,ih fun x hx=>h x (mem_cons_of_mem _ hx)];unfold Gd;rw[ji,h y (mem_cons_self ..)]
 ·rfl
theorem rF {f g:Nat->aR->List aF} (h:∀j r,f j r=g j r) (ask:Int->Bool):∀(L:List aR) (j:Nat),ex f ask j L=ex g ask j L
 | [],_=>rfl
 | r::L,j=>by rw[ex,ex,h,rF h ask L]
def Y_:List aF:=[⟨0,2,4,5,1,1,1,1,4⟩,⟨2,1,5,5,1,1,3,1,4⟩,⟨2,1,5,6,0,0,3,1,4⟩]
theorem ws_T (cr:List XV):ex (iS ((jN iY).wr iY.length cr) (lF (jN iY)) (hV (jN iY))) (fun _=>true) 0 iY=Y_:=by
 rw[Vs,rF (Kv (R':=fun x=>if x=5 then [⟨1,1,0,2⟩,⟨3,1,1,8⟩] else [⟨3,1,1,8⟩]) fun x hx=>?_)]
 ·kernel_rfl
 ·simp only[mem_cons,not_mem_nil,or_false]at hx
  rcases hx with rfl | rfl
  ·rw[SK];rfl
  ·rw[SC];rfl
theorem CV {a b:aF} (h1:CZ a b=false) (h2:CZ b a=false):a=b:=by
 unfold CZ at h1 h2;have:=Ct (l:=qH a) (m:=qH b) rfl h1 h2;exact Nl this
theorem xE {l m:List aF} (h:l.Perm m) (h1:l.Pairwise fun a b=>CZ b a=false) (h2:m.Pairwise fun a b=>CZ b a=false):l=m :=
 List.Perm.eq_of_pairwise (fun a b _ _ h3 h4=>CV h4 h3) h1 h2 h
end
end Go.Xs
namespace Go.Xs
open List Nat Option
noncomputable section
open Go.RowKit
def C0:List XV->Option (List (List Nat))
 | []=>some []
 | .str s::vs=>match C0 vs with | some l=>some (s::l) | none=>none
 | _=>none
def Ak (sep:List Nat):List (List Nat)->List Nat
 | []=>[]
 | x::xs=>sep++(x++Ak sep xs)
def Dc (sep:List Nat):List (List Nat)->List Nat
 | []=>[]
 | x::xs=>x++Ak sep xs
def uG (f:Nat):Bw:=fun g args M=>match Nat.beq g f,args with
 | true,[.sl n 1 off len cap,.str sep]=>match bA M n with
   | some cs=>match Nat.ble 1 len,Nat.ble len fE,Nat.ble (off+len) cs.length,C0 ((cs.drop off).take len) with
     | true,true,true,some xs=>match Nat.ble (Dc sep xs).length fE with
       | true=>some (.str (Dc sep xs))
       | false=>none
     | _,_,_,_=>none
   | none=>none
 | _,_=>none
abbrev LU (l:List UInt8):List Nat:=l.map fun b=>b.toNat
theorem yu (sep:List UInt8):∀(xs:List (List UInt8)),Ak (LU sep) (xs.map LU)=LU (Lib.joinTail sep xs)
 | []=>rfl
 | x::xs=>by
   simp only[map_cons,Ak,yu sep xs];simp[Lib.joinTail,LU]
theorem Oy (sep:List UInt8) (xs:List (List UInt8)):Dc (LU sep) (xs.map LU)=LU (Lib.join xs sep):=by
 cases xs with
 | nil=>rfl
 | cons x xs =>
   rw[map_cons,Dc,yu,Lib.join_cons];simp[LU]
theorem Ce {ρ:aK} {σ:cb}:∀{cs:List XV} {xs:List (List Nat)} {us:List Value},C0 cs=some xs->ce ρ σ cs us->∃ts:List ByteArray,us=ts.map .string/\ts.map (fun t=>LU t.data.toList)=xs
 | [],xs,us,h,hv=>by
   simp only[C0,Option.some.injEq]at h;subst h;simp only[ce]at hv;exact⟨[],hv,rfl⟩
 | c::cs,xs,us,h,hv=>by
   unfold C0 at h;split at h<;>(try (cases h;done))
   ·rename_i e;cases e
   ·rename_i s vs e
    cases e;split at h<;>(try (cases h;done))
    rename_i l hl;cases h;simp only[ce,VR]at hv;obtain⟨u,us',rfl,⟨t,rfl,ht⟩,hv⟩:=hv;obtain⟨ts,e1,e2⟩:=Ce hl hv;exact⟨t::ts,by rw[e1];rfl,by rw[map_cons,e2,<-ht]⟩
theorem FS {P:Program} {ρ:aK} {f:Nat} {fn:Func} (h1:P.funcs[f]?=some fn) (h2:(fn.name == "runtime.NumGoroutine")=false) (h3:fn.body.isNone=false)
 (hJ:∀(bk o c:Nat) (xs:List ByteArray) (sep:ByteArray) (w:World),(∀(j:Nat) x,xs[j]?=some x->w.cell? ⟨bk,o+j,none⟩=some (.string x))->bk<w.heap.size->xs.length<=140737488355328->xs.length<=c ->
   (Lib.join (xs.map (·.data.toList)) sep.data.toList).length<=140737488355328 ->
   Calls P f #[.slice (some ⟨bk,o,none⟩) xs.length c,.string sep] w fun e w'=>e = .returned (.string ⟨(Lib.join (xs.map (·.data.toList)) sep.data.toList).toArray⟩)/\Below w.heap.size w w'):Dt P ρ (uG f):=by
 intro g args M v hv w σ vs aQ CR o a K Q hK;unfold uG at hv;split at hv<;>(try (cases hv;done))
 rename_i n off len cap sep hg;split at hv<;>(try (cases hv;done))
 rename_i cs dI;split at hv<;>(try (cases hv;done))
 rename_i xs ay NW sU Wm;split at hv<;>(try (cases hv;done))
 rename_i Jr;cases hv;have:=eq_of_beq_eq_true hg;subst this;have ay:=le_of_ble_eq_true ay;have sU:=le_of_ble_eq_true sU;have Jr:=le_of_ble_eq_true Jr;unfold fE at Jr;simp only[ce,VR]at CR;obtain⟨u1,us1,rfl,⟨b,room,cap',off',hσ,rfl,q1,q2,q3,q4⟩,u2,UJ,rfl,⟨tsep,rfl,hsep⟩,rfl⟩:=CR;have q3:off'=(⟨b,off,none⟩:Addr):=by
  rcases q3 with q | q
  ·exact q
  ·omega
 subst q3;obtain⟨b',room',us,t,fz,hm,lJ,hh,cJ,cF,hfz,US⟩:=sZ aQ dI;rw[hσ]at lJ;cases lJ;obtain⟨ws,g1,g2,g3⟩:=nR hh US off len sU;obtain⟨ts,e1,e2⟩:=Ce Wm g1;have htl:ts.length=len:=by rw[<-g2,e1,length_map]
 have NW:=le_of_ble_eq_true NW;unfold fE at NW;have hj:=Oy tsep.data.toList (ts.map (·.data.toList));have e3:(ts.map (·.data.toList)).map LU=xs:=by rw[<-e2,List.map_map];rfl
 have yY:Dc sep xs=LU (Lib.join (ts.map (·.data.toList)) tsep.data.toList):=by rw[<-e3,<-hj,<-hsep]
 have hc:=hJ b off cap' ts tsep w (fun j x hx=>g3 j _ (by rw[e1,getElem?_map,hx];rfl)) (Array.getElem?_eq_some_iff.1 hh).1 af af (by
  rw[yY]at Jr;simp only[LU,length_map]at Jr;omega)
 rw[htl]at hc;refine Bp aQ h1 h2 h3 hc ?_ hK;simp only[VR];exact⟨_,rfl,by rw[yY]⟩
end
end Go.Xs
namespace Go.Xs
open List Nat Option
noncomputable section
open Go.Proofs Go.RowKit
def Wf5 (L:List aR):Prop:=∀j r,L[j]?=some r->eA (L.take j) r=0
structure NewR (L:List aR) (M:Hp) (nx:Nat) (o:ew):Prop where
 post:(¬ Wf5 L/\∃n rl:Int,rl≠0/\o.1 = .tup [.nilp,.int .i64 n,.int .i64 rl])\/(Wf5 L/\∃h cr,o.1 = .tup [.mp h 0,.int .i64 L.length,.int .i64 0]/\tw o.2.1 o.2.2 h ((jN L).wr L.length cr) L (hV (jN L)) (lF (jN L)))
 agr:aq nx M o.2.1
 le:nx<=o.2.2
theorem N9 (hS:kL) (hN:kJ) (ρ:aK) (j9:ρ.det=false) {M:Hp} {nx b:Nat} {v:XV} {L:List aR} (hL:cP M b v L) (hb:b<=nx) (hf:Ga L):ar ao ρ 9 [v] M nx (NewR L M nx):=by
 have he:∀r ∈ L,r.es.length<=1000:=fun r hr=>by have:=hf.es r hr;omega
 have hl:=hf.len;refine(f9 hS hN ρ j9 hL hb af (fun r hr=>⟨⟨by have:=hf.exs r hr;omega,hf.pos r hr⟩,he r hr⟩) fun Gs=>B4 hl he Gs).mono fun o ⟨n,rl,⟨c1,c2⟩,jT,hp⟩=>?_
 rcases hp with ⟨je,ho,ha⟩ | ⟨je,h,N,cr,ho,hF,ha,hR⟩
 ·refine⟨.inl ⟨fun hw=>?_,n,rl,je,ho⟩,ha,jT⟩
  rcases c2 with ⟨_,e⟩ | ⟨r,h1,h2,h3⟩
  ·exact je e
  ·exact h3 (by rw[<-h2];exact hw n r h1)
 ·have hn:n=L.length:=by
   rcases c2 with ⟨e,_⟩ | ⟨r,h1,h2,h3⟩
   ·exact e
   ·exact(h3 je).elim
  have hw:Wf5 L:=fun j r hj=>c1 j r (by rw[hn];exact(List.getElem?_eq_some_iff.1 hj).1) hj
  subst hn;exact⟨.inr ⟨hw,h,cr,ho,Mp hf hw hF hR⟩,ha,jT⟩
def oD:Prop:=∀ρ,Dt ao ρ (uG 58)
def FQ (e:aF):Option (List ew):=Ty ao (fun _ _ _=>none) (fun g args M=>match KD 294 372 g args M with | some v=>some v | none=>uG 58 g args M) 100000 60 26 [.agg (aM e)] .nil 0
theorem vN (hJ:oD) (ρ:aK) {e:aF} {s:List Nat} (h1:(Pl (FQ e)).isSome=true) (h2:(nl (FQ e)).1 = .str s) (M:Hp) (nx:Nat):ar ao ρ 26 [.agg (aM e)] M nx (fe nx M (.str s)):=by
 have h0:ft ao ρ 26 [.agg (aM e)] .nil 0 fun x=>x=nl (FQ e):=ft.run (LH (ρ:=ρ) follows (mV names) (fun _ _ _ _ _ h=>by cases h) (Dt.or (I2 ρ) (hJ ρ)) (fuel:=100000) 60) (Jf h1)
 rw[show nl (FQ e)=((nl (FQ e)).1,(nl (FQ e)).2.1,(nl (FQ e)).2.2) from rfl,h2]at h0;refine(ar.shift (fun σ vs hv=>by simpa only [aM,ce,VR] using hv) h0 [] M nx).mono fun r ⟨q1,q2,q3,_⟩=>⟨q1,q3,af⟩
theorem W8 (hJ:oD) (ρ:aK) (M:Hp) (nx:Nat):ar ao ρ 26 [.agg (aM ⟨0,2,4,5,1,1,1,1,4⟩)] M nx (fe nx M (.str [48,32,112,119,114,32,50,32,53,32,49,46,49,32,49,46,49,32,52])):=vN hJ ρ U U M nx
theorem W4 (hJ:oD) (ρ:aK) (M:Hp) (nx:Nat):ar ao ρ 26 [.agg (aM ⟨2,1,5,5,1,1,3,1,4⟩)] M nx (fe nx M (.str [50,32,112,114,119,32,49,32,53,32,49,46,49,32,51,46,49,32,52])):=vN hJ ρ U U M nx
theorem WE (hJ:oD) (ρ:aK) (M:Hp) (nx:Nat):ar ao ρ 26 [.agg (aM ⟨2,1,5,6,0,0,3,1,4⟩)] M nx (fe nx M (.str [50,32,112,114,119,32,49,32,54,32,48,46,48,32,51,46,49,32,52])):=vN hJ ρ U U M nx
theorem f8 (hS:kL) (hN:kJ) (hI:Ci) (hE:qi) (hJ:oD) (ρ:aK) (j9:ρ.det=false) (M:Hp) (nx:Nat):ar ao ρ 8 [] M nx fun r=>r.1 = .bool true/\aq nx M r.2.1/\nx<=r.2.2:=by
 refine ar.wk 39 [.tmp 0] Tryz.func8 ?_;refine bR wH ?_;generalize xu:aG M (nx+1) _=M1;have a1:aq nx M M1:=by rw[<-xu];exact O
 have z1:gG M1 (nx+1)=some (.row (QN.map fun p=>.str p.1)):=by rw[<-xu,aB,if_pos rfl];rfl
 clear xu;refine gQ (Rp hS hN ρ j9 (show nx+1<nx+2 by omega) z1 (Q:=fun o=>∃h cr,o.1 = .mp h 0/\tw o.2.1 o.2.2 h ((jN iY).wr iY.length cr) iY (hV (jN iY)) (lF (jN iY))) fun M' n' v ha hn gS=>(N9 hS hN ρ j9 gS (Nat.le_refl _) Gb).mono fun o ⟨hp,h2,h3⟩=>?_) ?_
 ·rcases hp with ⟨hw,_⟩ | ⟨_,h,cr,ho,Q4⟩
  ·exact(hw T3).elim
  ·exact⟨h,ho,h2,h3,fun N n2 hN fq=>⟨h,cr,rfl,Q4.agr hN fq⟩⟩
 rintro⟨u,M2,n2⟩ ⟨⟨h,cr,g1,g2⟩,g3,g4⟩;simp only at g1 g2 g3 g4;subst g1;have a2:aq nx M M2:=a1.trans (g3.le af);clear a1 z1 g3;have hT:=ws_T cr;have hl:(ex (iS ((jN iY).wr iY.length cr) (lF (jN iY)) (hV (jN iY))) (fun _=>true) 0 iY).length<=1000:=by rw[hT];decide
 refine bR wH ?_;refine gQ (DN hS hN hI hE ρ j9 (g2.agr (aq.refl _ _) af) hl) ?_;rintro⟨ua,M3,n3⟩ ⟨la,k1,k2,k3,k4,k5⟩;simp only at k1 k2 k3 k4 k5;rw[hT]at k1;obtain rfl:=xE k1 k2 ak;have Y0:bE M3 n3 ua 9 1 ([Y_[0]].flatMap aM):=k3.at fun k hk=>hk.2
 have a3:aq nx M M3:=a2.trans (k4.le af);clear k1 k2 k3;refine bR wH ?_;refine gQ (KB hS hN hI hE ρ j9 (g2.agr (k4.le af) af) hl) ?_;rintro⟨ub,M4,n4⟩ ⟨lb,k6,k7,k8,k9,k10⟩;simp only at k6 k7 k8 k9 k10;rw[hT]at k6;obtain rfl:=xE k6 k7 ak;have hs4:bE M4 n4 ub 9 2 ([Y_[1],Y_[2]].flatMap aM):=k8.at fun k hk=>hk.2
 have Y0:=(Y0.agr (k9.le af)).wk (b':=n4) af;have a4:aq nx M M4:=a3.trans (k9.le af);clear k6 k7 k8 k9 k4 hT hl g2 a2 a3;have Wg:=Y0.cell;have L4:=hs4.cell;have Tp:=fun N=>Y0.len (P:=ao) (t:=29) Lc.2.2.2.2.2 N
 have Ma:=fun N=>hs4.len (P:=ao) (t:=29) Lc.2.2.2.2.2 N
 obtain⟨q1,o1,_,x1,d1⟩:=Y0.elem (P:=ao) (i:=0) ak (t:=29) (t':=35) Lc.2.2.2.1 jW.1;obtain⟨q2,o2,_,x2,d2⟩:=hs4.elem (P:=ao) (i:=0) ak (t:=29) (t':=35) Lc.2.2.2.1 jW.1;obtain⟨q3,o3,_,x3,d3⟩:=hs4.elem (P:=ao) (i:=1) ak (t:=29) (t':=35) Lc.2.2.2.1 jW.1;have x1:∀k,br ao 29 ua (.int k 0)=some (.mp q1 o1):=x1;have x2:∀k,br ao 29 ub (.int k 0)=some (.mp q2 o2):=x2;have x3:∀k,br ao 29 ub (.int k 1)=some (.mp q3 o3):=x3;have d1:∀N,aq n4 M4 N->b_ ao N 35 (.mp q1 o1)=some ⟨.agg [.int .i64 0,.int .i64 2,.int .i64 4,.int .u64 5,.int .u64 1,.int .u64 1,.int .u64 1,.int .u64 1,.int .i64 4],[q1],[]⟩:=d1;have d2:∀N,aq n4 M4 N->b_ ao N 35 (.mp q2 o2)=some ⟨.agg [.int .i64 2,.int .i64 1,.int .i64 5,.int .u64 5,.int .u64 1,.int .u64 1,.int .u64 3,.int .u64 1,.int .i64 4],[q2],[]⟩:=d2;have d3:∀N,aq n4 M4 N->b_ ao N 35 (.mp q3 o3)=some ⟨.agg [.int .i64 2,.int .i64 1,.int .i64 5,.int .u64 6,.int .u64 0,.int .u64 0,.int .u64 3,.int .u64 1,.int .i64 4],[q3],[]⟩:=d3;have t1:∀b,io ao g0 9 .eql b (.str [48,32,112,119,114,32,50,32,53,32,49,46,49,32,49,46,49,32,52]) (.str (List.map (fun c:UInt8=>c.toNat) [48,32,112,119,114,32,50,32,53,32,49,46,49,32,49,46,49,32,52]))=some (.bool true):=fun b=>by cases b<;>kernel_rfl
 have t2:∀b,io ao g0 9 .eql b (.str [50,32,112,114,119,32,49,32,53,32,49,46,49,32,51,46,49,32,52]) (.str (List.map (fun c:UInt8=>c.toNat) [50,32,112,114,119,32,49,32,53,32,49,46,49,32,51,46,49,32,52]))=some (.bool true):=fun b=>by cases b<;>kernel_rfl
 have t3:∀b,io ao g0 9 .eql b (.str [50,32,112,114,119,32,49,32,54,32,48,46,48,32,51,46,49,32,52]) (.str (List.map (fun c:UInt8=>c.toNat) [50,32,112,114,119,32,49,32,54,32,48,46,48,32,51,46,49,32,52]))=some (.bool true):=fun b=>by cases b<;>kernel_rfl
 have e1:=d1 M4 (aq.refl _ _);refine iQ wH Wg.1 Wg.2 L4.1 L4.2 Tp x1 e1 ?_;refine lG (W8 hJ ρ M4 _) fun M5 n5 g2 g3=>?_
 have e2:=d2 M5 (g2.le af);refine CU wH Wg.1 Wg.2 L4.1 L4.2 Ma x2 e2 t1 ?_;refine lG (W4 hJ ρ M5 _) fun M6 n6 g5 g6=>?_
 have a6:aq n4 M4 M6:=(g2.le af).trans (g5.le af);have e3:=d3 M6 a6;refine CU wH Wg.1 Wg.2 L4.1 L4.2 Ma x3 e3 t2 ?_;refine lG (WE hJ ρ M6 _) fun M7 n7 g8 g9=>?_
 refine mI wH t3 ?_;exact⟨a4.trans ((a6.trans (g8.le af)).le af),af⟩
end
end Go.Xs
namespace Go.Xs
open List Nat Option
variable{w:Int}
noncomputable section
theorem yL:∀(l:List dY) (i:Nat),gV (fun _ s=>WY s) l i=l.filter (·.c)
 | [],_=>rfl
 | s::l,i=>by
   unfold gV;rw[yL l,filter_cons];unfold WY;cases s.c<;>rfl
theorem hX (l:List dY):sE l=l.filter (·.c):=yL l 0
theorem uR {row:List dY} {n:Int} (h:0<=jk row w n):jQ row w n++mi row w n=sE row:=by
 unfold jQ mi;rw[if_neg af,if_neg af,hX,hX,hX,<-filter_append,take_append_drop]
theorem iF {row:List dY} {n:Int} (h:¬ 0<=jk row w n):jQ row w n=[]/\mi row w n=[]:=by
 unfold jQ mi;rw[if_pos af,if_pos af];exact⟨rfl,rfl⟩
theorem Ol {row:List dY} {n:Int}:0<=jk row w n ↔ row.any (gq w n)=true:=by
 have h:=uK (q:=gq w n) row 0;have hb:=ta (gq w n) row 0;unfold jk;constructor
 ·intro h0
  cases ha:row.any (gq w n) with
  | true=>rfl
  | false=>rw[ha]at h;simp at h;omega
 ·intro ha
  rw[ha]at h;simp at h;omega
theorem UW {row:List dY} {n:Int} (h:0<=jk row w n):∃s,row[(jk row w n).toNat]?=some s/\s.w=w/\s.n=n:=by
 obtain⟨j,hj⟩:∃j:Nat,jk row w n=(j:Int):=⟨(jk row w n).toNat,af⟩;obtain⟨e,h1,h2⟩:=pT (q:=gq w n) (l:=row) (i:=0) (j:=j) hj;have:=List.find?_some h2;unfold gq at this;rw[Bool.and_eq_true,decide_eq_true_eq,decide_eq_true_eq]at this;rw[Nat.sub_zero]at h1;refine⟨e,?_,this.1,this.2⟩;rw[hj];exact h1
theorem lk {L:List bO} {q:Int->Int->Bool} {own:Int}:∀{l:List bO} {was:Bool} {s:dY},s ∈ gd L q own l was->s.m=q s.w s.n/\s.by'=(mC L s.w s.n).1/\s.w≠own/\∃e ∈ l,e.w=s.w/\e.n=s.n
 | [],_,_,h=>by cases h
 | e::es,was,s,h=>by
   unfold gd at h;split at h
   ·obtain⟨h1,h2,h3,e',h4,h5⟩:=lk h
    exact⟨h1,h2,h3,e',mem_cons_of_mem _ h4,h5⟩
   ·rename_i cf
    rcases mem_cons.1 h with rfl | h
    ·exact⟨rfl,rfl,cf,e,mem_cons_self ..,rfl,rfl⟩
    ·obtain⟨h1,h2,h3,e',h4,h5⟩:=lk h
     exact⟨h1,h2,h3,e',mem_cons_of_mem _ h4,h5⟩
theorem qS {L:List bO} {q:Int->Int->Bool} {own:Int}:∀{l:List bO} {was:Bool} {p:Nat} {s:dY},(gd L q own l was)[p]?=some s->(((gd L q own l was).take (p+1)).filter (·.c)).length % 2=if s.m=was then 0 else 1
 | [],_,_,_,h=>by simp[gd]at h
 | e::es,was,p,s,h=>by
   unfold gd at h ⊢;split at h
   ·rename_i he
    rw[if_pos he];exact qS h
   ·rename_i he
    rw[if_neg he];cases p with
    | zero =>
      simp only[getElem?_cons_zero,Option.some.injEq]at h;subst h;simp only[take_succ_cons,take_zero,filter_cons,List.filter_nil];generalize q e.w e.n=a;cases a<;>cases was<;>simp
    | succ p =>
      rw[getElem?_cons_succ]at h;have ih:=qS h;rw[take_succ_cons,filter_cons];generalize (List.take (p+1) (gd L q own es (q e.w e.n))).filter (·.c)=F at ih ⊢;generalize q e.w e.n=a at ih ⊢;simp only;cases hm:s.m<;>cases a<;>cases was<;>simp_all<;>omega
theorem Rk {q:Int->Int->Bool} {own:Int} {l:List bO} {p:Nat} {s:dY} (h:(eo q own l)[p]?=some s):(sE ((eo q own l).take (p+1))).length % 2=if s.m=true then 1 else 0:=by
 rw[hX];unfold eo at h ⊢;cases p with
 | zero =>
   simp only[getElem?_cons_zero,Option.some.injEq]at h;subst h;simp[nj]
 | succ p =>
   rw[getElem?_cons_succ]at h;have:=qS h;rw[take_succ_cons,filter_cons,if_neg (by simp[nj]),this];cases s.m<;>simp
theorem Jg {q:Int->Int->Bool} {own:Int} {l:List bO} {s:dY} (h:s ∈ eo q own l):s=nj\/(s.m=q s.w s.n/\s.by'=(mC l s.w s.n).1/\s.w≠own/\∃e ∈ l,e.w=s.w/\e.n=s.n):=by
 unfold eo at h;rcases mem_cons.1 h with rfl | h
 ·exact .inl rfl
 ·exact .inr (lk h)
theorem UX (q:Int->Int->Bool) (own:Int) (l:List bO):(sE (eo q own l)).length<=l.length:=by
 rw[hX];unfold eo;rw[filter_cons,if_neg (by simp[nj])];exact Nat.le_trans (length_filter_le _ _) (mh l q own l false)
theorem Vz (row:List dY) (k:my) (num:Int):(Es row k num).length<=(sE row).length:=by
 unfold Es;rw[length_append,length_map,length_map];by_cases h:0<=jk row k.w k.n
 ·have:=congrArg List.length (uR h)
  rw[length_append]at this;omega
 ·rw[(iF h).1,(iF h).2]
  simp
end
end Go.Xs
namespace Go.Xs
open List Nat Option
noncomputable section
theorem JR {a:Int}:∀{Y:List Int},Y.Nodup->(Y.map fun x=>if a=x then 1 else 0).sum<=1
 | [],_=>aj
 | y::Y,h=>by
   rw[nodup_cons]at h;rw[map_cons,List.sum_cons];by_cases e:a=y
   ·subst e
    have:(Y.map fun x=>if a=x then 1 else 0).sum=0:=by
     have hz:∀Z:List Int,a ∉ Z->(Z.map fun x=>if a=x then 1 else 0).sum=0:=fun Z=>by
      induction Z with
      | nil=>intro _;rfl
      | cons z Z ih =>
        intro hz;rw[mem_cons,not_or]at hz;rw[map_cons,List.sum_cons,if_neg hz.1,ih hz.2]
     exact hz Y h.1
    rw[this,if_pos rfl];exact Nat.le_refl _
   ·have:=JR (a:=a) h.2
    rw[if_neg e];omega
theorem HW (f g:Int->Nat):∀Y:List Int,(Y.map fun x=>f x+g x).sum=(Y.map f).sum+(Y.map g).sum
 | []=>rfl
 | y::Y=>by
   rw[map_cons,map_cons,map_cons,List.sum_cons,List.sum_cons,List.sum_cons,HW f g Y];omega
theorem NB {f g:Int->Nat}:∀{Y:List Int},(∀x ∈ Y,f x<=g x)->(Y.map f).sum<=(Y.map g).sum
 | [],_=>Nat.le_refl _
 | y::Y,h=>by
   rw[map_cons,map_cons,List.sum_cons,List.sum_cons];have:=NB (Y:=Y) fun x hx=>h x (mem_cons_of_mem _ hx)
   have:=h y (mem_cons_self ..);omega
theorem Cp {Y:List Int} (hY:Y.Nodup):∀ms:List fS,(Y.map fun x=>(ms.filter fun m=>decide (m.x=x)).length).sum<=ms.length
 | []=>by
   have:∀Z:List Int,(Z.map fun x=>(([]:List fS).filter fun m=>decide (m.x=x)).length).sum=0:=fun Z=>by
    induction Z with
    | nil=>rfl
    | cons z Z ih=>rw[map_cons,List.sum_cons,ih];rfl
   rw[this];exact zero_le _
 | m::ms=>by
   have ih:=Cp hY ms;have h1:=JR (a:=m.x) hY;have he:(Y.map fun x=>((m::ms).filter fun m=>decide (m.x=x)).length)=Y.map fun x=>(if m.x=x then 1 else 0)+(ms.filter fun m=>decide (m.x=x)).length:=by
    apply List.map_congr_left;intro x _;rw[filter_cons];by_cases e:m.x=x
    ·rw[if_pos e,if_pos (by simpa using e),length_cons];omega
    ·rw[if_neg e,if_neg (by simpa using e)];omega
   rw[he,HW,length_cons];omega
theorem P7 (S:HS) (x:Int):(hV S x).length<=(S.mods.filter fun m=>decide (m.x=x)).length:=by
 unfold hV;split
 ·rename_i h
  rw[(Classical.choose_spec h).1.length_eq];unfold dk;rw[length_map,<-List.filter_filter];exact(List.Sublist.filter _ List.filter_sublist).length_le
 ·simp
theorem oA (S:HS):(lF S).Nodup:=by
 unfold lF;split
 ·rename_i h
  exact(Classical.choose_spec h).1.imp fun h=>af
 ·simp
theorem DQ {α:Type} (f:α->List aF):∀l:List α,(l.flatMap f).length=(l.map fun a=>(f a).length).sum
 | []=>rfl
 | a::l=>by rw[flatMap_cons,length_append,map_cons,List.sum_cons,DQ f l]
theorem Rl (S S':HS) (r:aR) (num:Int) (k:my):(Gd S (hV S') r num k).length<=(hV S' k.x).length:=by
 unfold Gd;exact Nat.le_trans (Vz _ _ _) (UX _ _ _)
theorem Sf (S S':HS) (j:Nat) (r:aR):(iS S (lF S') (hV S') j r).length<=S'.mods.length:=by
 unfold iS;split
 ·rw[DQ,List.map_map]
  refine Nat.le_trans (NB (g:=fun x=>(S'.mods.filter fun m=>decide (m.x=x)).length) fun x _=>?_) (Cp (oA S') S'.mods);have:=Rl S S' r (txR S r.t).1.n (fD (cU S j) j r.t x);rw[ji]at this;exact Nat.le_trans this (P7 S' x)
 ·simp
def qP (L:List aR):Nat:=(L.filter fun r=>decide (r.kind=5)).length
theorem xf {f:Nat->aR->List aF} {ask:Int->Bool} {m:Nat} (hf:∀j r,(f j r).length<=m) (h0:∀j r,¬ r.kind=5->f j r=[]):∀(L:List aR) (j:Nat),(ex f ask j L).length<=qP L*m
 | [],_=>by simp[ex]
 | r::L,j=>by
   have ih:=xf hf h0 L (j+1) (ask:=ask);rw[ex,length_append];unfold qP at ih ⊢;rw[filter_cons];have h_:=hf j r;by_cases hk:r.kind=5
   ·rw[show decide (r.kind=5)=true by simpa using hk]
    simp only[if_true,length_cons,succ_mul];split
    ·omega
    ·simp only[length_nil];omega
   ·rw[show decide (r.kind=5)=false by simpa using hk,h0 j r hk]
    simp only[Bool.false_eq_true,if_false];split<;>simp only[length_nil]<;>omega
theorem vw (L:List aR):∀i,i<=L.length->(dL L i).mods.length+qP (L.take i)<=i
 | 0,_=>by simp[dL,vF,qP]
 | i+1,hi=>by
   have ih:=vw L i af;obtain⟨r,hr⟩:∃r,L[i]?=some r:=⟨L[i]' af,getElem?_eq_getElem _⟩;have kB:L.take (i+1)=L.take i++[r]:=by rw[take_add_one,hr];rfl
   unfold qP at ih ⊢;rw[kB,filter_append,length_append,filter_cons,List.filter_nil];unfold dL;rw[hr];simp only;generalize dL L i=S at ih;unfold HS.take;split
   ·rename_i h;rw[if_neg am];simp only[HS.begin,length_nil];omega
   split
   ·rename_i h;rw[if_neg am];simp only[HS.look,length_nil];omega
   split
   ·rename_i h;rw[if_neg am];simp only[HS.modify,length_append,length_cons,length_nil];omega
   split
   ·have hp:(S.preds i r r.es.length).mods=S.mods:=by
     generalize r.es.length=n
     induction n with
     | zero=>rfl
     | succ n ih=>unfold HS.preds;split<;>exact ih
    rw[hp];split<;>simp only[length_cons,length_nil]<;>omega
   split
   ·rename_i h;rw[if_neg am];split<;>simp only[HS.endTx,length_nil]<;>omega
   ·rename_i h5 h6;rw[if_neg (by simpa using h5)];split<;>simp only[HS.endTx,length_nil]<;>omega
theorem Le {L:List aR} (hl:L.length<=60) (cr:List XV) (ask:Int->Bool):(ex (iS ((jN L).wr L.length cr) (lF (jN L)) (hV (jN L))) ask 0 L).length<=900:=by
 have h:=xf (f:=iS ((jN L).wr L.length cr) (lF (jN L)) (hV (jN L))) (ask:=ask) (m:=(jN L).mods.length) (fun j r=>Sf _ _ j r) (fun j r hk=>by unfold iS;rw[if_neg fun q=>hk q.1]) L 0;have hm:(jN L).mods.length=(dL L L.length).mods.length:=by
  show (fJ _ _).length=_;rw[im]
 have hp:=vw L L.length (Nat.le_refl _);rw[take_length]at hp;rw[hm]at h;generalize (dL L L.length).mods.length=m at h hp;generalize qP L=p at h hp;have hq:∀p,p<61->p*(60 - p)<=900:=ak;have h1:=hq p af;have h2:p*m<=p*(60 - p):=Nat.mul_le_mul_left _ af;omega
end
end Go.Xs
namespace Go.Xs
open List Nat Option
variable{l:List aR}{r:aR}
noncomputable section
theorem Ll (h:eA l r=0) (h1:r.kind≠1):bH l r.t=some false:=by
 obtain⟨b,hb⟩:=pd h h1;have:=lY h 5 af;simp only[kM,hb,getD_some,Bool.not_eq_true']at this;rw[hb,this]
theorem DS {t:Int} (ht:bH (l++[r]) t=none):bH l t=none:=by
 rw[bL]at ht;cases ho:bH l t with
 | none=>rfl
 | some b =>
   rw[ho]at ht
   revert ht
   unfold de
   repeat' split
   all_goals simp
structure iH (S:HS) (l:List aR):Prop where
 len:∀t (k:Nat) x,S.num t=some (k:Int)->(S.places k x).length=(bd l t x).length
 none:∀t x,bH l t=Option.none->bd l t x=[]
 made:∀x w n d,rV l x w n=some d->∃(j:Nat) (m:fS),S.ver x w n=some (j:Int)/\S.mods[j]?=some m/\m.dead=d.dead/\(d.dead=false->m.v=d.v)
variable {S:HS} {l:List aR} {r:aR}
theorem UV (h:¬ (r.kind=3\/r.kind=4)) (t x:Int):oI t x r=false:=by
 rw[not_or]at h;simp[oI,gn,h]
theorem hZ (h:¬ (r.kind=3\/r.kind=4)) (t x:Int):bd (l++[r]) t x=bd l t x:=by
 rw[o9,UV h];rfl
theorem iH.start:iH vF []:=⟨fun t k x h=>by simp[vF]at h,fun t x _=>rfl,fun x w n d h=>by simp[rV,bd]at h⟩
theorem iH.same {S':HS} (h:iH S l) (Vq:¬ (r.kind=3\/r.kind=4)) (he:∀t,bH (l++[r]) t=Option.none->bH l t=Option.none) (e1:S'.num=S.num) (e2:S'.places=S.places) (e3:S'.mods=S.mods) (e4:S'.ver=S.ver):iH S' (l++[r]):=by
 refine⟨fun t k x hk=>?_,fun t x ht=>?_,fun x w n d hd=>?_⟩
 ·rw[e1]at hk
  rw[e2,hZ Vq];exact h.len t k x hk
 ·rw[hZ Vq]
  exact h.none t x (he t ht)
 ·have:rV l x w n=some d:=by
   unfold rV at hd ⊢
   rwa [hZ Vq]at hd
  rw[e3,e4];exact h.made x w n d this
theorem iH.begin (h:iH S l) (o:qV S l) (h1:r.kind=1) (hf:bH l r.t=Option.none) (i:Int):iH (S.begin i r) (l++[r]):=by
 have Vq:¬ (r.kind=3\/r.kind=4):=af;refine⟨fun t k x hk=>?_,fun t x ht=>?_,fun x w n d hd=>?_⟩
 ·rw[hZ Vq]
  simp only[HS.begin]at hk ⊢;split at hk
  ·rename_i e
   subst e;simp only[Option.some.injEq]at hk;rw[if_pos af,h.none _ x hf];rfl
  ·obtain⟨j,a,e,ha,_⟩:=o.num _ _ hk
   have:=(List.getElem?_eq_some_iff.1 ha).1;rw[if_neg af];exact h.len t k x hk
 ·rw[hZ Vq]
  refine h.none t x ?_;exact DS ht
 ·have:rV l x w n=some d:=by
   unfold rV at hd ⊢
   rwa [hZ Vq]at hd
  exact h.made x w n d this
theorem iH.modify (h:iH S l) (o:qV S l) (Vq:r.kind=3\/r.kind=4) {k:Nat} (hk:S.num r.t=some (k:Int)) (i:Int) (hg:bH l r.t≠Option.none):iH (S.modify i r k) (l++[r]):=by
 have hm:∀t x,oI t x r=(decide (r.t=t)&&decide (r.x=x)):=fun t x=>by
  unfold oI gn;rcases Vq with e | e<;>rw[e]<;>simp
 have bA:∀t x,bd (l++[r]) t x=if r.t=t/\r.x=x then bd l t x++[nv r] else bd l t x:=fun t x=>by
  rw[o9,hm];by_cases e:r.t=t/\r.x=x
  ·rw[if_pos e,if_pos (by simpa using e)]
  ·rw[if_neg e,if_neg (by simpa using e)]
 refine⟨fun t k' x ia=>?_,fun t x ht=>?_,fun x w n d hd=>?_⟩
 ·simp only[HS.modify]at ia ⊢
  rw[bA];by_cases e:k'=k/\x=r.x
  ·obtain⟨rfl,rfl⟩:=e
   have ht:r.t=t:=by
    obtain⟨j,a,e1,ha,qL⟩:=o.num _ _ hk;obtain⟨j',a',JS,Jo,hat'⟩:=o.num _ _ ia;have:j=j':=af;subst this;rw[ha]at Jo;cases Jo;rw[<-qL,hat']
   rw[if_pos ⟨rfl,rfl⟩,if_pos ⟨ht,rfl⟩,length_append,length_append,h.len t k' r.x ia];rfl
  ·rw[if_neg e,if_neg,h.len t k' x ia]
   rintro⟨rfl,rfl⟩;rw[hk]at ia;exact e ⟨by have:=Option.some.inj ia;omega,rfl⟩
 ·rw[bA,if_neg]
  ·refine h.none t x ?_
   rw[bL,eJ af af af]at ht;exact ht
  ·rintro⟨rfl,_⟩
   rw[bL,eJ af af af]at ht;exact hg ht
 ·have hl:=h.len r.t k r.x hk
  by_cases e:r.t=w/\r.x=x
  ·obtain⟨rfl,rfl⟩:=e
   have GB:bd (l++[r]) r.t r.x=bd l r.t r.x++[nv r]:=by rw[bA,if_pos ⟨rfl,rfl⟩]
   unfold rV at hd;rw[GB,length_append]at hd;split at hd
   ·rename_i hn
    simp only[length_cons,length_nil]at hn;by_cases fq:n<=(bd l r.t r.x).length
    ·rw[getElem?_append_left af]at hd
     obtain⟨j,m,q1,q2,q3,q4⟩:=h.made r.x r.t n d (by unfold rV;rw[if_pos ⟨hn.1,fq⟩];exact hd);refine⟨j,m,?_,?_,q3,q4⟩
     ·simp only[HS.modify]
      rw[if_neg af];exact q1
     ·simp only[HS.modify]
      rw[getElem?_append_left (List.getElem?_eq_some_iff.1 q2).1];exact q2
    ·have he:n=(((bd l r.t r.x).length+1:Nat):Int):=af
     subst he;rw[getElem?_append_right af]at hd;rw[show ((((bd l r.t r.x).length+1:Nat):Int) - 1).toNat - (bd l r.t r.x).length=0 by omega]at hd;simp only[getElem?_cons_zero,Option.some.injEq]at hd;subst hd;refine⟨S.mods.length,_,by simp only[HS.modify];rw[if_pos ⟨trivial,trivial,af⟩],by simp only[HS.modify];rw[getElem?_append_right (Nat.le_refl _),Nat.sub_self];rfl,?_,?_⟩
     ·simp only[nv]
      rcases Vq with e | e<;>rw[e]<;>simp
     ·simp only[nv]
      rcases Vq with e | e<;>rw[e]<;>simp
   ·cases hd
  ·have hd':rV l x w n=some d:=by
    unfold rV at hd ⊢
    rwa [bA,if_neg e]at hd
   obtain⟨j,m,q1,q2,q3,q4⟩:=h.made x w n d hd';refine⟨j,m,?_,?_,q3,q4⟩
   ·simp only[HS.modify]
    rw[if_neg (by rintro⟨rfl,rfl,_⟩;exact e ⟨rfl,rfl⟩)];exact q1
   ·simp only[HS.modify]
    rw[getElem?_append_left (List.getElem?_eq_some_iff.1 q2).1];exact q2
theorem iH.take (h:iH S l) (o:qV S l) (hr:eA l r=0):iH (S.take l.length r) (l++[r]):=by
 by_cases e1:r.kind=1
 ·have:S.take l.length r=S.begin l.length r:=by simp only[HS.take,if_pos e1]
  rw[this];exact h.begin o e1 (jH hr e1) _
 have hb:=Ll hr e1;have cf:=o.begun _ _ hb;obtain⟨kk,sT⟩:=ne_none_iff_exists'.1 cf;obtain⟨k,a,rfl,ha,qL⟩:=o.num _ _ sT;have hk:((S.num r.t).getD 0).toNat=k:=by rw[sT];rfl
 have qy:∀t,bH (l++[r]) t=Option.none->bH l t=Option.none:=fun t ht=>DS ht
 by_cases e2:r.kind=2
 ·have:S.take l.length r=S.look ⟨l.length,0,r.t,r.x,r.w,r.n,false,false⟩:=by simp[HS.take,e2]
  rw[this];exact h.same af qy rfl rfl rfl rfl
 by_cases DW:r.kind=3\/r.kind=4
 ·have:S.take l.length r=S.modify l.length r k:=by simp only[HS.take,if_neg e1,if_neg e2,if_pos DW,hk]
  rw[this];exact h.modify o DW sT _ (by rw[hb];simp)
 by_cases e5:r.kind=5
 ·have:S.take l.length r=S.preds l.length r r.es.length:=by simp[HS.take,e5]
  rw[this];obtain⟨q1,q2,q3,q4,q5,q6⟩:=oR S l.length r r.es.length;exact h.same af qy q1 q5 q4 q6
 by_cases e6:r.kind=6
 ·have:S.take l.length r=S.endTx k ⟨r.t,a.b,l.length,1,(S.com.length:Int)⟩ (S.com++[r.t]):=by simp only[HS.take,if_neg e1,if_neg e2,if_neg DW,if_neg e5,if_pos e6,hk,ha]
  rw[this];exact h.same DW qy rfl rfl rfl rfl
 ·have:S.take l.length r=S.endTx k ⟨r.t,a.b,l.length,2,a.n⟩ S.com:=by simp only[HS.take,if_neg e1,if_neg e2,if_neg DW,if_neg e5,if_neg e6,hk,ha]
  rw[this];exact h.same DW qy rfl rfl rfl rfl
theorem y8 {L:List aR} (hw:∀j r,L[j]?=some r->eA (L.take j) r=0) (he:∀r ∈ L,r.es.length<=1000):∀i,i<=L.length->iH (dL L i) (L.take i)
 | 0,_=>by rw[take_zero];exact iH.start
 | i+1,hi=>by
   have ih:=y8 hw he i af;obtain⟨r,hr⟩:∃r,L[i]?=some r:=⟨L[i],aj⟩;have kB:L.take (i+1)=L.take i++[r]:=by rw[take_add_one,hr];rfl
   have hl:(L.take i).length=i:=by rw[length_take];omega
   have:=ih.take (oc hw he i af) (hw i r hr);rw[hl]at this;rw[kB];unfold dL;rw[hr];exact this
end
end Go.Xs
namespace Go.Xs
open List Nat Option
variable{L:List aR}{S:HS}{i j:Nat}{r:aR}{w:Int}
noncomputable section
def E4 (i:Int) (r:aR):Nat->List my
 | 0=>[]
 | n+1=>match r.es[n]? with | some e=>E4 i r n++[ng i r n e] | none=>E4 i r n
theorem rE (S:HS) (i:Int) (r:aR):∀n,(S.preds i r n).looks=S.looks++E4 i r n
 | 0=>by simp[HS.preds,E4]
 | n+1=>by
   have ih:=rE S i r n;unfold HS.preds E4;cases r.es[n]? with
   | none=>exact ih
   | some e=>simp only[HS.look,ih,append_assoc]
theorem m9 {i:Int} {r:aR} {k:my}:∀{n:Nat},k ∈ E4 i r n->∃e ∈ r.es,k.pos=i/\k.t=r.t/\k.x=e.x/\k.w=e.w/\k.n=e.n/\k.m=e.m
 | 0,h=>by cases h
 | n+1,h=>by
   unfold E4 at h;split at h
   ·rename_i e he
    rcases mem_append.1 h with h | h
    ·exact m9 h
    ·simp only[mem_cons,not_mem_nil,or_false]at h
     subst h;exact⟨e,mem_of_getElem? he,rfl,rfl,rfl,rfl,rfl,rfl⟩
   ·exact m9 h
structure vl (S:HS) (L:List aR) (i:Nat):Prop where
 pos:∀k ∈ S.looks,k.pos<(i:Int)
 at':∀(j:Nat) r,j<i->L[j]?=some r->r.kind=5->∀k ∈ cU S j,∃e ∈ r.es,k.t=r.t/\k.x=e.x/\k.w=e.w/\k.n=e.n/\k.m=e.m
theorem vl.same {S':HS} (h:vl S L i) (hr:L[i]?=some r) (h5:¬ r.kind=5) (add:List my) (e:S'.looks=S.looks++add) (ha:∀k ∈ add,k.pos=(i:Int)):vl S' L (i+1):=by
 refine⟨fun k hk=>?_,fun j r' hj sA vc k hk=>?_⟩
 ·rw[e]at hk
  rcases mem_append.1 hk with hk | hk
  ·have:=h.pos k hk;omega
  ·have:=ha k hk;omega
 ·by_cases kX:j=i
  ·subst kX
   rw[hr]at sA;cases sA;exact(h5 vc).elim
  ·refine h.at' j r' af sA vc k ?_
   unfold cU at hk ⊢;rw[e,filter_append]at hk;rcases mem_append.1 hk with hk | hk
   ·exact hk
   ·have h1:=ha k (mem_filter.1 hk).1
    have h2:=(mem_filter.1 hk).2;simp at h2;omega
theorem vl.take (h:vl S L i) (hr:L[i]?=some r):vl (S.take i r) L (i+1):=by
 unfold HS.take;split
 ·rename_i e;exact h.same hr af [] (by simp[HS.begin]) aj
 split
 ·rename_i e;exact h.same hr af [⟨i,0,r.t,r.x,r.w,r.n,false,false⟩] rfl aj
 split
 ·rename_i e;exact h.same hr af [] (by simp[HS.modify]) aj
 split
 ·rename_i e5
  have hl:=rE S i r r.es.length;refine⟨fun k hk=>?_,fun j r' hj sA vc k hk=>?_⟩
  ·rw[hl]at hk
   rcases mem_append.1 hk with hk | hk
   ·have:=h.pos k hk;omega
   ·obtain⟨e,_,h1,_⟩:=m9 hk;omega
  ·unfold cU at hk
   rw[hl,filter_append]at hk;by_cases kX:j=i
   ·subst kX
    rw[hr]at sA;cases sA;rcases mem_append.1 hk with hk | hk
    ·have h1:=h.pos k (mem_filter.1 hk).1
     have h2:=(mem_filter.1 hk).2;simp at h2;omega
    ·obtain⟨e,h0,_,h1,h2,h3,h4,h5⟩:=m9 (mem_filter.1 hk).1
     exact⟨e,h0,h1,h2,h3,h4,h5⟩
   ·rcases mem_append.1 hk with hk | hk
    ·exact h.at' j r' af sA vc k hk
    ·obtain⟨e,_,h1,_⟩:=m9 (mem_filter.1 hk).1
     have h2:=(mem_filter.1 hk).2;simp at h2;omega
 split
 ·rename_i e;split
  ·exact h.same hr af [] (by simp[HS.endTx]) aj
  ·exact h.same hr af [] aj aj
 ·rename_i e5 _;split
  ·exact h.same hr e5 [] (by simp[HS.endTx]) aj
  ·exact h.same hr e5 [] aj aj
theorem pU (L:List aR):∀i,i<=L.length->vl (dL L i) L i
 | 0,_=>⟨fun k hk=>by simp[dL,vF]at hk,fun j r hj=>af⟩
 | i+1,hi=>by
   obtain⟨r,hr⟩:∃r,L[i]?=some r:=⟨L[i]' af,getElem?_eq_getElem _⟩;have:=(pU L i af).take hr;unfold dL;rw[hr];exact this
theorem K6 {l m:List aR} {x n:Int} {d:Md} (h:rV l x w n=some d):rV (l++m) x w n=some d:=by
 unfold rV bd at h ⊢;rw[filter_append,map_append,length_append];split at h
 ·rename_i hn
  rw[if_pos af,getElem?_append_left af];exact h
 ·cases h
theorem KA (hf:Ga L) (hw:∀j r,L[j]?=some r->eA (L.take j) r=0) (cr:List XV) {p:Ex} {x n:Int} {d:Md} (h:rV (L.take j) x w n=some d):eO ((jN L).wr L.length cr) p x w n=kG (L.take j) p x w n:=by
 have h2:=K6 (m:=L.drop j) h;rw[take_append_drop]at h2;have hI:=y8 hw (fun r hr=>by have:=hf.es r hr;omega) L.length (Nat.le_refl _);rw[take_length]at hI;obtain⟨q,m,h3,h4,h5,h6⟩:=hI.made x w n d h2;have hv:((jN L).wr L.length cr).ver x w n=some (q:Int):=h3;obtain⟨m',ir,e1,e2⟩:∃m',((jN L).wr L.length cr).mods[q]?=some m'/\m'.dead=m.dead/\m'.v=m.v:=by
  show ∃m',(fJ _ _)[q]?=some m'/\_;rw[ie,h4];exact⟨_,rfl,rfl,rfl⟩
 have hmr:xa ((jN L).wr L.length cr) x w n=(m',true):=by
  unfold xa;rw[hv];simp only[Int.toNat_natCast,ir]
 unfold eO kG;rw[hmr,h];simp only[Bool.true_and];rw[e1,e2,h5];cases hd:d.dead with
 | true=>rfl
 | false=>rw[h6 hd]
theorem Vu (hf:Ga L) (hw:∀j r,L[j]?=some r->eA (L.take j) r=0) (cr:List XV) (hr:L[j]?=some r) (h5:r.kind=5) {x:Int} {k:my} (hk:k=fD (cU ((jN L).wr L.length cr) j) j r.t x) {p:Nat} {s:dY}
 (hs:(eo (eO ((jN L).wr L.length cr) r.p x) r.t (hV (jN L) x))[p]?=some s) (h1:s.w=k.w) (h2:s.n=k.n):s.m=k.m:=by
 have hj:j<L.length:=(List.getElem?_eq_some_iff.1 hr).1;have vW:=zT hf.len (fun r hr=>by have:=hf.es r hr;omega) hw;have V6:k.x=x/\((k.w=0/\k.n=0/\k.m=false)\/k.m=kG (L.take j) r.p x k.w k.n/\lV (L.take j) x k.w k.n=true):=by
  refine⟨by rw[hk,ji],?_⟩;have hx:=ji (l:=cU ((jN L).wr L.length cr) j) (p:=j) (t:=r.t) (x:=x);unfold fD at hk hx;split at hk
  ·rename_i k' Zl
   right;subst hk;have pB:=List.mem_of_find?_eq_some Zl;obtain⟨e,e0,e1,e2,e3,e4,e5⟩:=(pU L L.length (Nat.le_refl _)).at' j r hj hr h5 k pB;have QU:=List.find?_some Zl;simp only[decide_eq_true_eq]at QU;have m1:=lY (hw j r hr) 11 af;have m2:=lY (hw j r hr) 9 af;simp only[kM]at m1 m2;unfold uu at m1;unfold tN at m2;rw[List.all_eq_true]at m1 m2;have m1:=m1 e e0;have m2:=m2 e e0;rw[beq_iff_eq]at m1;rw[<-e2,QU]at m1 m2;rw[e3,e4,e5];exact⟨m1,m2⟩
  ·subst hk
   exact .inl ⟨rfl,rfl,rfl⟩
 obtain⟨_,V6⟩:=V6;rcases Jg (mem_of_getElem? hs) with rfl | ⟨q1,_,_,e,he,q4,q5⟩
 ·simp only[nj]at h1 h2 ⊢
  rcases V6 with ⟨_,_,e⟩ | ⟨e,_⟩
  ·exact e.symm
  ·rw[e,<-h1,<-h2]
   unfold kG rV;simp
 ·have hn:1<=e.n:=by
   unfold hV at he;split at he
   ·rename_i hx
    exact((P6 vW (Classical.choose_spec hx).1 (Classical.choose_spec hx).2).born e he).1
   ·cases he
  rcases V6 with ⟨_,e0,_⟩ | ⟨e1,e2⟩
  ·omega
  ·rw[q1,e1,h1,h2]
   unfold lV at e2;cases hm:rV (L.take j) x k.w k.n with
   | some d=>exact KA hf hw cr hm
   | none =>
     rw[hm]at e2;simp at e2;omega
end
end Go.Xs
namespace Go.Xs
open List Nat Option
variable{L:List aR}{S:HS}{j:Nat}{num:Int}{r:aR}
noncomputable section
theorem pR {f:Nat->aR->List aF} {ask:Int->Bool} {e:aF}:∀{L:List aR} {i:Nat},e ∈ ex f ask i L->∃j r,L[j]?=some r/\e ∈ f (i+j) r
 | [],_,h=>by cases h
 | r::L,i,h=>by
   rw[ex]at h;rcases mem_append.1 h with h | h
   ·split at h
    ·exact⟨0,r,rfl,h⟩
    ·cases h
   ·obtain⟨j,r',h1,h2⟩:=pR h
    exact⟨j+1,r',by simpa using h1,by rw[show i+(j+1)=i+1+j by omega];exact h2⟩
theorem JN {row:List dY} {w n:Int} {s:dY} (h:s ∈ jQ row w n\/s ∈ mi row w n):s ∈ row/\s.c=true:=by
 have hc:s ∈ sE row:=by
  by_cases h0:0<=jk row w n
  ·rw[<-uR h0]
   exact mem_append.2 h
  ·rw[(iF h0).1,(iF h0).2]at h
   rcases h with h | h<;>cases h
 rw[hX]at hc;exact⟨(mem_filter.1 hc).1,(mem_filter.1 hc).2⟩
theorem Nq {row:List dY} {k:my} {e:aF} (h:e ∈ Es row k num):∃s,(s ∈ row/\s.c=true)/\(e=lg k num s\/e=kr k num s):=by
 unfold Es at h;rcases mem_append.1 h with h | h<;>obtain⟨s,hs,rfl⟩:=mem_map.1 h
 ·exact⟨s,JN (.inl hs),.inl rfl⟩
 ·exact⟨s,JN (.inr hs),.inr rfl⟩
theorem nh {L:List bO} {q:Int->Int->Bool} {own:Int}:∀{l:List bO} {was:Bool},l.Pairwise (fun a b=>¬ (a.w=b.w/\a.n=b.n))->(gd L q own l was).Pairwise fun a b=>¬ (a.w=b.w/\a.n=b.n)
 | [],_,_=>.nil
 | e::es,was,h=>by
   rw[pairwise_cons]at h;unfold gd;split
   ·exact nh h.2
   ·rw[pairwise_cons]
    refine⟨fun s hs=>?_,nh h.2⟩;obtain⟨_,_,_,e',he,h1,h2⟩:=lk hs;simp only;rw[<-h1,<-h2];exact h.1 e' he
theorem JA (h:sC S) (x:Int):Je (hV S x)/\∀e ∈ hV S x,e ∈ dk S S.mods x:=by
 unfold hV;split
 ·rename_i hx
  exact⟨P6 h (Classical.choose_spec hx).1 (Classical.choose_spec hx).2,fun e he=>(Classical.choose_spec hx).1.mem_iff.1 he⟩
 ·exact⟨⟨.nil,fun e he=>by cases he⟩,fun e he=>by cases he⟩
theorem Ld (h:sC S) (x:Int) (q:Int->Int->Bool) (own:Int):(eo q own (hV S x)).Pairwise fun a b=>¬ (a.w=b.w/\a.n=b.n):=by
 obtain⟨hr,_⟩:=JA h x;unfold eo;rw[pairwise_cons];refine⟨fun s hs=>?_,nh (hr.up.imp fun h=>h.2.2)⟩;obtain⟨_,_,_,e,he,h1,h2⟩:=lk hs;have:=(hr.born e he).1;simp only[nj];omega
theorem De {α β:Type} {f:α->β} {l:List α} (h:l.Pairwise fun a b=>f a≠f b):(l.map f).Nodup:=by
 unfold List.Nodup;rw[pairwise_map];exact h
theorem NJ {row:List dY} {k:my} (h:row.Pairwise fun a b=>¬ (a.w=b.w/\a.n=b.n)):(Es row k num).Nodup:=by
 have hc:(sE row).Pairwise fun a b=>¬ (a.w=b.w/\a.n=b.n):=by rw[hX];exact h.filter _
 unfold Es;by_cases h0:0<=jk row k.w k.n
 ·rw[<-uR h0,pairwise_append]at hc
  rw[nodup_append];refine⟨De (hc.1.imp fun h e=>h ?_),De (hc.2.1.imp fun h e=>h ?_),fun a ha b hb e=>?_⟩
  ·obtain⟨s,_,rfl⟩:=mem_map.1 ha
   obtain⟨s',_,rfl⟩:=mem_map.1 hb;have:=congrArg aF.k e;simp[lg,kr]at this
  ·exact⟨congrArg aF.mw e,congrArg aF.mn e⟩
  ·exact⟨congrArg aF.mw e,congrArg aF.mn e⟩
 ·rw[(iF h0).1,(iF h0).2]
  exact .nil
theorem o7 {R:Int->List bO} {k:my} {e:aF} (h:e ∈ Gd S R r num k):e.x=k.x/\e.pos=k.pos:=by
 obtain⟨s,_,rfl | rfl⟩:=Nq h<;>exact⟨rfl,rfl⟩
theorem vr {α β:Type} {f:α->List β}:∀{l:List α},(∀a ∈ l,(f a).Nodup)->l.Pairwise (fun a b=>∀x ∈ f a,∀y ∈ f b,x≠y)->(l.flatMap f).Nodup
 | [],_,_=>.nil
 | a::l,h1,h2=>by
   rw[pairwise_cons]at h2;rw[flatMap_cons,nodup_append];refine⟨h1 a (mem_cons_self ..),vr (fun b hb=>h1 b (mem_cons_of_mem _ hb)) h2.2,fun x hx y hy=>?_⟩;obtain⟨b,hb,hy⟩:=mem_flatMap.1 hy;exact h2.1 b hb x hx y hy
theorem KK {t x:Int}:(fD (cU S j) j t x).pos=j:=by
 unfold fD;split
 ·rename_i k hk
  have h:=List.mem_of_find?_eq_some hk;unfold cU at h;have:=(mem_filter.1 h).2;simpa using this
 ·rfl
theorem zB {Y:List Int} {R:Int->List bO} {e:aF} (h:e ∈ iS S Y R j r):r.kind=5/\(txR S r.t).1.s=1/\e.pos=j/\e.x ∈ Y/\e ∈ Gd S R r (txR S r.t).1.n (fD (cU S j) j r.t e.x):=by
 unfold iS at h;split at h
 ·rename_i hk
  obtain⟨k,ZA,he⟩:=mem_flatMap.1 h;obtain⟨x,hx,rfl⟩:=mem_map.1 ZA;obtain⟨h1,h2⟩:=o7 he;rw[ji]at h1;rw[KK]at h2;rw[h1];exact⟨hk.1,hk.2,h2,hx,he⟩
 ·cases h
theorem KZ {S':HS} (h:sC S') (j:Nat) (r:aR):(iS S (lF S') (hV S') j r).Nodup:=by
 unfold iS;split
 ·rw[List.flatMap_map]
  refine vr (fun x _=>NJ (Ld h _ _ _)) ((oA S').imp fun cf a ha b hb e=>cf ?_);have h1:=(o7 ha).1;have h2:=(o7 hb).1;rw[ji]at h1 h2;rw[<-h1,<-h2,e]
 ·exact .nil
theorem HT {S S':HS} (h:sC S') (ask:Int->Bool):∀(L:List aR) (j:Nat),(ex (iS S (lF S') (hV S')) ask j L).Nodup
 | [],_=>.nil
 | r::L,j=>by
   rw[ex,nodup_append];refine⟨?_,HT h ask L (j+1),fun a ha b hb e=>?_⟩
   ·split
    ·exact KZ h j r
    ·exact .nil
   ·split at ha
    ·have h1:=(zB ha).2.2.1
     obtain⟨q,r',_,hb⟩:=pR hb;have h2:=(zB hb).2.2.1;rw[e]at h1;omega
    ·cases ha
theorem MG (h:sC S) {x:Int} {q:Int->Int->Bool} {own:Int} {s:dY} (hs:s ∈ eo q own (hV S x)) (hc:s.c=true) (ho:(txR S own).1.s=1):s.by'≠(txR S own).1.n:=by
 rcases Jg hs with rfl | ⟨_,h2,h3,e,he,h4,h5⟩
 ·cases hc
 obtain⟨hr,hm⟩:=JA h x;obtain⟨p,hp⟩:=getElem?_of_mem he;have gE:=hr.place hp;have Ur:(mC (hV S x) e.w e.n).1=e.wr:=by
  unfold mC;rw[gE];rw[if_neg (by rintro(h | h);cases h;simp only at h;omega)];simp only;rw[show (((p+1:Nat):Int) - 1).toNat=p by omega,hp];rfl
 rw[h2,<-h4,<-h5,Ur];obtain⟨j,m,e1,e2,e3,rfl⟩:=DC (hm e he);obtain⟨_,v2,_,_⟩:=h.mods j m e1;obtain⟨k,a,t1,t2,t3⟩:=h.txR e1;unfold mL at e3;rw[Bool.and_eq_true,decide_eq_true_eq,t3]at e3;simp only[gf,t3]at h4 ⊢;intro hn;unfold txR Ho at ho hn;cases Bd:S.num own with
 | none=>rw[Bd]at ho;simp[tx0]at ho
 | some z =>
   obtain⟨j2,b,z1,z2,z3⟩:=h.nums own z Bd;have hz:z.toNat=j2:=af;rw[Bd]at ho hn;simp only[hz,z2]at ho hn;rcases h.com k j2 a b t2 z2 e3.2 ho with e | ⟨e,_⟩ | ⟨e,_⟩
   ·subst e
    rw[t2]at z2;cases z2;obtain⟨_,_,_,kk,aa,w1,w2,w3⟩:=h.mods j m e1;rw[t1]at w1;have:kk=k:=by have:=Option.some.inj w1;omega
    subst this;rw[t2]at w2;cases w2;exact h3 (by rw[<-h4,v2,<-w3,z3])
   ·omega
   ·omega
theorem Hx {cr:List XV} (hr:L[j]?=some r) (h5:r.kind=5) (x:Int):(fD (cU ((jN L).wr L.length cr) j) j r.t x).t=r.t:=by
 unfold fD;split
 ·rename_i k hk
  obtain⟨e,_,h1,_⟩:=(pU L L.length (Nat.le_refl _)).at' j r (List.getElem?_eq_some_iff.1 hr).1 hr h5 k (List.mem_of_find?_eq_some hk);exact h1
 ·rfl
theorem Sh {cr:List XV} (h:sC (jN L)) {ask:Int->Bool} {e:aF} (he:e ∈ ex (iS ((jN L).wr L.length cr) (lF (jN L)) (hV (jN L))) ask 0 L):e.a≠e.b:=by
 obtain⟨j,r,hr,he⟩:=pR he;rw[Nat.zero_add]at he;obtain⟨h5,h1,_,_,h2⟩:=zB he;obtain⟨s,⟨hs,hc⟩,hE⟩:=Nq h2;rw[Hx hr h5]at hs;have h1:(txR (jN L) r.t).1.s=1:=h1;have:s.by'≠(txR (jN L) r.t).1.n:=MG h hs hc h1
 rcases hE with hE | hE<;>rw[hE]<;>simp only[lg,kr]
 ·exact this
 ·exact fun q=>this q.symm
theorem Da {l T:List aF} (hp:l.Perm T) (hs:l.Pairwise fun a b=>CZ b a=false) (hn:T.Nodup):l.Pairwise fun a b=>CZ a b=true:=by
 have hl:l.Nodup:=hp.nodup_iff.2 hn;refine(hs.and hl).imp fun {a b} ⟨h1,h2⟩=>?_
 cases h:CZ a b with
 | true=>rfl
 | false=>exact(h2 (CV h h1)).elim
end
end Go.Xs
namespace Go.Xs
open List Nat Option
variable{S:HS}{j:Nat}{num:Int}{r:aR}
noncomputable section
theorem Dm {f:Nat->aR->List aF} {pos:Nat}:∀(L:List aR) (i:Nat),pos<i->ex f (fun j=>decide (j=(pos:Int))) i L=[]
 | [],_,_=>rfl
 | r::L,i,h=>by
   rw[ex,if_neg am,Dm L (i+1) af];rfl
theorem PJ {f:Nat->aR->List aF} {pos:Nat}:∀(L:List aR) (i:Nat),L[pos]?=some r->ex f (fun j=>decide (j=((i+pos:Nat):Int))) i L=f (i+pos) r
 | L,i,h=>by
   induction pos generalizing L i with
   | zero =>
     cases L with
     | nil=>simp at h
     | cons a L =>
       simp only[getElem?_cons_zero,Option.some.injEq]at h;subst h;rw[ex,if_pos aj,Dm L (i+1) af,append_nil];rfl
   | succ p ih =>
     cases L with
     | nil=>simp at h
     | cons a L =>
       rw[getElem?_cons_succ]at h;rw[ex,if_neg am,nil_append,show i+(p+1)=i+1+p by omega];exact ih L (i+1) h
theorem ro {α:Type} {f:α->List aF} {p:aF->Bool}:∀(l:List α),(l.flatMap f).filter p=l.flatMap fun a=>(f a).filter p
 | []=>rfl
 | a::l=>by rw[flatMap_cons,filter_append,flatMap_cons,ro l]
theorem yV {f:Int->List aF} {x:Int}:∀{Y:List Int},Y.Nodup->x ∈ Y->(∀y ∈ Y,y≠x->f y=[])->Y.flatMap f=f x
 | [],_,h,_=>by cases h
 | y::Y,hn,hx,h=>by
   rw[nodup_cons]at hn;rw[flatMap_cons];have CM:∀Z:List Int,x ∉ Z->(∀y ∈ Z,y≠x->f y=[])->Z.flatMap f=[]:=fun Z hz hh=>by
    rw[List.flatMap_eq_nil_iff];intro y hy;exact hh y hy fun e=>hz (e ▸ hy)
   by_cases e:y=x
   ·subst e
    rw[CM Y hn.1 fun y hy=>h y (mem_cons_of_mem _ hy),append_nil]
   ·rw[h y (mem_cons_self ..) e,nil_append]
    exact yV hn.2 ((mem_cons.1 hx).resolve_left fun q=>e q.symm) fun y hy=>h y (mem_cons_of_mem _ hy)
theorem JO (row:List dY) (k:my) (num:Int):(Es row k num).filter (fun e=>decide (e.k=4))=(jQ row k.w k.n).map (lg k num)/\(Es row k num).filter (fun e=>decide (e.k=5))=(mi row k.w k.n).map (kr k num):=by
 have hA:∀l:List dY,(l.map (lg k num)).filter (fun e=>decide (e.k=4))=l.map (lg k num)/\(l.map (lg k num)).filter (fun e=>decide (e.k=5))=[]:=fun l=>by
  induction l with
  | nil=>exact⟨rfl,rfl⟩
  | cons a l ih=>simp only[map_cons,filter_cons,lg]at ih ⊢;exact⟨by simpa using ih.1,by simpa using ih.2⟩
 have hB:∀l:List dY,(l.map (kr k num)).filter (fun e=>decide (e.k=4))=[]/\(l.map (kr k num)).filter (fun e=>decide (e.k=5))=l.map (kr k num):=fun l=>by
  induction l with
  | nil=>exact⟨rfl,rfl⟩
  | cons a l ih=>simp only[map_cons,filter_cons,kr]at ih ⊢;exact⟨by simpa using ih.1,by simpa using ih.2⟩
 unfold Es;rw[filter_append,filter_append,(hA _).1,(hA _).2,(hB _).1,(hB _).2];simp
theorem Mk {S':HS} (hk:r.kind=5/\(txR S r.t).1.s=1) {x:Int} (hx:x ∈ lF S') {l:List aF} (hl:l.Perm (iS S (lF S') (hV S') j r)) (kd:Int) :
 (l.filter fun e=>decide (e.x=x)&&decide (e.k=kd)).length=((Gd S (hV S') r (txR S r.t).1.n (fD (cU S j) j r.t x)).filter fun e=>decide (e.k=kd)).length:=by
 rw[(hl.filter _).length_eq];unfold iS;rw[if_pos hk,List.flatMap_map,ro,yV (oA S') hx]
 ·congr 1
  apply List.filter_congr;intro e he;have:=(o7 he).1;rw[ji]at this;simp[this]
 ·intro y _ cf
  rw[filter_eq_nil_iff];intro e he;have:=(o7 he).1;rw[ji]at this;simp[this,cf]
theorem Fo {R:Int->List bO} {k:my}:((Gd S R r num k).filter fun e=>decide (e.k=4)).length=(jQ (eo (eO S r.p k.x) k.t (R k.x)) k.w k.n).length:=by
 unfold Gd;rw[(JO _ _ _).1,length_map]
theorem E_ {R:Int->List bO} {k:my}:((Gd S R r num k).filter fun e=>decide (e.k=5)).length=(mi (eo (eO S r.p k.x) k.t (R k.x)) k.w k.n).length:=by
 unfold Gd;rw[(JO _ _ _).2,length_map]
theorem Nx {R:Int->List bO} {k:my}:(Gd S R r num k).length=(jQ (eo (eO S r.p k.x) k.t (R k.x)) k.w k.n).length+(mi (eo (eO S r.p k.x) k.t (R k.x)) k.w k.n).length:=by
 unfold Gd Es;rw[length_append,length_map,length_map]
theorem Vv {L:List aR} (hf:Ga L) (hw:∀j r,L[j]?=some r->eA (L.take j) r=0) (cr:List XV) (hr:L[j]?=some r) (h5:r.kind=5) {x:Int} {k:my} (hk:k=fD (cU ((jN L).wr L.length cr) j) j r.t x) {row:List dY}
 (bA:row=eo (eO ((jN L).wr L.length cr) r.p x) r.t (hV (jN L) x)) :
 (row.any (gq k.w k.n)=true->(decide ((jQ row k.w k.n).length % 2=1)=k.m/\(jQ row k.w k.n).length+(mi row k.w k.n).length=(row.filter (·.c)).length))/\(row.any (gq k.w k.n)=false->(jQ row k.w k.n).length+(mi row k.w k.n).length=0):=by
 refine⟨fun ha=>?_,fun ha=>?_⟩
 ·have h0:0<=jk row k.w k.n:=Ol.2 ha
  refine⟨?_,?_⟩
  ·obtain⟨s,hs,h1,h2⟩:=UW h0
   have hA:jQ row k.w k.n=sE (row.take ((jk row k.w k.n).toNat+1)):=by
    unfold jQ;rw[if_neg af]
   rw[hA];rw[bA]at hs ⊢;rw[Rk hs,Vu hf hw cr hr h5 hk hs h1 h2];cases k.m<;>rfl
  ·rw[<-length_append,uR h0,hX]
 ·have h0:¬ 0<=jk row k.w k.n:=fun q=>by rw[Ol.1 q]at ha;cases ha
  rw[(iF h0).1,(iF h0).2];rfl
end
end Go.Xs
namespace Go.Xs
open List Nat Option
variable{L:List aR}{M:Hp}{b nx sz:Nat}{v:XV}
noncomputable section
open Go.Proofs
theorem Q8 (ρ:aK) (N:Hp) (nx:Nat) (a b:aF):bN ao ρ 11 [.agg (aM a),.agg (aM b)] N nx ⟨.int .i64 (Ft a b),[],[]⟩ nx:=bN.pure rfl rfl fun N=>f11 ρ N nx a b
theorem bE.part {P:Program} {len:Nat} {row:List XV} (h:bE M b v sz len row) {i:Nat} (hi:i<len) {t:Nat} (ht:es P t=some sz) :
 ∃n o,(∀k,br P t v (.int k (i:Int))=some (.mp n o))/\(∀(j:Nat) (x:XV),j<sz->((row.drop (i*sz)).take sz)[j]?=some x->∀(t' m:Nat),sa P t'=some (m,false)->∀N,aq b M N->b_ P N t' (.mp n (o+j))=some ⟨x,[n],[]⟩) /\
  ∀(j w:Nat),j+w<=sz->∀t',sa P t'=some (w,true)->∀N,aq b M N->b_ P N t' (.mp n (o+j))=some ⟨.agg ((((row.drop (i*sz)).take sz).drop j).take w),[n],[]⟩:=by
 obtain⟨n,o,h1,h2,cs,h3,h4,h5⟩:=h.at hi ht;refine⟨n,o,h2,fun j x hj hx t' m zp N hN=>?_,fun j w hj t' zp N hN=>?_⟩
 ·refine dB (lR h3 hN h1) zp ?_
  rw[h4,getElem?_take,if_pos hj,getElem?_drop]at hx;exact hx
 ·rw[fG (lR h3 hN h1) zp af,h4,List.drop_take,drop_drop,take_take,Nat.min_eq_left af]
def pC (l:List aF) (x kd:Int):Nat:=(l.filter fun e=>decide (e.x=x)&&decide (e.k=kd)).length
theorem ye {l:List aF} {q:Nat} {e:aF} (h:l[q]?=some e) (x kd:Int):pC (l.take (q+1)) x kd=pC (l.take q) x kd+if e.x=x/\e.k=kd then 1 else 0:=by
 unfold pC;rw[take_add_one,h,filter_append,length_append];congr 1;by_cases hx:e.x=x<;>by_cases hk:e.k=kd<;>simp[hx,hk]
theorem Jh (l:List aF) (x kd:Int):pC l x kd<=l.length:=length_filter_le _ _
theorem bE.kltV {n:Nat} {len:Nat} {row:List XV} (h:bE M b v sz len row) (hn:b<=n):Xs.kltV n v=true:=by
 rcases h.2 with ⟨rfl,_⟩ | ⟨k,off,cap,cs,rfl,hk,_⟩
 ·rfl
 ·simp only[Xs.kltV,blt_eq]
  omega
theorem Su (hI:Ci) (ρ:aK) (j9:ρ.det=false) {h:Nat} {S:HS} {R:Int->List bO} {Y:List Int} (H:tw M nx h S L R Y) {r:aR} (hr:r ∈ L) (h5:r.kind=5) {cs:List XV} (he:bG M b r.p cs) (hb:b<=nx) (x:Int) :
 ar ao ρ 15 [.mp h 0,.agg cs,.int .u64 x,.int .u64 r.t] M nx (Ai nx M 5 bi (eo (eO S r.p x) r.t (R x))):=by
 obtain⟨lo,hi,h1,h2⟩:=H.hist;have hx:=H.exs r hr h5;refine(ni hI ρ j9 h1 h2 H.nums H.vers H.fewm he hb hx.1 hx.2 x r.t (H.pos x)).mono fun o ⟨l,g1,g2,g3⟩=>?_
 rw[<-H.row x l g1 g2];exact⟨fun e=>by simp[eo]at e,g3⟩
theorem f3 (hS:kL) (hN:kJ) (hI:Ci) (hE:qi) (hJ:oD) (ρ:aK) (j9:ρ.det=false) (hL:cP M b v L) (hb:b<=nx) (iu:∀r ∈ L,gI r.p) :
 ar ao ρ 3 [v] M nx fun r=>r.1 = .bool true/\aq nx M r.2.1:=by
 have cF:cellsOf v=[v]/\ax v=true:=by
  obtain⟨row,cw,_⟩:=hL;exact cw.cell
 refine ar.wk 249 [.tmp 2] Tryz.func3 ?_;refine Ao G9 cF.1 cF.2 ?_;refine lG (f7 ρ hL af ak) fun M1 n1 g2 g3=>?_
 have a1:aq nx M M1:=g2.le af;cases ip:AM L 60 with
 | false =>
   refine mI G9 ip ?_;refine gQ (f8 hS hN hI hE hJ ρ j9 _ _) ?_;rintro⟨u,M2,n2⟩ ⟨g4,g5,g6⟩;simp only at g4 g5 g6;subst g4;refine bR G9 ?_;exact a1.trans (g5.le af)
 | true =>
   have hf:Ga L:=by
    unfold AM at ip;rw[Bool.and_eq_true,decide_eq_true_eq]at ip;obtain⟨FY,sS⟩:=ip;have h:∀r ∈ L,r.es.length<=60/\dV r.p<=60:=fun r hr=>by
     rw[take_of_length_le af,List.all_eq_true]at FY;have:=FY r hr;unfold vE at this;rw[Bool.and_eq_true,decide_eq_true_eq,decide_eq_true_eq]at this;exact⟨this.1,Em this.2⟩
    exact⟨af,fun r hr=>(h r hr).1,fun r hr=>(h r hr).2,iu⟩
   have hLl:=hf.len;refine ti G9 ip cF.1 cF.2 ?_;refine gQ (N9 hS hN ρ j9 (hL.agr (a1.le hb)) af hf) ?_;rintro⟨u,M2,n2⟩ ⟨hp,a2,h2⟩;simp only at hp a2 h2;have a2:aq nx M M2:=a1.trans (a2.le af);rcases hp with ⟨hw,n,rl,je,ho⟩ | ⟨hw,h,cr,ho,Q4⟩
   ·subst ho
    refine mI G9 je ?_;refine gQ (f8 hS hN hI hE hJ ρ j9 _ _) ?_;rintro⟨u,M3,n3⟩ ⟨g4,g5,g6⟩;simp only at g4 g5 g6;subst g4;refine bR G9 ?_;exact a2.trans (g5.le af)
   ·subst ho
    have vW:sC (jN L):=zT hf.len (fun r hr=>by have:=hf.es r hr;omega) hw;have few:=fun ask=>Le hf.len cr ask
    refine bR G9 ?_;refine gQ (jU hS hN hI hE ρ j9 (Q4.agr (aq.refl _ _) af) (by have:=few (fun _=>true);omega)) ?_;rintro⟨va,M3,n3⟩ ⟨l,q1,q2,q3,q4,q5,q6⟩;simp only at q3 q4 q5 q6;have bw:=Da q1 q2 (HT vW _ _ _);have dX:∀e ∈ l,e.a≠e.b:=fun e he=>Sh vW (q1.mem_iff.1 he)
    have qz:l.length<=900:=by rw[q1.length_eq];exact few _
    have hTl:=q1.length_eq;have Kg:bE M3 n3 va 9 l.length (l.flatMap aM):=q4.at (Nat.le_refl _);have hca:=Kg.cell;have a3:aq nx M M3:=a2.trans (q5.le af);have Q4:=Q4.agr (q5.le af) (nx':=n3) af;clear q1 q2 q3 q4 q5 a2 a1;have Tp:=fun N=>Kg.len (P:=ao) (t:=29) Lc.2.2.2.2.2 N
    refine Ao G9 hca.1 hca.2 ?_;refine aC (fun m s=>∃i:Nat,i<=l.length/\m=l.length - i/\gG s.env 0=some v/\gG s.env 3=some (.mp h 0)/\gG s.env 6=some va/\gG s.env 7=some (.int .i64 i)/\aq n3 M3 s.M/\n3<=s.nx) l.length ⟨0,af,af,?_⟩ ?_
    ·refine bR G9 ?_
     exact⟨aq.refl _ _,af⟩
    ·rintro m ⟨env,M4,n4⟩ ⟨i,hi,hm,e0,e3,e6,e7,a4,QX⟩
     simp only at e0 e3 e6 e7 a4 QX;by_cases aL:(i:Int)<(l.length:Int)
     ·have aP:i<l.length:=af
      have bV:=eF i;obtain⟨e,he⟩:∃e,l[i]?=some e:=⟨l[i],by simp[aP]⟩;obtain⟨n,o,jw,bC,Gl⟩:=Kg.fld (P:=ao) aP (t:=29) Lc.2.2.2.1;have Mt:e.a≠e.b:=dX e (mem_of_getElem? he);have bv:=Gl 0 (.int .i64 e.a) ak (by rw[iy he];rfl) 3 _ dA.1 M4 a4;have py:=Gl 1 (.int .i64 e.b) ak (by rw[iy he];rfl) 3 _ dA.1 M4 a4;rw[Nat.add_zero]at bv;have jT:∀(q:Nat) (d:aF),l[q]?=some d->∃n o,(∀k,br ao 29 va (.int k (q:Int))=some (.mp n o))/\b_ ao M4 35 (.mp n o)=some ⟨.agg (aM d),[n],[]⟩:=fun q d hd=>by
       obtain⟨n,o,_,bC,aU⟩:=Kg.elem (P:=ao) (List.getElem?_eq_some_iff.1 hd).1 (t:=29) (t':=35) Lc.2.2.2.1 jW.1;have aU:=aU M4 a4;rw[iy hd]at aU;exact⟨n,o,bC,aU⟩
      cases i with
      | zero =>
        have MJ:IntKind.i64.wrap (0+1)=((1:Nat):Int):=ak;have e7:gG env 7=some (.int .i64 0):=e7;have bC:∀k,br ao 29 va (.int k 0)=some (.mp n o):=bC;have aL:(0:Int)<(l.length:Int):=af;refine CU G9 e6 e7 aL Tp bC bv py Mt ?_;refine cA ?_ ak ?_
        ·refine bR G9 ?_;try exact⟨⟩
        refine ti G9 e6 e7 MJ ?_;exact⟨l.length - 1,af,1,af,rfl,e0,e3,rfl,a4,af⟩
      | succ i =>
        obtain⟨d,hd⟩:∃d,l[i]?=some d:=⟨l[i],aj⟩;obtain⟨n1',o1,x1,y1⟩:=jT i d hd;obtain⟨V2,o2,x2,y2⟩:=jT (i+1) e he;have sy:=(bC .i64).symm.trans (x2 .i64);simp only[Option.some.injEq,XV.mp.injEq]at sy;obtain⟨rfl,rfl⟩:=sy;have F1:CZ d e=true:=by
         have:=pairwise_iff_getElem.1 bw i (i+1) af aP af
         rwa [(List.getElem?_eq_some_iff.1 hd).2,(List.getElem?_eq_some_iff.1 he).2]at this
        have hc:¬ (0<=Ft d e):=by
         rw[<-zP]at F1;have:=of_decide_eq_true F1;omega
        have F_:IntKind.i64.wrap (((i+1:Nat):Int) - 1)=(i:Int):=by rw[wrap_i64 af af];omega
        have sV:(0:Int)<((i+1:Nat):Int):=af;simp only[aM]at y1 y2;refine ii G9 e6 e7 aL Tp bC bv py Mt F_ sV (aI x1 (aI y1 y2)) ?_;refine bF ?_ rfl ?_
        ·refine bR G9 ?_;try exact⟨⟩
        refine bR G9 ?_;refine aT (Q8 ρ _ _ d e) ak ?_;refine mY G9 hc e6 e7 bV ?_;exact⟨l.length - (i+2),af,i+2,af,rfl,e0,e3,rfl,a4,af⟩
     ·refine gw G9 e0 e3 e6 e7 aL Tp ?_
      clear e7 bw dX aL hi hm;obtain⟨S,ZO⟩:∃S,S=(jN L).wr L.length cr:=⟨_,rfl⟩;obtain⟨R,hRd⟩:∃R,R=hV (jN L):=⟨_,rfl⟩;obtain⟨Y,hYd⟩:∃Y,Y=lF (jN L):=⟨_,rfl⟩;have YJ:=fun(j:Nat) (r:aR) (x:Int) (k:my) (row:List dY) (h1:L[j]?=some r) (h2:r.kind=5) h3 h4=>Vv hf hw cr (j:=j) (r:=r) h1 h2 (x:=x) (k:=k) h3 (row:=row) h4
      have yH:=fun(j:Nat) (r:aR) h1 (x:Int) h2 (l:List aF) h3 kd=>Mk (S:=(jN L).wr L.length cr) (S':=jN L) (j:=j) (r:=r) h1 (x:=x) h2 (l:=l) h3 kd
      have bw:=fun(j:Nat) (r:aR) (h1:L[j]?=some r) (h2:r.kind=5) (x:Int)=>Hx (L:=L) (cr:=cr) h1 h2 x
      rw[<-ZO,<-hRd,<-hYd]at Q4 few hTl yH;rw[<-ZO,<-hRd]at YJ;rw[<-ZO]at bw;clear ZO hRd hYd;have hpr4:=Q4.agr a4 QX;have Yl:aq nx M M4:=a3.trans (a4.le af);have hsa4:=(Kg.agr a4).wk (b':=n4) QX;clear Q4 a4 Kg a3;obtain⟨row0,V_,YV⟩:=id hL;have Yb:=fun N=>V_.len (P:=ao) (t:=22) jp.2.2.2.2.2 N
      refine aC (fun m s=>∃(i seen:Nat),i<=L.length/\m=L.length - i/\seen+(ex (iS S Y R) (fun _=>true) i (L.drop i)).length=l.length/\gG s.env 0=some v/\gG s.env 3=some (.mp h 0)/\gG s.env 6=some va/\gG s.env 8=some (.int .i64 seen)/\gG s.env 9=some (.int .i64 i)/\aq n4 M4 s.M/\n4<=s.nx) L.length ⟨0,0,af,af,by rw[drop_zero,Nat.zero_add,hTl],?_⟩ ?_
      ·refine ti G9 e0 e3 e6 ?_
       exact⟨aq.refl _ _,af⟩
      ·clear e0 e3 e6
       rintro m ⟨env,M5,n5⟩ ⟨i,seen,hi,hm,wR,e0,e3,e6,e8,e9,a5,ZT⟩;simp only at e0 e3 e6 e8 e9 a5 ZT;have a35:aq nx M M5:=Yl.trans (a5.le af);have YQ:=hpr4.agr a5 ZT;by_cases aL:(i:Int)<(L.length:Int)
       ·have aP:i<L.length:=af
        obtain⟨r,hr⟩:∃r,L[i]?=some r:=⟨L[i],by simp[aP]⟩;have bV:=eF i;have wS:L.drop i=r::L.drop (i+1):=by rw[drop_eq_getElem_cons aP];congr 1;exact(List.getElem?_eq_some_iff.1 hr).2
        have qL:ex (iS S Y R) (fun j=>decide (j=(i:Int))) 0 L=iS S Y R i r:=by
         have:=PJ (f:=iS S Y R) L 0 hr
         rwa [Nat.zero_add]at this
        rw[wS]at wR;simp only[ex,if_true,length_append]at wR;obtain⟨rest,vR⟩:∃n,n=(ex (iS S Y R) (fun _=>true) (i+1) (L.drop (i+1))).length:=⟨_,rfl⟩;rw[<-vR]at wR;refine iC G9 e0 e3 e9 Yb aL ?_;refine gQ (mJ hS hN hI hE ρ j9 (YQ.agr (aq.refl _ _) af) i (by have:=few (fun j=>decide (j=(i:Int)));omega)) ?_;rintro⟨vb,M6,n6⟩ ⟨lp,q1,_,_,q4,q5,q6⟩;simp only at q4 q5 q6;rw[qL]at q1;have QJ:bE M6 n6 vb 9 lp.length (lp.flatMap aM):=q4.at (Nat.le_refl n6);have hcb:=QJ.cell;have a6:aq n5 M5 M6:=q5.le af;have QF:=YQ.agr a6 (nx':=n6) af;have Vk:aq nx M M6:=a35.trans (a6.le af);have hsL6:=V_.agr (Vk.le hb);have hlpl:lp.length<=900:=by
         have h1:=q1.length_eq;have h2:=few (fun j=>decide (j=(i:Int)));rw[qL]at h2;omega
        clear q4 q5 qL wS;obtain⟨n,o,bC,aU,UI⟩:=V_.part (P:=ao) aP (t:=22) jp.2.2.2.1;have hrr:=YV i r hr;obtain⟨pk,pa,pb,pv,ve,dI,p1,MT,_,yK⟩:=hrr.cells;have hpP:=UI 6 4 ak 44 fu.1;rw[dI]at hpP;simp only[drop_succ_cons,drop_zero,take_succ_cons,take_zero]at hpP;have Yd:=aU 1 (.int .u64 r.t) ak (by rw[dI];rfl) 31 _ dq.1;have hldT:=aU 1 (.int .u64 r.t) ak (by rw[dI];rfl) 31 _ dq.1 M6 (Vk.le hb);have Qt:=aU 0 (.int .i64 r.kind) ak (by rw[dI];rfl) 3 _ dA.1;rw[Nat.add_zero]at Qt;refine iQ G9 hcb.1 hcb.2 e0 e3 e9 bC hldT ?_;obtain⟨lo,hi',hH,ZI⟩:=QF.hist;refine lG (mA ρ hH af QF.nums r.t) fun M7 n7 q8 q9=>?_
        have a7:aq n6 M6 M7:=q8.le af;clear q8 hH ZI;have VT:¬ (r.kind=5/\(txR S r.t).1.s=1)->lp.length=0:=fun h=>by
         rw[q1.length_eq];unfold iS;rw[if_neg h];rfl
        obtain⟨⟨xt,xb,xe,xs,xn⟩,hx⟩:∃a,a=(txR S r.t).1:=⟨_,rfl⟩;have Wm:xs=(txR S r.t).1.s:=by rw[<-hx]
        have hxn:xn=(txR S r.t).1.n:=by rw[<-hx]
        rw[<-Wm]at VT;rw[<-hx];generalize (txR S r.t).2=tb;simp only[d_];have Qt:=fun N (hN:aq n6 M6 N)=>Qt N ((Vk.le hb).trans (hN.le af))
        refine bR G9 ?_;generalize YL:aG (aG M7 _ _) _ _=M8;have a8:aq n7 M7 M8:=by rw[<-YL];exact O
        have z8:gG M8 (n7+3)=some (.row [.int .u64 xt,.int .i64 xb,.int .i64 xe,.int .i64 xs,.int .i64 xn]):=by rw[<-YL];exact J
        clear YL;have Zo:aq n6 M6 M8:=a7.trans (a8.le af);have y_:=Qt M8 Zo;have Ma:=fun N=>QJ.len (P:=ao) (t:=29) Lc.2.2.2.2.2 N
        clear a7 a8;by_cases Uk:r.kind=5/\xs=1
        ·obtain⟨vc,rfl⟩:=Uk
         rw[vc]at y_;refine CU G9 e0 e3 e9 bC y_ z8 Yb aL ?_;have AY:=QF.agr Zo (nx':=n7+4) af;obtain⟨lo,hi',hH,ZI⟩:=AY.hist;refine gQ (nZ hS hN ρ j9 hH af AY.n (fun j r hr=>(AY.recs j r hr).wk af) AY.few AY.fewr AY.fewk AY.fewo hr vc).out ?_;rintro⟨vs,M9,n9⟩ ⟨⟨ys,Oi,JJ,q10,q11⟩,Qq,_⟩;simp only at JJ q10 q11 Qq;obtain rfl:=AY.objs ys Oi;have hyn:ys.Nodup:=Oi.1.imp fun h=>af
         have Zw:aq n6 M6 M9:=Zo.trans (q10.le af);clear hH ZI Qt y_ z8 q10 AY VT;have Wf:iS S ys R i r=(ys.map (fD (cU S i) i r.t)).flatMap (Gd S R r xn):=by
          unfold iS;rw[if_pos ⟨vc,Wm.symm⟩,hxn]
         have hql:(ys.map (fD (cU S i) i r.t)).length<=4000:=by rw[length_map];exact QF.fewo ys hyn fun x hx=>(Oi.2 x).1 hx
         have hQ:∀(k:Nat) kl,(ys.map (fD (cU S i) i r.t))[k]?=some kl->∃x ∈ ys,kl=fD (cU S i) i r.t x:=fun k kl hk=>by
          obtain⟨x,hx,rfl⟩:=mem_map.1 (mem_of_getElem? hk);exact⟨x,hx,rfl⟩
         have Hj:seen+((ys.map (fD (cU S i) i r.t)).flatMap (Gd S R r xn)).length+rest=l.length:=by rw[<-Wf];omega
         generalize ys.map (fD (cU S i) i r.t)=Q at JJ hql hQ Hj;have hsq:bE M9 n9 vs 8 Q.length (Q.flatMap cX):=JJ.at (Nat.le_refl n9);have hcq:=hsq.cell;have hlQ:=fun N=>hsq.len (P:=ao) (t:=48) jn.2.2.2.2.2 N
         have hsb9:=(QJ.agr Zw).wk (b':=n9) af;have hpr9:=QF.agr Zw (nx':=n9) af;have a39:aq nx M M9:=Vk.trans (Zw.le af);have a49:aq n4 M4 M9:=a5.trans ((a6.le af).trans (Zw.le af));refine Ao G9 hcq.1 hcq.2 ?_;refine aC (fun m s=>∃(k seen2:Nat),k<=Q.length/\m=Q.length - k/\seen2+((Q.drop k).flatMap (Gd S R r xn)).length+rest=l.length/\gG s.env 0=some v/\gG s.env 3=some (.mp h 0)/\gG s.env 6=some va/\gG s.env 8=some (.int .i64 seen2)/\gG s.env 9=some (.int .i64 i)/\gG s.env 10=some vb/\gG s.env 13=some vs/\gG s.env 14=some (.int .i64 k)/\aq n9 M9 s.M/\Cl s.nx s.M/\n9<=s.nx) Q.length ⟨0,seen,af,af,by rw[drop_zero];exact Hj,?_⟩ ?_
         ·refine iC G9 e0 e3 e6 e8 e9 ?_
          exact⟨aq.refl _ _,Qq.le af,af⟩
         ·clear e0 e3 e6 e8 e9 JJ wR Hj
          rintro m2 ⟨env2,M10,n10⟩ ⟨k,seen2,hk,JE,Z_,e0,e3,e6,e8,e9,dx,qI,pu,y9,wC,Yv⟩;simp only at e0 e3 e6 e8 e9 dx qI pu y9 wC Yv;by_cases Yn:(k:Int)<(Q.length:Int)
          ·have Qu:k<Q.length:=af
           have F_:=eF k;obtain⟨kl,kA⟩:∃kl,Q[k]?=some kl:=⟨Q[k],by simp[Qu]⟩;obtain⟨x,hxy,QU⟩:=hQ k kl kA;have hdk:Q.drop k=kl::Q.drop (k+1):=by rw[drop_eq_getElem_cons Qu];congr 1;exact(List.getElem?_eq_some_iff.1 kA).2
           rw[hdk,flatMap_cons,length_append]at Z_;have Tf:kl.x=x:=by rw[QU,ji]
           obtain⟨nq,oq,D3,hfq,Gq⟩:=hsq.part (P:=ao) Qu (t:=48) jn.2.2.2.1;have YT:=hfq 3 (.int .u64 x) ak (by rw[jK kA,<-Tf];rfl) 31 _ dq.1 M10 y9;have UH:=hsb9.agr y9;have Ma:=fun N=>UH.len (P:=ao) (t:=29) Lc.2.2.2.2.2 N
           refine mY G9 qI pu hlQ Yn ?_;refine aC (fun m s=>∃q,q<=lp.length/\m=lp.length - q/\gG s.env 0=some v/\gG s.env 3=some (.mp h 0)/\gG s.env 6=some va/\gG s.env 8=some (.int .i64 seen2)/\gG s.env 9=some (.int .i64 i)/\gG s.env 10=some vb/\gG s.env 13=some vs/\gG s.env 14=some (.int .i64 k)/\gG s.env 15=some (.int .i64 (pC (lp.take q) x 4:Nat))/\gG s.env 16=some (.int .i64 (pC (lp.take q) x 5:Nat))/\gG s.env 17=some (.int .i64 q)/\s.M=M10/\n10<=s.nx) lp.length ⟨0,af,af,?_⟩ ?_
           ·refine CU G9 e0 e3 e6 e8 e9 dx qI pu ?_
            exact⟨rfl,rfl,af⟩
           ·clear e0 e3 e6 e8 e9 dx qI pu
            rintro m3 ⟨env3,M11,Mc⟩ ⟨q,hq,hm3,e0,e3,e6,e8,e9,dx,qI,pu,gW,pE,CB,rfl,hn11⟩;simp only at e0 e3 e6 e8 e9 dx qI pu gW pE CB hn11;by_cases QA:(q:Int)<(lp.length:Int)
            ·have Un:q<lp.length:=af
             have QM:=eF q;obtain⟨e,he⟩:∃e,lp[q]?=some e:=⟨lp[q],by simp[Un]⟩;obtain⟨ne,oe,S9,hfe,_⟩:=UH.part (P:=ao) Un (t:=29) Lc.2.2.2.1;have Zk:=hfe 3 (.int .u64 e.x) ak (by rw[iy he];rfl) 31 _ dq.1 M11 (aq.refl _ _);have Wh:=hfe 2 (.int .i64 e.k) ak (by rw[iy he];rfl) 3 _ dA.1 M11 (aq.refl _ _);have h4:=ye he x 4;have h5:=ye he x 5;have h4l:=Jh (lp.take q) x 4;have h5l:=Jh (lp.take q) x 5;rw[length_take]at h4l h5l;have hw5:IntKind.i64.wrap (((pC (lp.take q) x 4:Nat):Int)+1)=((pC (lp.take q) x 4+1:Nat):Int):=by rw[wrap_i64 af af];omega
             have hw6:IntKind.i64.wrap (((pC (lp.take q) x 5:Nat):Int)+1)=((pC (lp.take q) x 5+1:Nat):Int):=by rw[wrap_i64 af af];omega
             by_cases VV:e.x=x
             ·rw[VV]at Zk
              by_cases Wi:e.k=4
              ·rw[Wi]at Wh
               rw[if_pos ⟨VV,Wi⟩]at h4;rw[if_neg af]at h5;refine ii G9 dx qI pu gW pE CB Ma QA S9 Zk (aI Wh (aI D3 (aI YT (aI QM hw5)))) ?_;exact⟨lp.length - (q+1),af,q+1,af,rfl,e0,e3,e6,e8,e9,by simp only[h4,Nat.add_zero],by simp only[h5,Nat.add_zero],rfl,af⟩
              ·rw[if_neg (fun h=>Wi h.2)]at h4
               by_cases Tb:e.k=5
               ·rw[Tb]at Wh
                rw[if_pos ⟨VV,Tb⟩]at h5;refine ii G9 dx qI pu gW pE CB Ma QA S9 Zk (aI Wh (aI D3 (aI YT (aI QM hw6)))) ?_;exact⟨lp.length - (q+1),af,q+1,af,rfl,e0,e3,e6,e8,e9,by simp only[h4,Nat.add_zero],by simp only[h5,Nat.add_zero],rfl,af⟩
               ·rw[if_neg (fun h=>Tb h.2)]at h5
                refine ii G9 dx qI pu gW pE CB Ma QA S9 Zk (aI Wh (aI D3 (aI YT (aI QM (aI Wi Tb))))) ?_;exact⟨lp.length - (q+1),af,q+1,af,rfl,e0,e3,e6,e8,e9,by simp only[h4,Nat.add_zero],by simp only[h5,Nat.add_zero],rfl,af⟩
             ·rw[if_neg (fun h=>VV h.1)]at h4 h5
              refine ii G9 dx qI pu gW pE CB Ma QA S9 Zk (aI Wh (aI D3 (aI YT (aI QM VV)))) ?_;exact⟨lp.length - (q+1),af,q+1,af,rfl,e0,e3,e6,e8,e9,by simp only[h4,Nat.add_zero],by simp only[h5,Nat.add_zero],rfl,af⟩
            ·have yR:q=lp.length:=af
             rw[yR,take_length]at gW pE;obtain⟨reads,YU⟩:∃n,n=pC lp x 4:=⟨_,rfl⟩;obtain⟨overs,YM⟩:∃n,n=pC lp x 5:=⟨_,rfl⟩;rw[<-YU]at gW;rw[<-YM]at pE;have VG:aq nx M M11:=a39.trans (y9.le af);have YO:=hpP M11 (VG.le hb);have hT11:=Yd M11 (VG.le hb);have Z9:kltV Mc pv=true:=by
              have QI:=yK;generalize r.p=pp at QI;obtain⟨a,bb,cc,ps⟩:=pp;simp only[bG]at QI;obtain⟨v',row',e',ox,_⟩:=QI;simp only[List.cons.injEq,XV.int.injEq,true_and,and_true]at e';rw[e'.2.2.2];exact ox.kltV af
             have QE:=hpr9.agr y9 Yv;have hkh:h<n10:=by
              obtain⟨lo,hi',hH,ZI⟩:=QE.hist;have:=hH.lo_le;omega
             refine ii G9 dx CB Ma QA e0 e3 e9 qI pu bC (aI YO (aI p1.1 (aI p1.2 (aI D3 (aI YT hT11))))) ?_;have hb20:Nat.blt h (Mc+20)=true:=by rw[blt_eq];omega
             have hp20:kltV (Mc+20) pv=true:=kltV.le af Z9;refine aT (bN.lst (l:=eo (eO S r.p x) r.t (R x)) (enc:=bi) (sz:=5) (fun _=>rfl) (wC.le af) (by simp only[aE,kltV,hb20,hp20]) fun N hN=>Su hI ρ j9 (QE.agr (hN.le af) af) (mem_of_getElem? hr) vc (yK.agr ((VG.trans (hN.le af)).le hb)) af x) ak ?_;have je:=(nQ (eO S r.p x) r.t (R x)).2;have ZN:=QE.rowl x;have VF:=Ar (M:=M11) (nx:=Mc+20) (enc:=bi) (sz:=5) (l:=eo (eO S r.p x) r.t (R x)) (fun _=>rfl) af;have Qw:=oK (M:=M11) (nx:=Mc+20) (enc:=bi) (l:=eo (eO S r.p x) r.t (R x));have Zs:=pD (nx:=Mc+20) (l:=eo (eO S r.p x) r.t (R x));have wG:Cl (ll (Mc+20) (eo (eO S r.p x) r.t (R x))) (aY M11 (mb (Mc+20) bi (eo (eO S r.p x) r.t (R x)))):=Gy (enc:=bi) (l:=eo (eO S r.p x) r.t (R x)) (fun _=>rfl) (wC.le (show n10<=Mc+20 by omega));have aQ:=YJ i r x kl _ hr vc QU rfl;have hra:reads=(jQ (eo (eO S r.p x) r.t (R x)) kl.w kl.n).length:=by
              rw[YU];unfold pC;rw[yH i r ⟨vc,Wm.symm⟩ x hxy lp q1 4,Fo,<-QU,Tf,QU,bw i r hr vc]
             have hov:overs=(mi (eo (eO S r.p x) r.t (R x)) kl.w kl.n).length:=by
              rw[YM];unfold pC;rw[yH i r ⟨vc,Wm.symm⟩ x hxy lp q1 5,E_,<-QU,Tf,QU,bw i r hr vc]
             have hsum:(Gd S R r xn kl).length=reads+overs:=by
              rw[Nx,hra,hov,Tf,QU,bw i r hr vc]
             rw[<-hra,<-hov]at aQ;clear hra hov;generalize eo (eO S r.p x) r.t (R x)=row at je VF Qw Zs wG aQ ⊢;refine mI G9 @aA ?_;generalize hM12:aY M11 (mb (Mc+20) bi row)=M12 at VF Qw wG ⊢;generalize ll (Mc+20) row=n12 at VF Zs wG ⊢;generalize GP (Mc+20) 5 row=rv at VF ⊢;clear hM12;have Wj:bE M12 n12 rv 5 row.length (row.flatMap bi):=VF.at (Nat.le_refl n12);have Ul:=fun N=>Wj.len (P:=ao) (t:=52) qa.2.2.2.2.2 N
             have SR:aq n9 M9 M12:=y9.trans (Qw.le af);have E0:=Gq 4 2 ak 33 OL.1 M12 SR;rw[jK kA]at E0;have E0:b_ ao M12 33 (.mp nq (oq+4))=some ⟨.agg [.int .u64 kl.w,.int .u64 kl.n],[nq],[]⟩:=E0;have hqm:=hfq 7 (.bool kl.m) ak (by rw[jK kA];rfl) 4 _ kH.1 M12 SR;refine aC (fun m s=>∃q,q<=row.length/\m=row.length - q/\gG s.env 0=some v/\gG s.env 3=some (.mp h 0)/\gG s.env 6=some va/\gG s.env 8=some (.int .i64 seen2)/\gG s.env 9=some (.int .i64 i)/\gG s.env 10=some vb/\gG s.env 13=some vs/\gG s.env 14=some (.int .i64 k)/\gG s.env 15=some (.int .i64 reads)/\gG s.env 16=some (.int .i64 overs)/\gG s.env 18=some rv/\gG s.env 19=some (.bool ((row.take q).any (gq kl.w kl.n)))/\gG s.env 20=some (.int .i64 (((row.take q).filter (·.c)).length:Nat))/\gG s.env 21=some (.int .i64 q)/\s.M=M12/\n12<=s.nx) row.length ⟨0,af,af,?_⟩ ?_
             ·refine dw G9 e0 e3 e6 e8 e9 dx qI pu gW pE ?_
              exact⟨rfl,rfl,af⟩
             ·clear e0 e3 e6 e8 e9 dx qI pu gW pE CB
              rintro m4 ⟨Yq,M13,n13⟩ ⟨q,hq,VH,e0,e3,e6,e8,e9,dx,qI,pu,gW,pE,vT,vU,FV,TS,rfl,hn13⟩;simp only at e0 e3 e6 e8 e9 dx qI pu gW pE vT vU FV TS hn13 E0 hqm;by_cases LM:(q:Int)<(row.length:Int)
              ·have Uo:q<row.length:=af
               have QM:=eF q;obtain⟨st,kU⟩:∃e,row[q]?=some e:=⟨row[q],by simp[Uo]⟩;obtain⟨nr,or',Ta,h_,hpr'⟩:=Wj.part (P:=ao) Uo (t:=52) qa.2.2.2.1;have YZ:=hpr' 0 2 ak 33 OL.1 M13 (aq.refl _ _);rw[nM kU,Nat.add_zero]at YZ;have YZ:b_ ao M13 33 (.mp nr or')=some ⟨.agg [.int .u64 st.w,.int .u64 st.n],[nr],[]⟩:=YZ;have UK:=h_ 4 (.bool st.c) ak (by rw[nM kU];rfl) 4 _ kH.1 M13 (aq.refl _ _);have ht1:row.take (q+1)=row.take q++[st]:=by rw[take_add_one,kU];rfl
               have cF:=length_filter_le (·.c) (row.take q);rw[length_take]at cF;have hw5:IntKind.i64.wrap ((((row.take q).filter (·.c)).length:Nat)+1:Int)=((((row.take q).filter (·.c)).length+1:Nat):Int):=by rw[wrap_i64 af af];omega
               have Kh:(row.take (q+1)).any (gq kl.w kl.n)=((row.take q).any (gq kl.w kl.n)||gq kl.w kl.n st):=by rw[ht1,List.any_append];simp
               have S5:((row.take (q+1)).filter (·.c)).length=((row.take q).filter (·.c)).length+if st.c=true then 1 else 0:=by
                rw[ht1,filter_append,length_append];cases hc:st.c<;>simp[hc]
               have hiv:(decide (st.w=kl.w)&&decide (st.n=kl.n))=gq kl.w kl.n st:=rfl;cases Ur:(row.take q).any (gq kl.w kl.n) with
               | true =>
                 rw[Ur]at vU;cases Tu:st.c with
                 | true =>
                   rw[Tu]at UK;refine ii G9 qI pu vT vU FV TS Ul LM Ta UK (aI QM hw5) ?_;exact⟨row.length - (q+1),af,q+1,af,rfl,e0,e3,e6,e8,e9,dx,gW,pE,by rw[Kh,Ur];rfl,by rw[S5,Tu];rfl,rfl,af⟩
                 | false =>
                   rw[Tu]at UK;refine ii G9 qI pu vT vU FV TS Ul LM Ta UK QM ?_;exact⟨row.length - (q+1),af,q+1,af,rfl,e0,e3,e6,e8,e9,dx,gW,pE,by rw[Kh,Ur];rfl,by rw[S5,Tu];rfl,rfl,af⟩
               | false =>
                 rw[Ur]at vU;cases Tu:st.c with
                 | true =>
                   rw[Tu]at UK;refine ii G9 qI pu vT vU FV TS Ul LM Ta YZ (aI D3 (aI E0 (aI hiv (aI UK (aI QM hw5))))) ?_;exact⟨row.length - (q+1),af,q+1,af,rfl,e0,e3,e6,e8,e9,dx,gW,pE,by rw[Kh,Ur];rfl,by rw[S5,Tu];rfl,rfl,af⟩
                 | false =>
                   rw[Tu]at UK;refine ii G9 qI pu vT vU FV TS Ul LM Ta YZ (aI D3 (aI E0 (aI hiv (aI UK QM)))) ?_;exact⟨row.length - (q+1),af,q+1,af,rfl,e0,e3,e6,e8,e9,dx,gW,pE,by rw[Kh,Ur];rfl,by rw[S5,Tu];rfl,rfl,af⟩
              ·have yR:q=row.length:=af
               rw[yR,take_length]at vU FV;have cw:seen2+reads+overs<=900:=af;have Mr:(row.filter (·.c)).length<=1001:=Nat.le_trans (length_filter_le _ _) af;have hwa:IntKind.i64.wrap ((seen2:Int)+(reads:Int))=((seen2+reads:Nat):Int):=by rw[wrap_i64 af af];omega
               have hwb:IntKind.i64.wrap (((seen2+reads:Nat):Int)+(overs:Int))=((seen2+reads+overs:Nat):Int):=by rw[wrap_i64 af af];omega
               have Y2:IntKind.i64.wrap ((reads:Int)+(overs:Int))=((reads+overs:Nat):Int):=by rw[wrap_i64 af af];omega
               have hrem:(reads:Int).tmod 2=((reads % 2:Nat):Int):=by
                rw[Int.tmod_eq_emod_of_nonneg af];omega
               cases Ur:row.any (gq kl.w kl.n) with
               | true =>
                 rw[Ur]at vU;obtain⟨k1,k2⟩:=aQ.1 Ur;rw[<-k2]at FV;have hbz:∀b',io ao g0 4 .neq b' (.bool (decide (((reads % 2:Nat):Int)=1))) (.bool kl.m)=some (.bool false):=fun b'=>by
                  rw[show decide (((reads % 2:Nat):Int)=1)=kl.m from by
                   rw[<-k1];by_cases hh:reads % 2=1
                   ·rw[hh];rfl
                   ·rw[decide_eq_false hh,decide_eq_false af]]
                  cases kl.m<;>cases b' <;> kernel_rfl
                 refine ii G9 vT TS Ul LM e8 qI pu gW pE vU (aI FV (aI D3 (aI hqm (aI hrem (aI hbz (aI Y2 (aI hwa (aI hwb F_)))))))) ?_;exact⟨Q.length - (k+1),af,k+1,seen2+(reads+overs),af,rfl,af,e0,e3,e6,rfl,e9,dx,rfl,SR,wG.le af,af⟩
               | false =>
                 rw[Ur]at vU;have k2:=aQ.2 Ur;have hz0:¬ (0:Int)<((reads+overs:Nat):Int):=af;refine ii G9 vT TS Ul LM e8 qI pu gW pE vU (aI FV (aI Y2 (aI hwa (aI hwb (aI hz0 F_))))) ?_;exact⟨Q.length - (k+1),af,k+1,seen2+(reads+overs),af,rfl,af,e0,e3,e6,rfl,e9,dx,rfl,SR,wG.le af,af⟩
          ·have F0:k=Q.length:=af
           rw[F0,drop_length]at Z_;simp only[flatMap_nil,length_nil,Nat.add_zero]at Z_;refine gw G9 qI pu hlQ Yn e9 bV ?_;exact⟨L.length - (i+1),af,i+1,seen2,af,rfl,by rw[<-vR];exact Z_,e0,e3,e6,e8,rfl,a49.trans (y9.le af),af⟩
        ·have h0:=VT Uk
         have Uz:seen+rest=l.length:=by
          have:(iS S Y R i r).length=0:=by rw[<-q1.length_eq,h0]
          omega
         have X9:∀(M9:Hp) (n9:Nat),aq n6 M6 M9->n6<=n9->(aq n4 M4 M9/\n4<=n9):=fun M9 n9 h1 h2=>⟨a5.trans ((a6.le af).trans (h1.le af)),af⟩
         obtain⟨vj,RU⟩:=X9 M8 (n7+4) Zo af;have Ya:∀N,kZ ao N 29 vb=some ⟨.int .i64 0,[],[]⟩:=fun N=>by
          have:=Ma N;rw[h0]at this;exact this
         by_cases vc:r.kind=5
         ·have hxs1:¬ xs=1:=fun q=>Uk ⟨vc,q⟩
          rw[vc]at y_;refine ii G9 e0 e3 e9 bC y_ z8 Yb aL hxs1 Ya bV ?_;exact⟨L.length - (i+1),af,i+1,seen,af,rfl,by rw[<-vR];exact Uz,e6,e8,rfl,vj,af⟩
         ·refine ii G9 e0 e3 e9 bC y_ z8 Yb aL vc Ya bV ?_
          exact⟨L.length - (i+1),af,i+1,seen,af,rfl,by rw[<-vR];exact Uz,e6,e8,rfl,vj,af⟩
       ·have gB:i=L.length:=af
        rw[gB,drop_length]at wR;simp only[ex,length_nil,Nat.add_zero]at wR;subst wR;have Tp:=fun N=>hsa4.len (P:=ao) (t:=29) Lc.2.2.2.2.2 N
        refine CU G9 e0 e3 e6 e8 e9 Yb aL Tp ?_;refine gQ (f8 hS hN hI hE hJ ρ j9 _ _) ?_;rintro⟨u,M6,n6⟩ ⟨q1,q2,q3⟩;simp only at q1 q2 q3;subst q1;refine bR G9 ?_;exact a35.trans (q2.le af)
end
end Go.Xs
namespace Go.Xs
open List Nat Option
open Go.Proofs Go.RowKit
def JoinC:Prop:=∀(bk o c:Nat) (xs:List ByteArray) (sep:ByteArray) (w:World),(∀(j:Nat) x,xs[j]?=some x->w.cell? ⟨bk,o+j,none⟩=some (.string x))->bk<w.heap.size->xs.length<=140737488355328->xs.length<=c ->
 (Lib.join (xs.map (·.data.toList)) sep.data.toList).length<=140737488355328 ->
 Calls ao 58 #[.slice (some ⟨bk,o,none⟩) xs.length c,.string sep] w fun e w'=>e = .returned (.string ⟨(Lib.join (xs.map (·.data.toList)) sep.data.toList).toArray⟩)/\Below w.heap.size w w'
theorem UO (h:JoinC):oD:=fun _=>FS Tryz.func58 (mV names _ _ Tryz.func58) U h
end Go.Xs
namespace Go.Xs
open List Nat Option
open Go.Proofs Go.RowKit
open Go.ChangeShapes Go.WideShapes Go.ChangeAt
variable {H:Type} {enc:TypeId×Value->H}
theorem predsOdd_calls (hC:JoinC) {W:World} {base:Nat} {v:Value} {d:DataW H} {p:List MemPlace} (NP:∃(b:Nat) (us:Array Value) (t:TypeId) (fz:Nat×Nat),W.heap[b]?=some (.cells us t fz))
 (hk:Value.okWide ao W .any base 22 v) (h:DataW.Trod enc ao W 0 (fun _=>true) true 22 v d p) :
 Calls ao 3 #[v] W fun e w'=>e = .returned (.bool true)/\Below W.heap.size W w':=by
 obtain⟨a,len,cap,rfl⟩:=okWide_slice Tryz.underlying22 hk;obtain⟨n,h⟩:=h;obtain⟨σ,M,nx,xs,g,_,hv,ht,hl⟩:=zq (ρ:=⟨fun _=>0,fun _=>none,false⟩) C1 NP n 22 [.slice a len cap] ⟨_,h⟩ Vh .nil 0 (oS.start _ _ fun _=>rfl) ak;have hl:xs.length=1:=hl.trans U;obtain⟨x,rfl⟩:∃x,xs=[x]:=by
  match xs,hl with
  | [x],_=>exact⟨x,rfl⟩
 obtain⟨L,h1,h2⟩:=Sz ht;exact Fq (vs:=[.slice a len cap]) g (f3 O9 PY Pb U1 (UO hC) _ rfl h1 (Nat.le_refl _) h2) (fun r h=>h.1) hv Tryz.func3 U U
end Go.Xs
