/- A part of the proof: the layers and contracts it rests on. -/
import Derived.Test.YtcibleglaghhfaaGreatDoorXsPB
import Derived.Test.YtcibleglaghhfaaGreatDoorXsPC
import Derived.Test.YtcibleglaghhfaaGreatDoorXsPE
import Derived.Test.YtcibleglaghhfaaGreatDoorProg
set_option maxRecDepth 100000
set_option maxHeartbeats 4000000
set_option linter.all false
set_option linter.deprecated false
namespace Go.Xs
open List Nat Option
noncomputable section
open Go.Proofs
def MadeP (nx:Nat) (M:Hp) (r:ew):Prop:=(∃(a:Int) (d k:Bool),r.1 = .tup [.int .u64 a,.bool d,.bool k])/\aq nx M r.2.1/\nx<=r.2.2
theorem f157 (ρ:aK) {L:List aR} {M:Hp} {nx b:Nat} {v:XV} (hL:cP M b v L) (hb:b<=nx) (hl:L.length<=100000) (x w n:Int):ar am ρ 157 [v,.int .u64 x,.agg [.int .u64 w,.int .u64 n]] M nx (MadeP nx M):=by
 refine ar.closed fun cF aX=>?_
 have hv:aO nx v=true:=cq aX ae;clear aX;obtain⟨row,a9,gS⟩:=hL;have ay:=fun N=>a9.len (P:=am) (t:=35) jW.2.2.2.2.2 N
 refine ar.wk 42 [.tmp 6,.tmp 7,.tmp 8] Tryz.func157 ?_;refine bR Fl ?_;generalize xu:ci M nx _=M1;have a1:aq nx M M1:=by rw[<-xu];exact O
 have z5:gG M1 nx=some (.row [.int .u64 w,.int .u64 n]):=by rw[<-xu];exact J
 have sR:Cl (nx+1) M1:=by rw[<-xu];exact(cF.le Z).set Z rfl
 clear xu;refine aC (fun m' s=>∃(i:Nat) (c:Int),i<=L.length/\m'=L.length - i/\gG s.env 0=some v/\gG s.env 1=some (.int .u64 x)/\gG s.env 5=some (.mp nx 0)/\gG s.env 9=some (.int .u64 c)/\gG s.env 10=some (.int .i64 i)/\aq (nx+1) M1 s.M/\Cl s.nx s.M/\nx+1<=s.nx) L.length ⟨0,0,Z,Z,?_⟩ ?_
 ·refine bR Fl ?_
  exact⟨aq.refl _ _,sR.le Z,Z⟩
 ·rintro m' ⟨env,M',nx'⟩ ⟨i,c,hi,ir,e0,e1,e5,e9,dx,ha,jY,hn⟩
  simp only at e0 e1 e5 e9 dx ha jY hn;have aM:aq nx M M':=a1.trans (ha.le Z);by_cases aL:(i:Int)<L.length
  ·have aP:i<L.length:=Z
   obtain⟨r,hr⟩:∃r,L[i]?=some r:=⟨L[i],by simp[aP]⟩;have bV:=eF i;have y5:=(ha nx Z).trans z5;obtain⟨q,o,Oc,bC,aU⟩:=a9.elem (P:=am) aP (t:=35) (t':=116) jW.2.2.2.1 nO.1;have aU:=aU M' (aM.le hb);obtain⟨q2,o2,hqb2,iN,mi⟩:=a9.fldG (P:=am) aP (t:=35) jW.2.2.2.1;obtain⟨pk,pa,pb,pv,ve,dI,_⟩:=(gS i r hr).cells;have l0:=mi 0 (.int .i64 r.kind) Z (by rw[dI];rfl) 3 1 dA.1 M' (aM.le hb);have l4:=mi 5 (.int .u64 r.v) Z (by rw[dI];rfl) 23 1 bi.1 M' (aM.le hb);rw[Nat.add_zero]at l0;clear mi;have kA:∀k,nx'<=k->aE k ((row.drop (i*11)).take 11)=true:=fun k hk=>mU fun y hy=>aO.le hk ((a9.agr (aM.le hb)).kltRow jY y (mem_of_mem_drop (mem_of_mem_take hy)))
   have hrr:=(gS i r hr).agr (aM.le hb);refine dw Fl e0 e1 e5 e9 dx ay aL bC aU y5 ?_;refine aT (bN.read (v:=.bool (fI r w x)) (jY.le Z) (by simp only[aE,aO];rw[kA _ Z]) rfl fun N hN=>Yh ρ (hrr.agr (hN.le Z)) w x) af ?_;cases hm:fI r w x with
   | false =>
     refine iQ Fl e0 e1 e5 e9 dx @aA bV ?_;exact⟨L.length - (i+1),Z,i+1,c,Z,rfl,rfl,rfl,ha,jY.le Z,Z⟩
   | true =>
     obtain⟨c1,hc1⟩:∃c1,IntKind.u64.wrap (c+1)=c1:=⟨_,rfl⟩;by_cases Zc:c1=n
     ·refine ii Fl e0 e1 e5 e9 dx @aA hc1 Zc y5 iN (aI l0 (aI l4 @MadeP.eq_1)) ?_
      exact⟨⟨_,_,_,rfl⟩,aM,Z⟩
     ·refine dw Fl e0 e1 e5 e9 dx @aA hc1 Zc y5 bV ?_
      exact⟨L.length - (i+1),Z,i+1,c1,Z,rfl,rfl,rfl,ha,jY.le Z,Z⟩
  ·refine CU Fl e0 e1 e5 e9 dx ay aL @MadeP.eq_1 ?_
   exact⟨⟨0,false,false,rfl⟩,aM,Z⟩
end
end Go.Xs
namespace Go.Xs
open List Nat Option
variable{M:Hp}{b nx:Nat}{cs:List XV}
noncomputable section
open Go.Proofs
def nQ (nx:Nat) (M:Hp) (r:ew):Prop:=(∃k:Bool,r.1 = .bool k)/\aq nx M r.2.1/\nx<=r.2.2
def wR (nx:Nat) (M:Hp) (r:ew):Prop:=(∃k:Int,r.1 = .int .i64 k)/\aq nx M r.2.1/\nx<=r.2.2
theorem f298 (ρ:aK) {e:Ex} (he:bG M b e cs) (hb:b<=nx):ar am ρ 298 [.agg cs] M nx (nQ nx M):=by
 obtain⟨k,x,y,ps⟩:=e;simp only[bG]at he;obtain⟨v,row,rfl,a9,jd⟩:=he;have hv:=a9.cell;have ay:=fun N=>a9.len (P:=am) (t:=111) qa.2.2.2.2.2 N
 clear a9 jd;refine ar.wk 73 [.tmp 2] Tryz.func298 ?_;by_cases k1:k=1
 ·by_cases hx:x=0
  ·by_cases hy:y=0
   ·refine iQ kE hv.1 hv.2 k1 hx hy ay @nQ.eq_1 ?_
    exact⟨⟨_,rfl⟩,O,Z⟩
   ·refine iQ kE hv.1 hv.2 k1 hx hy ay @nQ.eq_1 ?_
    exact⟨⟨_,rfl⟩,O,Z⟩
  ·refine gw kE hv.1 hv.2 k1 hx ay @nQ.eq_1 ?_
   exact⟨⟨_,rfl⟩,O,Z⟩
 by_cases k2:k=2
 ·by_cases hy:y=0
  ·refine iQ kE hv.1 hv.2 k1 k2 hy ay @nQ.eq_1 ?_
   exact⟨⟨_,rfl⟩,O,Z⟩
  ·refine iQ kE hv.1 hv.2 k1 k2 hy ay @nQ.eq_1 ?_
   exact⟨⟨_,rfl⟩,O,Z⟩
 by_cases k3:k=3
 ·by_cases hy:y=0
  ·refine CU kE hv.1 hv.2 k1 k2 k3 hy ay @nQ.eq_1 ?_
   exact⟨⟨_,rfl⟩,O,Z⟩
  ·refine CU kE hv.1 hv.2 k1 k2 k3 hy ay @nQ.eq_1 ?_
   exact⟨⟨_,rfl⟩,O,Z⟩
 by_cases k4:k=4
 ·by_cases hy:y<x
  ·refine dp kE hv.1 hv.2 k1 k2 k3 k4 hy ay @nQ.eq_1 ?_
   exact⟨⟨_,rfl⟩,O,Z⟩
  ·refine dp kE hv.1 hv.2 k1 k2 k3 k4 hy ay @nQ.eq_1 ?_
   exact⟨⟨_,rfl⟩,O,Z⟩
 by_cases k5:k=5
 ·by_cases hx:x=0
  ·by_cases hy:y=0
   ·refine ii kE hv.1 hv.2 k1 k2 k3 k4 k5 hx hy ay @nQ.eq_1 ?_
    exact⟨⟨_,rfl⟩,O,Z⟩
   ·refine ii kE hv.1 hv.2 k1 k2 k3 k4 k5 hx hy ay @nQ.eq_1 ?_
    exact⟨⟨_,rfl⟩,O,Z⟩
  ·refine dw kE hv.1 hv.2 k1 k2 k3 k4 k5 hx ay @nQ.eq_1 ?_
   exact⟨⟨_,rfl⟩,O,Z⟩
 by_cases k6:k=6
 ·by_cases hx:x=0
  ·refine ii kE hv.1 hv.2 k1 k2 k3 k4 k5 k6 hx ay @nQ.eq_1 ?_
   exact⟨⟨_,rfl⟩,O,Z⟩
  ·refine ii kE hv.1 hv.2 k1 k2 k3 k4 k5 k6 hx ay @nQ.eq_1 ?_
   exact⟨⟨_,rfl⟩,O,Z⟩
 by_cases k7:k=7
 ·by_cases hx:x=0
  ·refine ii kE hv.1 hv.2 k1 k2 k3 k4 k5 k6 k7 hx (aI ay @nQ.eq_1) ?_
   exact⟨⟨_,rfl⟩,O,Z⟩
  ·refine ii kE hv.1 hv.2 k1 k2 k3 k4 k5 k6 k7 hx (aI ay @nQ.eq_1) ?_
   exact⟨⟨_,rfl⟩,O,Z⟩
 ·refine dw kE hv.1 hv.2 k1 k2 k3 k4 k5 k6 k7 @nQ.eq_1 ?_
  exact⟨⟨_,rfl⟩,O,Z⟩
theorem f260:∀(sz:Nat) (ρ:aK) (e:Ex) (M:Hp) (nx b:Nat) (cs:List XV),dV e<sz->bG M b e cs->b<=nx->ar am ρ 260 [.agg cs] M nx (nQ nx M):=by
 intro sz
 induction sz with
 | zero=>intro ρ e M nx b cs h;omega
 | succ sz ih =>
 intro ρ e M nx b cs cJ he hb;have D1:=he;obtain⟨k,x,y,ps⟩:=e;simp only[bG]at he;obtain⟨v,row,rfl,a9,jd⟩:=he;have hv:=a9.cell;have hl:=a9.1;have ay:=fun N=>a9.len (P:=am) (t:=111) qa.2.2.2.2.2 N
 refine ar.wk 20 [.tmp 2] Tryz.func260 ?_;refine Ao Bj hv.1 hv.2 ?_;refine aC (fun m' s=>∃(i:Nat),i<=ps.length/\m'=ps.length - i/\gG s.env 1=some (.mp nx 0)/\gG s.env 3=some (.int .i64 i)/\gG s.M nx=some (.row [.int .i64 k,.int .u64 x,.int .u64 y,v])/\aq nx M s.M/\nx+1<=s.nx) ps.length ⟨0,Z,Z,?_⟩ ?_
 ·refine bR Bj ?_
  exact⟨O,Z⟩
 ·rintro m' ⟨env,M',nx'⟩ ⟨i,hi,ir,e1,e3,z0,ha,hn⟩
  simp only at e1 e3 z0 ha hn;by_cases aL:(i:Int)<ps.length
  ·have aP:i<ps.length:=Z
   have bV:=eF i;obtain⟨c,hc⟩:∃c,ps[i]?=some c:=⟨ps[i]' Z,getElem?_eq_getElem Z⟩;obtain⟨n,o,jw,bC,aU⟩:=a9.elem (P:=am) aP (t:=111) (t':=113) qa.2.2.2.1 vu.1;have aU:=aU M' (ha.le hb);have hE:=(jd.get hc).agr (ha.le hb);have Bh:dV c<sz:=by
    have:=fb (mem_of_getElem? hc);simp only[dV]at cJ;omega
   refine iQ Bj e1 e3 ay aL z0 bC aU ?_;refine gQ (ih ρ c M' _ b _ Bh hE Z) ?_;rintro⟨u,M2,n2⟩ ⟨⟨kb,g1⟩,g2,g3⟩;simp only at g1 g2 g3;subst g1;have z1:=(g2 nx Z).trans z0;have a2:=ha.trans (g2.le Z);cases kb with
   | true =>
     refine ti Bj e1 e3 bV ?_;exact⟨ps.length - (i+1),Z,i+1,Z,rfl,rfl,z1,a2,Z⟩
   | false =>
     refine ti Bj e1 e3 @nQ.eq_1 ?_;exact⟨⟨_,rfl⟩,a2,Z⟩
  ·refine iC Bj e1 e3 ay aL z0 ?_
   refine gQ (f298 ρ (D1.agr (ha.le hb)) Z) ?_;rintro⟨u,M2,n2⟩ ⟨⟨kb,g1⟩,g2,g3⟩;simp only at g1 g2 g3;subst g1;refine mI Bj @nQ.eq_1 ?_;exact⟨⟨_,rfl⟩,ha.trans (g2.le Z),Z⟩
theorem f261:∀(sz:Nat) (ρ:aK) (e:Ex) (M:Hp) (nx b:Nat) (cs:List XV),dV e<sz->bG M b e cs->b<=nx->ar am ρ 261 [.agg cs] M nx (wR nx M):=by
 intro sz
 induction sz with
 | zero=>intro ρ e M nx b cs h;omega
 | succ sz ih =>
 intro ρ e M nx b cs cJ he hb;obtain⟨k,x,y,ps⟩:=e;simp only[bG]at he;obtain⟨v,row,rfl,a9,jd⟩:=he;have hv:=a9.cell;have hl:=a9.1;have ay:=fun N=>a9.len (P:=am) (t:=111) qa.2.2.2.2.2 N
 refine ar.wk 22 [.tmp 2] Tryz.func261 ?_;refine Ao kE hv.1 hv.2 ?_;refine aC (fun m' s=>∃(i:Nat) (c:Int),i<=ps.length/\m'=ps.length - i/\gG s.env 1=some (.mp nx 0)/\gG s.env 3=some (.int .i64 c)/\gG s.env 4=some (.int .i64 i)/\gG s.M nx=some (.row [.int .i64 k,.int .u64 x,.int .u64 y,v])/\aq nx M s.M/\nx+1<=s.nx) ps.length ⟨0,0,Z,Z,?_⟩ ?_
 ·refine bR kE ?_
  exact⟨O,Z⟩
 ·rintro m' ⟨env,M',nx'⟩ ⟨i,c,hi,ir,e1,e3,e4,z0,ha,hn⟩
  simp only at e1 e3 e4 z0 ha hn;by_cases aL:(i:Int)<ps.length
  ·have aP:i<ps.length:=Z
   have bV:=eF i;obtain⟨e,hc⟩:∃c,ps[i]?=some c:=⟨ps[i]' Z,getElem?_eq_getElem Z⟩;obtain⟨n,o,jw,bC,aU⟩:=a9.elem (P:=am) aP (t:=111) (t':=113) qa.2.2.2.1 vu.1;have aU:=aU M' (ha.le hb);have hE:=(jd.get hc).agr (ha.le hb);have Bh:dV e<sz:=by
    have:=fb (mem_of_getElem? hc);simp only[dV]at cJ;omega
   refine CU kE e1 e3 e4 ay aL z0 bC aU ?_;refine gQ (ih ρ e M' _ b _ Bh hE Z) ?_;rintro⟨u,M2,n2⟩ ⟨⟨kb,g1⟩,g2,g3⟩;simp only at g1 g2 g3;subst g1;have z1:=(g2 nx Z).trans z0;have a2:=ha.trans (g2.le Z);refine mY kE e1 e3 e4 bV ?_;exact⟨ps.length - (i+1),Z,i+1,_,Z,rfl,rfl,rfl,z1,a2,Z⟩
  ·refine iQ kE e1 e3 e4 ay aL z0 @wR.eq_1 ?_
   exact⟨⟨_,rfl⟩,ha,Z⟩
theorem f262:∀(sz:Nat) (ρ:aK) (e:Ex) (M:Hp) (nx b:Nat) (cs:List XV),dV e<sz->bG M b e cs->b<=nx->ar am ρ 262 [.agg cs] M nx (wR nx M):=by
 intro sz
 induction sz with
 | zero=>intro ρ e M nx b cs h;omega
 | succ sz ih =>
 intro ρ e M nx b cs cJ he hb;obtain⟨k,x,y,ps⟩:=e;simp only[bG]at he;obtain⟨v,row,rfl,a9,jd⟩:=he;have hv:=a9.cell;have hl:=a9.1;have ay:=fun N=>a9.len (P:=am) (t:=111) qa.2.2.2.2.2 N
 refine ar.wk 21 [.tmp 2] Tryz.func262 ?_;refine Ao kE hv.1 hv.2 ?_;refine aC (fun m' s=>∃(i:Nat) (c:Int),i<=ps.length/\m'=ps.length - i/\gG s.env 1=some (.mp nx 0)/\gG s.env 3=some (.int .i64 c)/\gG s.env 4=some (.int .i64 i)/\gG s.M nx=some (.row [.int .i64 k,.int .u64 x,.int .u64 y,v])/\aq nx M s.M/\nx+1<=s.nx) ps.length ⟨0,1,Z,Z,?_⟩ ?_
 ·refine bR kE ?_
  exact⟨O,Z⟩
 ·rintro m' ⟨env,M',nx'⟩ ⟨i,c,hi,ir,e1,e3,e4,z0,ha,hn⟩
  simp only at e1 e3 e4 z0 ha hn;by_cases aL:(i:Int)<ps.length
  ·have aP:i<ps.length:=Z
   have bV:=eF i;obtain⟨e,hc⟩:∃c,ps[i]?=some c:=⟨ps[i]' Z,getElem?_eq_getElem Z⟩;obtain⟨n,o,jw,bC,aU⟩:=a9.elem (P:=am) aP (t:=111) (t':=113) qa.2.2.2.1 vu.1;have aU:=aU M' (ha.le hb);have hE:=(jd.get hc).agr (ha.le hb);have Bh:dV e<sz:=by
    have:=fb (mem_of_getElem? hc);simp only[dV]at cJ;omega
   refine CU kE e1 e3 e4 ay aL z0 bC aU ?_;refine gQ (ih ρ e M' _ b _ Bh hE Z) ?_;rintro⟨u,M2,n2⟩ ⟨⟨kb,g1⟩,g2,g3⟩;simp only at g1 g2 g3;subst g1;have z1:=(g2 nx Z).trans z0;have a2:=ha.trans (g2.le Z);refine mY kE e1 e3 e4 bV ?_;exact⟨ps.length - (i+1),Z,i+1,_,Z,rfl,rfl,rfl,z1,a2,Z⟩
  ·refine iQ kE e1 e3 e4 ay aL z0 @wR.eq_1 ?_
   exact⟨⟨_,rfl⟩,ha,Z⟩
theorem f217 (ρ:aK) {e:Ex} (he:bG M b e cs) (hb:b<=nx):ar am ρ 217 [.agg cs] M nx (nQ nx M):=by
 obtain⟨k,x,y,v,rfl,p1,p2⟩:=he.cells;refine ar.wk 15 [.tmp 2] Tryz.func217 ?_;refine Ao kE p1 p2 ?_;generalize xu:ci M nx _=M1;have a1:aq nx M M1:=by rw[<-xu];exact O
 have z:gG M1 nx=some (.row [.int .i64 k,.int .u64 x,.int .u64 y,v]):=by rw[<-xu];exact J
 clear xu;refine gQ (f260 _ ρ e M1 _ b _ (lt_succ_self _) (he.agr (a1.le hb)) Z) ?_;rintro⟨u,M2,n2⟩ ⟨⟨kb,g1⟩,g2,g3⟩;simp only at g1 g2 g3;subst g1;have z:=(g2 nx Z).trans z;have a2:=a1.trans (g2.le Z);clear g2 a1;cases kb with
 | false =>
   refine mI kE @nQ.eq_1 ?_;exact⟨⟨_,rfl⟩,a2,Z⟩
 | true =>
   refine mI kE z ?_;refine gQ (f261 _ ρ e M2 _ b _ (lt_succ_self _) (he.agr (a2.le hb)) Z) ?_;rintro⟨u,M3,n3⟩ ⟨⟨d,g1⟩,g2,g3⟩;simp only at g1 g2 g3;subst g1;have z:=(g2 nx Z).trans z;have a3:=a2.trans (g2.le Z);clear g2 a2;by_cases hd:d<=8
   ·refine Ao kE hd z ?_
    refine gQ (f262 _ ρ e M3 _ b _ (lt_succ_self _) (he.agr (a3.le hb)) Z) ?_;rintro⟨u,M4,n4⟩ ⟨⟨d2,g1⟩,g2,g3⟩;simp only at g1 g2 g3;subst g1;refine Ao kE hd @nQ.eq_1 ?_;exact⟨⟨_,rfl⟩,a3.trans (g2.le Z),Z⟩
   ·refine Ao kE hd @nQ.eq_1 ?_
    exact⟨⟨_,rfl⟩,a3,Z⟩
end
end Go.Xs
namespace Go.Xs
open List Nat Option
variable{M:Hp}{P:Program}{args:List XV}{g nx:Nat}{ρ:aK}
noncomputable section
open Go.Proofs
theorem bN.any (Q:XV->Prop) (cF:Cl nx M) (ha:aE nx args=true) (hk:∀v,Q v->aO nx v=true) (hq:∃v,Q v)
 (h:∀N,aq nx M N->ar P { ρ with det:=true } g args N nx fun r=>Q r.1/\aq nx N r.2.1/\nx<=r.2.2):∃v,Q v/\bN P ρ g args M nx ⟨v,List.range nx,[]⟩ nx:=by
 obtain⟨v0,hv0⟩:=hq;obtain⟨⟨v,N,hi⟩,⟨g1,g2,g3⟩,g4⟩:=(h _ (yC nx M)).2 rfl ⟨(v0,_,nx),hv0,aq.refl _ _,Nat.le_refl _⟩;refine⟨v,g1,ha,p9 cF _,(fun k hk=>by cases hk),Nat.le_refl _,?_⟩;exact ft.forget cF.sub (hk v g1) ((ft.det g4).mono fun r hr=>by subst hr;exact⟨rfl,g2,g3⟩)
theorem bN.anyB (cF:Cl nx M) (ha:aE nx args=true) (h:∀N,aq nx M N->ar P { ρ with det:=true } g args N nx (nQ nx N)):∃k,bN P ρ g args M nx ⟨.bool k,List.range nx,[]⟩ nx:=by
 obtain⟨v,⟨k,rfl⟩,hv⟩:=bN.any (fun v=>∃k,v = .bool k) cF ha (fun v ⟨k,hk⟩=>by rw[hk];rfl) ⟨_,true,rfl⟩ h;exact⟨k,hv⟩
theorem bN.anyI (cF:Cl nx M) (ha:aE nx args=true) (h:∀N,aq nx M N->ar P { ρ with det:=true } g args N nx (wR nx N)):∃k,bN P ρ g args M nx ⟨.int .i64 k,List.range nx,[]⟩ nx:=by
 obtain⟨v,⟨k,rfl⟩,hv⟩:=bN.any (fun v=>∃k,v = .int .i64 k) cF ha (fun v ⟨k,hk⟩=>by rw[hk];rfl) ⟨_,0,rfl⟩ h;exact⟨k,hv⟩
theorem f263:∀(sz:Nat) (ρ:aK) (e e':Ex) (M:Hp) (nx b:Nat) (cs cs':List XV),dV e<sz->bG M b e cs->bG M b e' cs'->b<=nx->ar am ρ 263 [.agg cs,.agg cs'] M nx (nQ nx M):=by
 intro sz
 induction sz with
 | zero=>intro ρ e e' M nx b cs cs' h;omega
 | succ sz ih =>
 intro ρ e e' M nx b cs cs' cJ he D1 hb;obtain⟨k,x,y,ps⟩:=e;obtain⟨k',x',y',ps'⟩:=e';simp only[bG]at he D1;obtain⟨v,row,rfl,a9,jd⟩:=he;obtain⟨v',row',rfl,ox,JH⟩:=D1;have hv:=a9.cell;have oP:=ox.cell;have hl:=a9.1;have ay:=fun N=>a9.len (P:=am) (t:=111) qa.2.2.2.2.2 N
 have A_:=fun N=>ox.len (P:=am) (t:=111) qa.2.2.2.2.2 N
 refine ar.closed fun cF aX=>?_
 have Bi:aO nx v=true:=by
  have:=cq aX (show (.agg [.int .i64 k,.int .u64 x,.int .u64 y,v]:XV) ∈ _ by simp);simp only[aO]at this;exact cq this ae
 have ZA:aO nx v'=true:=by
  have:=cq aX (show (.agg [.int .i64 k',.int .u64 x',.int .u64 y',v']:XV) ∈ _ by simp);simp only[aO]at this;exact cq this ae
 clear aX;refine ar.wk 53 [.tmp 4] Tryz.func263 ?_;by_cases q1:k=k'
 rotate_left
 ·refine gw Bj hv.1 hv.2 oP.1 oP.2 q1 @nQ.eq_1 ?_
  exact⟨⟨_,rfl⟩,O,Z⟩
 by_cases q2:x=x'
 rotate_left
 ·refine iQ Bj hv.1 hv.2 oP.1 oP.2 q1 q2 @nQ.eq_1 ?_
  exact⟨⟨_,rfl⟩,O,Z⟩
 by_cases q3:y=y'
 rotate_left
 ·refine CU Bj hv.1 hv.2 oP.1 oP.2 q1 q2 q3 @nQ.eq_1 ?_
  exact⟨⟨_,rfl⟩,O,Z⟩
 by_cases q4:(ps.length:Int)=ps'.length
 rotate_left
 ·refine ii Bj hv.1 hv.2 oP.1 oP.2 q1 q2 q3 q4 ay A_ @nQ.eq_1 ?_
  exact⟨⟨_,rfl⟩,O,Z⟩
 refine dw Bj hv.1 hv.2 oP.1 oP.2 q1 q2 q3 q4 ay A_ ?_;generalize xu:ci (ci M nx _) _ _=M1;have a1:aq nx M M1:=by rw[<-xu];exact O
 have z2:gG M1 nx=some (.row [.int .i64 k',.int .u64 x',.int .u64 y',v]):=by rw[<-xu];exact J
 have z3:gG M1 (nx+1)=some (.row [.int .i64 k',.int .u64 x',.int .u64 y',v']):=by rw[<-xu];exact J
 have sR:Cl (nx+2) M1:=by
  rw[<-xu];refine((cF.le Z).set Z ?_).set Z ?_
  ·simp only[cp,aE];rw[aO.le Z Bi];rfl
  ·simp only[cp,aE];rw[aO.le Z ZA];rfl
 clear xu Bi ZA cF;refine aC (fun m' s=>∃(i:Nat),i<=ps.length/\m'=ps.length - i/\gG s.env 2=some (.mp nx 0)/\gG s.env 3=some (.mp (nx+1) 0)/\gG s.env 5=some (.int .i64 i)/\aq (nx+2) M1 s.M/\Cl s.nx s.M/\nx+2<=s.nx) ps.length ⟨0,Z,Z,?_⟩ ?_
 ·refine bR Bj ?_
  exact⟨aq.refl _ _,sR.le Z,Z⟩
 ·rintro m' ⟨env,M',nx'⟩ ⟨i,hi,ir,e2,e3,e5,ha,jY,hn⟩
  simp only at e2 e3 e5 ha jY hn;have aM:aq nx M M':=a1.trans (ha.le Z);have y2:=(ha nx Z).trans z2;have y3:=(ha (nx+1) Z).trans z3;by_cases aL:(i:Int)<ps.length
  ·have aP:i<ps.length:=Z
   have F1:i<ps'.length:=Z;have hlt3:(i:Int)<ps'.length:=Z;have bV:=eF i;obtain⟨c,hc⟩:∃c,ps[i]?=some c:=⟨ps[i]' Z,getElem?_eq_getElem Z⟩;obtain⟨c',DZ⟩:∃c,ps'[i]?=some c:=⟨ps'[i]' Z,getElem?_eq_getElem Z⟩;obtain⟨n,o,jw,bC,aU⟩:=a9.elem (P:=am) aP (t:=111) (t':=113) qa.2.2.2.1 vu.1;obtain⟨n2,o2,Ux,iN,dJ⟩:=ox.elem (P:=am) F1 (t:=111) (t':=113) qa.2.2.2.1 vu.1;have aU:=aU M' (aM.le hb);have dJ:=dJ M' (aM.le hb);have hE:=(jd.get hc).agr (aM.le hb);have CC:=(JH.get DZ).agr (aM.le hb);have Bh:dV c<sz:=by
    have:=fb (mem_of_getElem? hc);simp only[dV]at cJ;omega
   have kA:∀q,nx'<=q->aE q ((row.drop (i*4)).take 4)=true:=fun q hq=>mU fun y hy=>aO.le hq ((a9.agr (aM.le hb)).kltRow jY y (mem_of_mem_drop (mem_of_mem_take hy)))
   have hkl2:∀q,nx'<=q->aE q ((row'.drop (i*4)).take 4)=true:=fun q hq=>mU fun y hy=>aO.le hq ((ox.agr (aM.le hb)).kltRow jY y (mem_of_mem_drop (mem_of_mem_take hy)))
   refine ii Bj e2 e3 e5 ay A_ aL hlt3 y2 y3 bC (aI iN (aI aU dJ)) ?_;obtain⟨kb,hC⟩:=bN.anyB (P:=am) (ρ:=ρ) (g:=263) (args:=[.agg ((row.drop (i*4)).take 4),.agg ((row'.drop (i*4)).take 4)]) (M:=M') (nx:=nx'+15) (jY.le Z) (by simp only[aE,aO];rw[kA _ Z,hkl2 _ Z]) fun N hN=>ih _ c c' N _ b _ _ Bh (hE.agr (hN.le Z)) (CC.agr (hN.le Z)) Z
   refine aT hC af ?_;cases kb with
   | true =>
     refine iC Bj e2 e3 e5 @aA bV ?_;exact⟨ps.length - (i+1),Z,i+1,Z,rfl,rfl,ha,jY.le Z,Z⟩
   | false =>
     refine iC Bj e2 e3 e5 @aA @nQ.eq_1 ?_;exact⟨⟨_,rfl⟩,aM,Z⟩
  ·have hlt3:¬ (i:Int)<ps'.length:=Z
   refine dp Bj e2 e3 e5 ay aL hlt3 y2 q4 @nQ.eq_1 ?_;exact⟨⟨_,rfl⟩,aM,Z⟩
theorem f218 (ρ:aK) {r r':aR} {b:Nat} {cs cs':List XV} (hr:b8 M b r cs) (sA:b8 M b r' cs') (hb:b<=nx):ar am ρ 218 [.agg cs,.agg cs'] M nx (nQ nx M):=by
 obtain⟨pk,pa,pb,pv,ve,rfl,⟨p1,p2⟩,⟨q1,q2⟩,dZ,hp⟩:=hr.cells;obtain⟨pk',pa',pb',pv',ve',rfl,⟨MR,MS⟩,⟨MT,MU⟩,Mw,uV⟩:=sA.cells;unfold jm at dZ Mw;have hl:=dZ.1;have ay:=fun N=>dZ.len (P:=am) (t:=114) oH.2.2.2.2.2 N
 have A_:=fun N=>Mw.len (P:=am) (t:=114) oH.2.2.2.2.2 N
 clear hr sA;refine ar.wk 71 [.tmp 4] Tryz.func218 ?_;by_cases qz:(r.es.length:Int)=r'.es.length
 rotate_left
 ·refine ii vM p1 p2 q1 q2 MR MS MT MU ay A_ (aI qz @nQ.eq_1) ?_
  exact⟨⟨_,rfl⟩,O,Z⟩
 refine ii vM p1 p2 q1 q2 MR MS MT MU ay A_ qz ?_;generalize xu:ci (ci M nx _) _ _=M1;have a1:aq nx M M1:=by rw[<-xu];exact O
 have z2:gG M1 nx=some (.row [.int .i64 r.kind,.int .u64 r.t,.int .u64 r.x,.int .u64 r.w,.int .u64 r.n,.int .u64 r.v,.int .i64 pk,.int .u64 pa,.int .u64 pb,pv,ve]):=by rw[<-xu];exact J
 have z3:gG M1 (nx+1)=some (.row [.int .i64 r'.kind,.int .u64 r'.t,.int .u64 r'.x,.int .u64 r'.w,.int .u64 r'.n,.int .u64 r'.v,.int .i64 pk',.int .u64 pa',.int .u64 pb',pv',ve']):=by rw[<-xu];exact J
 clear xu;refine aC (fun m' s=>∃(i:Nat),i<=r.es.length/\m'=r.es.length - i/\gG s.env 2=some (.mp nx 0)/\gG s.env 3=some (.mp (nx+1) 0)/\gG s.env 5=some (.int .i64 i)/\aq (nx+2) M1 s.M/\nx+2<=s.nx) r.es.length ⟨0,Z,Z,?_⟩ ?_
 ·refine bR vM ?_
  exact⟨aq.refl _ _,Z⟩
 ·rintro m' ⟨env,M',nx'⟩ ⟨i,hi,ir,e2,e3,e5,ha,hn⟩
  simp only at e2 e3 e5 ha hn;have aM:aq nx M M':=a1.trans (ha.le Z);have y2:=(ha nx Z).trans z2;have y3:=(ha (nx+1) Z).trans z3;by_cases aL:(i:Int)<r.es.length
  ·have aP:i<r.es.length:=Z
   have F1:i<r'.es.length:=Z;have hlt3:(i:Int)<r'.es.length:=Z;have bV:=eF i;obtain⟨a,Mt⟩:∃e,r.es[i]?=some e:=⟨r.es[i],by simp[aP]⟩;obtain⟨c,Gk⟩:∃e,r'.es[i]?=some e:=⟨r'.es[i],by simp[F1]⟩;obtain⟨n,o,jw,bC,aU⟩:=dZ.elem (P:=am) aP (t:=114) (t':=176) oH.2.2.2.1 GH.1;obtain⟨n2,o2,Ux,iN,dJ⟩:=Mw.elem (P:=am) F1 (t:=114) (t':=176) oH.2.2.2.1 GH.1;have aU:=aU M' (aM.le hb);have dJ:=dJ M' (aM.le hb);rw[iz _ i a Mt]at aU;rw[iz _ i c Gk]at dJ;simp only[b9]at aU dJ;have hq:(decide (a.x=c.x)&&(decide (a.w=c.w)&&(decide (a.n=c.n)&&decide (a.m=c.m))))=Ky a c:=rfl;cases hqq:Ky a c with
   | true =>
     refine ii vM e2 e3 e5 y2 y3 ay A_ aL hlt3 bC (aI iN (aI aU (aI dJ (aI hq (aI hqq bV))))) ?_;exact⟨r.es.length - (i+1),Z,i+1,Z,rfl,rfl,ha,Z⟩
   | false =>
     refine ii vM e2 e3 e5 y2 y3 ay A_ aL hlt3 bC (aI iN (aI aU (aI dJ (aI hq (aI hqq @nQ.eq_1))))) ?_;exact⟨⟨_,rfl⟩,aM,Z⟩
  ·by_cases c1:r.kind=r'.kind
   rotate_left
   ·refine dp vM e2 e3 e5 y2 y3 ay aL c1 @nQ.eq_1 ?_
    exact⟨⟨_,rfl⟩,aM,Z⟩
   by_cases c2:r.t=r'.t
   rotate_left
   ·refine dw vM e2 e3 e5 y2 y3 ay aL c1 c2 @nQ.eq_1 ?_
    exact⟨⟨_,rfl⟩,aM,Z⟩
   by_cases c3:r.x=r'.x
   rotate_left
   ·refine ii vM e2 e3 e5 y2 y3 ay aL c1 c2 c3 @nQ.eq_1 ?_
    exact⟨⟨_,rfl⟩,aM,Z⟩
   by_cases c4:r.w=r'.w
   rotate_left
   ·have bfa:(false&&decide (r.n=r'.n))=false:=rfl
    refine ii vM e2 e3 e5 y2 y3 ay aL c1 c2 c3 (aI c4 (aI bfa @nQ.eq_1)) ?_;exact⟨⟨_,rfl⟩,aM,Z⟩
   by_cases c5:r.n=r'.n
   rotate_left
   ·refine ii vM e2 e3 e5 y2 y3 ay aL c1 c2 c3 (aI c4 (aI c5 @nQ.eq_1)) ?_
    exact⟨⟨_,rfl⟩,aM,Z⟩
   by_cases c6:r.v=r'.v
   rotate_left
   ·refine ii vM e2 e3 e5 y2 y3 ay aL c1 c2 c3 (aI c4 (aI c5 (aI c6 @nQ.eq_1))) ?_
    exact⟨⟨_,rfl⟩,aM,Z⟩
   refine ii vM e2 e3 e5 y2 y3 ay aL c1 c2 c3 (aI c4 (aI c5 c6)) ?_;refine gQ (f263 _ ρ r.p r'.p M' _ b _ _ (lt_succ_self _) (hp.agr (aM.le hb)) (uV.agr (aM.le hb)) Z) ?_;rintro⟨u,M2,n2⟩ ⟨⟨kb,g1⟩,g2,g3⟩;simp only at g1 g2 g3;subst g1;refine mI vM @nQ.eq_1 ?_;exact⟨⟨_,rfl⟩,aM.trans (g2.le Z),Z⟩
end
end Go.Xs
namespace Go.Xs
open List Nat Option
variable{M:Hp}{b nx:Nat}{cs:List XV}
noncomputable section
open Go.Proofs
theorem exAt_zero (M:Hp) (b:Nat):bG M b (.mk 0 0 0 []) [.int .i64 0,.int .u64 0,.int .u64 0,.nils]:=by
 simp only[bG,cj];exact⟨.nils,[],rfl,⟨ae,.inl ⟨rfl,rfl,rfl⟩⟩,trivial⟩
theorem ensAt_zero (M:Hp) (b:Nat):jm M b .nils []:=⟨ae,.inl ⟨rfl,rfl,rfl⟩⟩
theorem yf (M:Hp) (b:Nat) (k t x w n v:Int):b8 M b ⟨k,t,x,w,n,v,.mk 0 0 0 [],[]⟩ [.int .i64 k,.int .u64 t,.int .u64 x,.int .u64 w,.int .u64 n,.int .u64 v,.int .i64 0,.int .u64 0,.int .u64 0,.nils,.nils] :=
 ⟨_,_,rfl,exAt_zero M b,ensAt_zero M b⟩
theorem f153 (ρ:aK) {r:aR} (hr:b8 M b r cs) (hb:b<=nx):ar am ρ 153 [.agg cs] M nx (nQ nx M):=by
 have mP:=hr;obtain⟨pk,pa,pb,pv,ve,rfl,⟨p1,p2⟩,⟨q1,q2⟩,dZ,hp⟩:=hr.cells;clear hr;have fin:∀(r':aR) (cs':List XV) (M1:Hp) (n1:Nat),aq nx M M1->nx<=n1->b8 M1 b r' cs'->ar am ρ 218 [.agg cs',.agg [.int .i64 r.kind,.int .u64 r.t,.int .u64 r.x,.int .u64 r.w,.int .u64 r.n,.int .u64 r.v,.int .i64 pk,.int .u64 pa,.int .u64 pb,pv,ve]] M1 n1 fun o=>(∃k:Bool,o.1 = .bool k)/\aq nx M o.2.1/\nx<=o.2.2:=fun r' cs' M1 n1 h1 h2 h3 =>
  (f218 ρ h3 (mP.agr (h1.le hb)) Z).mono fun o ⟨g1,g2,g3⟩=>⟨g1,h1.trans (g2.le h2),Z⟩
 refine ar.wk 51 [.tmp 2] Tryz.func153 ?_;by_cases k1:r.kind=1
 ·refine iC r9 p1 p2 q1 q2 k1 ?_
  refine gQ (k1 ▸ fin ⟨r.kind,r.t,0,0,0,0,.mk 0 0 0 [],[]⟩ _ _ _ O Z (yf _ _ _ _ _ _ _ _)) ?_;rintro⟨u,M2,n2⟩ ⟨⟨kb,g1⟩,g2,g3⟩;simp only at g1 g2 g3;subst g1;refine mI r9 @nQ.eq_1 ?_;exact⟨⟨_,rfl⟩,g2,Z⟩
 by_cases k6:r.kind=6
 ·refine gw r9 p1 p2 q1 q2 k1 k6 ?_
  refine gQ (k6 ▸ fin ⟨r.kind,r.t,0,0,0,0,.mk 0 0 0 [],[]⟩ _ _ _ O Z (yf _ _ _ _ _ _ _ _)) ?_;rintro⟨u,M2,n2⟩ ⟨⟨kb,g1⟩,g2,g3⟩;simp only at g1 g2 g3;subst g1;refine mI r9 @nQ.eq_1 ?_;exact⟨⟨_,rfl⟩,g2,Z⟩
 by_cases k7:r.kind=7
 ·refine iQ r9 p1 p2 q1 q2 k1 k6 k7 ?_
  refine gQ (k7 ▸ fin ⟨r.kind,r.t,0,0,0,0,.mk 0 0 0 [],[]⟩ _ _ _ O Z (yf _ _ _ _ _ _ _ _)) ?_;rintro⟨u,M2,n2⟩ ⟨⟨kb,g1⟩,g2,g3⟩;simp only at g1 g2 g3;subst g1;refine mI r9 @nQ.eq_1 ?_;exact⟨⟨_,rfl⟩,g2,Z⟩
 by_cases k2:r.kind=2
 ·refine CU r9 p1 p2 q1 q2 k1 k6 k7 k2 ?_
  refine gQ (k2 ▸ fin ⟨r.kind,r.t,r.x,r.w,r.n,0,.mk 0 0 0 [],[]⟩ _ _ _ O Z (yf _ _ _ _ _ _ _ _)) ?_;rintro⟨u,M2,n2⟩ ⟨⟨kb,g1⟩,g2,g3⟩;simp only at g1 g2 g3;subst g1;refine mI r9 @nQ.eq_1 ?_;exact⟨⟨_,rfl⟩,g2,Z⟩
 by_cases k3:r.kind=3
 ·refine dp r9 p1 p2 q1 q2 k1 k6 k7 k2 k3 ?_
  refine gQ (k3 ▸ fin ⟨r.kind,r.t,r.x,0,0,r.v,.mk 0 0 0 [],[]⟩ _ _ _ O Z (yf _ _ _ _ _ _ _ _)) ?_;rintro⟨u,M2,n2⟩ ⟨⟨kb,g1⟩,g2,g3⟩;simp only at g1 g2 g3;subst g1;refine mI r9 @nQ.eq_1 ?_;exact⟨⟨_,rfl⟩,g2,Z⟩
 by_cases k4:r.kind=4
 ·refine dw r9 p1 p2 q1 q2 k1 k6 k7 k2 k3 k4 ?_
  refine gQ (k4 ▸ fin ⟨r.kind,r.t,r.x,0,0,0,.mk 0 0 0 [],[]⟩ _ _ _ O Z (yf _ _ _ _ _ _ _ _)) ?_;rintro⟨u,M2,n2⟩ ⟨⟨kb,g1⟩,g2,g3⟩;simp only at g1 g2 g3;subst g1;refine mI r9 @nQ.eq_1 ?_;exact⟨⟨_,rfl⟩,g2,Z⟩
 by_cases k5:r.kind=5
 ·refine ii r9 p1 p2 q1 q2 k1 k6 k7 k2 k3 k4 k5 ?_
  generalize xu:ci (ci (ci M nx _) _ _) _ _=M1;have a1:aq nx M M1:=by rw[<-xu];exact O
  have z1:gG M1 nx=some (.row [.int .i64 5,.int .u64 r.t,.int .u64 r.x,.int .u64 r.w,.int .u64 r.n,.int .u64 r.v,.int .i64 pk,.int .u64 pa,.int .u64 pb,pv,ve]):=by rw[<-xu];exact J
  have z3:gG M1 (nx+7)=some (.row [.int .i64 5,.int .u64 r.t,.int .u64 0,.int .u64 0,.int .u64 0,.int .u64 0,.int .i64 0,.int .u64 0,.int .u64 0,.nils,.nils]):=by rw[<-xu];exact J
  clear xu;refine gQ (f217 ρ (hp.agr (a1.le hb)) Z) ?_;rintro⟨u,M2,n2⟩ ⟨⟨kb,g1⟩,g2,g3⟩;simp only at g1 g2 g3;subst g1;have z1:=(g2 nx Z).trans z1;have z3:=(g2 (nx+7) Z).trans z3;have a2:=a1.trans (g2.le Z);clear g2 a1;cases kb with
  | false =>
    refine mI r9 @nQ.eq_1 ?_;exact⟨⟨_,rfl⟩,a2,Z⟩
  | true =>
    refine gw r9 p1 p2 q1 q2 z1 z3 ?_;have aF:∀o o',aq nx M (ci (ci M2 (nx+7) o) (nx+7) o'):=fun o o'=>(a2.set Z _).set Z _
    refine gQ (k5 ▸ fin ⟨r.kind,r.t,0,0,0,0,r.p,r.es⟩ _ _ _ (aF _ _) Z ⟨[.int .i64 pk,.int .u64 pa,.int .u64 pb,pv],ve,rfl,hp.agr ((aF _ _).le hb),dZ.agr ((aF _ _).le hb)⟩) ?_;rintro⟨u,M3,n3⟩ ⟨⟨kb,g1⟩,g2,g3⟩;simp only at g1 g2 g3;subst g1;refine mI r9 @nQ.eq_1 ?_;exact⟨⟨_,rfl⟩,g2,Z⟩
 ·refine ii r9 p1 p2 q1 q2 k1 k6 k7 k2 k3 k4 (aI k5 @nQ.eq_1) ?_
  exact⟨⟨_,rfl⟩,O,Z⟩
mutual
def TN:Ex->Prop
 | .mk k x _ ps=>(k=4->x≠0)/\Ir ps
def Ir:List Ex->Prop
 | []=>True
 | e::es=>TN e/\Ir es
end
theorem exsZ_mem:∀{es:List Ex} {e:Ex},Ir es->e ∈ es->TN e
 | e'::es,e,h,hm=>by
   simp only[Ir]at h;rcases mem_cons.1 hm with rfl | hm
   ·exact h.1
   ·exact exsZ_mem h.2 hm
theorem f220:∀(sz:Nat) (ρ:aK) (e:Ex) (M:Hp) (nx b:Nat) (cs:List XV) (o w:Int),dV e<sz->TN e->bG M b e cs->b<=nx->ar am ρ 220 [.agg cs,.int .u64 o,.int .u64 w] M nx (nQ nx M):=by
 intro sz
 induction sz with
 | zero=>intro ρ e M nx b cs o w h;omega
 | succ sz ih =>
 intro ρ e M nx b cs oo w cJ hz he hb;obtain⟨k,x,y,ps⟩:=e;simp only[bG]at he;obtain⟨v,row,rfl,a9,jd⟩:=he;simp only[TN]at hz;have hv:=a9.cell;have hl:=a9.1;have ay:=fun N=>a9.len (P:=am) (t:=111) qa.2.2.2.2.2 N
 refine ar.wk 64 [.tmp 6] Tryz.func220 ?_;refine Ao kE hv.1 hv.2 ?_;refine aC (fun m' s=>∃(i:Nat) (c:Int),i<=ps.length/\m'=ps.length - i/\gG s.env 1=some (.int .u64 oo)/\gG s.env 2=some (.int .u64 w)/\gG s.env 3=some (.mp nx 0)/\gG s.env 7=some (.int .i64 c)/\gG s.env 8=some (.int .i64 i)/\gG s.M nx=some (.row [.int .i64 k,.int .u64 x,.int .u64 y,v])/\aq nx M s.M/\nx+1<=s.nx) ps.length ⟨0,0,Z,Z,?_⟩ ?_
 ·refine bR kE ?_
  exact⟨O,Z⟩
 ·rintro m' ⟨env,M',nx'⟩ ⟨i,c,hi,ir,e1,e2,e3,e7,e8,z0,ha,hn⟩
  simp only at e1 e2 e3 e7 e8 z0 ha hn;by_cases aL:(i:Int)<ps.length
  ·have aP:i<ps.length:=Z
   have bV:=eF i;obtain⟨e,hc⟩:∃c,ps[i]?=some c:=⟨ps[i]' Z,getElem?_eq_getElem Z⟩;obtain⟨n,o,jw,bC,aU⟩:=a9.elem (P:=am) aP (t:=111) (t':=113) qa.2.2.2.1 vu.1;have aU:=aU M' (ha.le hb);have hE:=(jd.get hc).agr (ha.le hb);have Bh:dV e<sz:=by
    have:=fb (mem_of_getElem? hc);simp only[dV]at cJ;omega
   have hcZ:=exsZ_mem hz.2 (mem_of_getElem? hc);refine dw kE e1 e2 e3 e7 e8 ay aL z0 bC aU ?_;refine gQ (ih ρ e M' _ b _ oo w Bh hcZ hE Z) ?_;rintro⟨u,M2,n2⟩ ⟨⟨kb,g1⟩,g2,g3⟩;simp only at g1 g2 g3;subst g1;have z1:=(g2 nx Z).trans z0;have a2:=ha.trans (g2.le Z);cases kb with
   | true =>
     refine gw kE e1 e2 e3 e7 e8 bV ?_;exact⟨ps.length - (i+1),Z,i+1,_,Z,rfl,rfl,rfl,z1,a2,Z⟩
   | false =>
     refine gw kE e1 e2 e3 e7 e8 bV ?_;exact⟨ps.length - (i+1),Z,i+1,_,Z,rfl,rfl,rfl,z1,a2,Z⟩
  ·by_cases k1:k=1
   ·refine dw kE e1 e2 e3 e7 e8 ay aL z0 k1 @nQ.eq_1 ?_
    exact⟨⟨_,rfl⟩,ha,Z⟩
   by_cases k2:k=2
   ·refine ii kE e1 e2 e3 e7 e8 ay aL z0 k1 k2 @nQ.eq_1 ?_
    exact⟨⟨_,rfl⟩,ha,Z⟩
   by_cases k3:k=3
   ·refine ii kE e1 e2 e3 e7 e8 ay aL z0 k1 k2 (aI k3 @nQ.eq_1) ?_
    exact⟨⟨_,rfl⟩,ha,Z⟩
   by_cases k4:k=4
   ·have Q9:=hz.1 k4
    refine ii kE e1 e2 e3 e7 e8 ay aL z0 k1 k2 (aI k3 (aI k4 (aI Q9 @nQ.eq_1))) ?_;exact⟨⟨_,rfl⟩,ha,Z⟩
   by_cases k5:k=5
   ·refine ii kE e1 e2 e3 e7 e8 ay aL z0 k1 k2 (aI k3 (aI k4 (aI k5 @nQ.eq_1))) ?_
    exact⟨⟨_,rfl⟩,ha,Z⟩
   by_cases k6:k=6
   ·refine ii kE e1 e2 e3 e7 e8 ay aL z0 k1 k2 (aI k3 (aI k4 (aI k5 (aI k6 @nQ.eq_1)))) ?_
    exact⟨⟨_,rfl⟩,ha,Z⟩
   ·refine ii kE e1 e2 e3 e7 e8 ay aL z0 k1 k2 (aI k3 (aI k4 (aI k5 (aI k6 @nQ.eq_1)))) ?_
    exact⟨⟨_,rfl⟩,ha,Z⟩
theorem f158 (ρ:aK) {e:Ex} (he:bG M b e cs) (hb:b<=nx) (hz:TN e) (x w:Int):ar am ρ 158 [.agg cs,.int .u64 x,.int .u64 w] M nx (nQ nx M):=by
 obtain⟨k,pa,pb,v,rfl,p1,p2⟩:=he.cells;refine ar.wk 15 [.tmp 6] Tryz.func158 ?_;refine Ao kE p1 p2 ?_;generalize xu:ci M nx _=M1;have a1:aq nx M M1:=by rw[<-xu];exact O
 have z:gG M1 nx=some (.row [.int .i64 k,.int .u64 pa,.int .u64 pb,v]):=by rw[<-xu];exact J
 clear xu;refine gQ (f217 ρ (he.agr (a1.le hb)) Z) ?_;rintro⟨u,M2,n2⟩ ⟨⟨kb,g1⟩,g2,g3⟩;simp only at g1 g2 g3;subst g1;have z:=(g2 nx Z).trans z;have a2:=a1.trans (g2.le Z);clear g2 a1;cases kb with
 | false =>
   refine mI kE @nQ.eq_1 ?_;exact⟨⟨_,rfl⟩,a2,Z⟩
 | true =>
   refine mI kE z ?_;refine gQ (f220 _ ρ e M2 _ b _ x w (lt_succ_self _) hz (he.agr (a2.le hb)) Z) ?_;rintro⟨u,M3,n3⟩ ⟨⟨d,g1⟩,g2,g3⟩;simp only at g1 g2 g3;subst g1;refine mI kE @nQ.eq_1 ?_;exact⟨⟨_,rfl⟩,a2.trans (g2.le Z),Z⟩
theorem f111 (ρ:aK) {L:List aR} {e:Ex} {v:XV} (hL:cP M b v L) (he:bG M b e cs) (hb:b<=nx) (hl:L.length<=100000) (hz:TN e) (x w n:Int):ar am ρ 111 [v,.agg cs,.int .u64 x,.agg [.int .u64 w,.int .u64 n]] M nx (nQ nx M):=by
 obtain⟨k,pa,pb,pv,rfl,p1,p2⟩:=he.cells;refine ar.wk 31 [.tmp 8] Tryz.func111 ?_;refine Ao gP p1 p2 ?_;generalize xu:ci (ci M nx _) _ _=M1;have a1:aq nx M M1:=by rw[<-xu];exact O
 have z:gG M1 nx=some (.row [.int .i64 k,.int .u64 pa,.int .u64 pb,pv]):=by rw[<-xu];exact J
 have z2:gG M1 (nx+1)=some (.row [.int .u64 w,.int .u64 n]):=by rw[<-xu];exact J
 clear xu;refine gQ (f157 ρ (hL.agr (a1.le hb)) Z hl x w n) ?_;rintro⟨u,M2,n2⟩ ⟨⟨a,d,ok,g1⟩,g2,g3⟩;simp only at g1 g2 g3;subst g1;have z:=(g2 nx Z).trans z;have a2:=a1.trans (g2.le Z);clear g2 a1;cases ok with
 | false =>
   refine mI gP @nQ.eq_1 ?_;exact⟨⟨_,rfl⟩,a2,Z⟩
 | true =>
   cases d with
   | true =>
     refine mI gP @nQ.eq_1 ?_;exact⟨⟨_,rfl⟩,a2,Z⟩
   | false =>
     refine mI gP z ?_;refine gQ (f158 ρ (he.agr (a2.le hb)) Z hz x a) ?_;rintro⟨u,M3,n3⟩ ⟨⟨kb,g1⟩,g2,g3⟩;simp only at g1 g2 g3;subst g1;refine mI gP @nQ.eq_1 ?_;exact⟨⟨_,rfl⟩,a2.trans (g2.le Z),Z⟩
end
end Go.Xs
namespace Go.Xs
open List Nat Option
variable{L:List aR}{M:Hp}{b nx:Nat}{cs:List XV}{r:aR}{v:XV}
noncomputable section
open Go.Proofs
theorem neqBg (yc a b:Bool):io am g0 4 .neq yc (.bool a) (.bool b)=some (.bool (a != b)):=by cases yc<;>cases a<;>cases b<;>kernel_rfl
theorem f156 (ρ:aK) (hL:cP M b v L) (hr:b8 M b r cs) (hb:b<=nx) (hl:L.length<=100000) (he:r.es.length<=100000) (hz:TN r.p):ar am ρ 156 [v,.agg cs] M nx (wR nx M):=by
 have hL0:=hL;have mP:=hr;obtain⟨pk,pa,pb,pv,ve,rfl,⟨p1,p2⟩,⟨q1,q2⟩,dZ,hp⟩:=hr.cells;unfold jm at dZ;obtain⟨row,a9,gS⟩:=hL;have NZ:=fun N=>a9.len (P:=am) (t:=35) jW.2.2.2.2.2 N
 have ay:=fun N=>dZ.len (P:=am) (t:=114) oH.2.2.2.2.2 N
 refine ar.closed fun cF aX=>?_
 have hv:∀q,nx<=q->aO q v=true:=fun q hq=>aO.le hq (cq aX ae)
 have MB:∀q,nx<=q->aE q [.int .i64 r.kind,.int .u64 r.t,.int .u64 r.x,.int .u64 r.w,.int .u64 r.n,.int .u64 r.v,.int .i64 pk,.int .u64 pa,.int .u64 pb,pv,ve]=true:=fun q hq=>by
  have:=cq aX (show (.agg [.int .i64 r.kind,.int .u64 r.t,.int .u64 r.x,.int .u64 r.w,.int .u64 r.n,.int .u64 r.v,.int .i64 pk,.int .u64 pa,.int .u64 pb,pv,ve]:XV) ∈ _ by simp);simp only[aO]at this;exact aE.le hq this
 have vh:∀q,nx<=q->aO q pv=true:=fun q hq=>cq (MB q hq) ae
 clear aX hr;refine ar.wk 135 [.tmp 4] Tryz.func156 ?_;refine mY aS p1 p2 q1 q2 ?_;generalize xu:ci M nx _=M1;have a1:aq nx M M1:=by rw[<-xu];exact O
 have z3:gG M1 nx=some (.row [.int .i64 r.kind,.int .u64 r.t,.int .u64 r.x,.int .u64 r.w,.int .u64 r.n,.int .u64 r.v,.int .i64 pk,.int .u64 pa,.int .u64 pb,pv,ve]):=by rw[<-xu];exact J
 have sR:Cl (nx+1) M1:=by
  rw[<-xu];exact(cF.le Z).set Z (by simp only[cp];exact MB _ Z)
 clear xu cF;have enE:∀(N:Hp),aq b M N->∀(i:Nat) (e:En),r.es[i]?=some e->∃q o,(∀kk,br am 114 ve (.int kk (i:Int))=some (.mp q o))/\b_ am N 23 (.mp q o)=some ⟨.int .u64 e.x,[q],[]⟩/\b_ am N 110 (.mp q (o+1))=some ⟨.agg [.int .u64 e.w,.int .u64 e.n],[q],[]⟩/\b_ am N 4 (.mp q (o+3))=some ⟨.bool e.m,[q],[]⟩:=fun N hN i e hE=>by
  have hi:=(List.getElem?_eq_some_iff.1 hE).1;obtain⟨q,o,Oc,bC,aU,hpr⟩:=dZ.pair (P:=am) hi (t:=114) oH.2.2.2.1;have bA:=iz r.es i e hE;rw[bA]at aU hpr;have l0:=aU 0 (.int .u64 e.x) Z rfl 23 1 bi.1 N hN;rw[Nat.add_zero]at l0;exact⟨q,o,bC,l0,hpr 1 (.int .u64 e.w) (.int .u64 e.n) Z rfl rfl 110 gq.1 N hN,aU 3 (.bool e.m) Z rfl 4 1 kH.1 N hN⟩
 refine aC (fun m' s=>∃(i:Nat),1<=i/\i<=r.es.length+1/\m'=r.es.length+1 - i/\gG s.env 0=some v/\gG s.env 3=some (.mp nx 0)/\gG s.env 5=some (.int .i64 i)/\aq (nx+1) M1 s.M/\Cl s.nx s.M/\nx+1<=s.nx) r.es.length ⟨1,Z,Z,Z,?_⟩ ?_
 ·refine bR aS ?_
  exact⟨aq.refl _ _,sR.le Z,Z⟩
 ·rintro m' ⟨env,M',nx'⟩ ⟨i,AW,hi,ir,e0,e3,e5,ha,jY,hn⟩
  simp only at e0 e3 e5 ha jY hn;have aM:aq nx M M':=a1.trans (ha.le Z);have y3:=(ha nx Z).trans z3;by_cases aL:(i:Int)<r.es.length
  ·have aP:i<r.es.length:=Z
   have bV:=eF i;have qC:IntKind.i64.wrap ((i:Int) - 1)=((i - 1:Nat):Int):=by rw[wrap_i64 Z Z];omega
   obtain⟨e,hE⟩:∃e,r.es[i]?=some e:=⟨r.es[i],by simp[aP]⟩;obtain⟨e',hE'⟩:∃e,r.es[i - 1]?=some e:=⟨r.es[i - 1]' Z,getElem?_eq_getElem Z⟩;obtain⟨q,o,bC,l0,_,_⟩:=enE M' (aM.le hb) i e hE;obtain⟨q',o',Zv,l0',_,_⟩:=enE M' (aM.le hb) (i - 1) e' hE';clear enE;by_cases jT:e.x<=e'.x
   ·refine ii aS e0 e3 e5 y3 ay aL bC Zv l0 l0' (aI qC (aI jT @wR.eq_1)) ?_
    exact⟨⟨_,rfl⟩,aM,Z⟩
   ·refine ii aS e0 e3 e5 y3 ay aL bC Zv l0 l0' (aI qC (aI bV jT)) ?_
    exact⟨r.es.length+1 - (i+1),Z,i+1,Z,Z,rfl,rfl,ha,jY.le Z,Z⟩
  ·refine gw aS e0 e3 e5 y3 ay aL ?_
   refine aC (fun m' s=>∃(i:Nat),i<=r.es.length/\m'=r.es.length - i/\gG s.env 0=some v/\gG s.env 3=some (.mp nx 0)/\gG s.env 6=some (.int .i64 i)/\aq (nx+1) M1 s.M/\Cl s.nx s.M/\nx+1<=s.nx) r.es.length ⟨0,Z,Z,?_⟩ ?_
   ·refine Ao aS e0 e3 ?_
    exact⟨ha,jY.le Z,Z⟩
   clear e0 e3 e5 ha hn hi AW ir aM aL jY y3;rintro m' ⟨env,M',nx'⟩ ⟨i,hi,ir,e0,e3,e6,ha,jY,hn⟩;simp only at e0 e3 e6 ha jY hn;have aM:aq nx M M':=a1.trans (ha.le Z);have y3:=(ha nx Z).trans z3;by_cases aL:(i:Int)<r.es.length
   ·have aP:i<r.es.length:=Z
    have bV:=eF i;obtain⟨e,hE⟩:∃e,r.es[i]?=some e:=⟨r.es[i],by simp[aP]⟩;obtain⟨q,o,bC,l0,l1,_⟩:=enE M' (aM.le hb) i e hE;clear enE;refine dp aS e0 e3 e6 y3 ay aL bC l0 l1 ?_;refine aT (bN.read (v:=.bool (xE L e.x e.w e.n)) (jY.le Z) (by simp only[aE];rw[hv _ Z];rfl) rfl fun N hN=>f155 ρ (hL0.agr ((aM.trans (hN.le Z)).le hb)) Z hl e.x e.w e.n) af ?_;cases hq:xE L e.x e.w e.n with
    | true =>
      refine iC aS e0 e3 e6 @aA bV ?_;exact⟨r.es.length - (i+1),Z,i+1,Z,rfl,rfl,ha,jY.le Z,Z⟩
    | false =>
      refine iC aS e0 e3 e6 @aA @wR.eq_1 ?_;exact⟨⟨_,rfl⟩,aM,Z⟩
   ·refine gw aS e0 e3 e6 y3 ay aL ?_
    refine aC (fun m' s=>∃(i:Nat),i<=L.length/\m'=L.length - i/\gG s.env 0=some v/\gG s.env 3=some (.mp nx 0)/\gG s.env 7=some (.int .i64 i)/\aq (nx+1) M1 s.M/\Cl s.nx s.M/\nx+1<=s.nx) L.length ⟨0,Z,Z,?_⟩ ?_
    ·refine Ao aS e0 e3 ?_
     exact⟨ha,jY.le Z,Z⟩
    clear e0 e3 e6 ha hn hi ir aM aL jY y3;rintro m' ⟨env,M',nx'⟩ ⟨i,hi,ir,e0,e3,e7,ha,jY,hn⟩;simp only at e0 e3 e7 ha jY hn;have aM:aq nx M M':=a1.trans (ha.le Z);have y3:=(ha nx Z).trans z3;by_cases aL:(i:Int)<L.length
    ·have aP:i<L.length:=Z
     have bV:=eF i;obtain⟨r',sA⟩:∃r,L[i]?=some r:=⟨L[i],by simp[aP]⟩;obtain⟨q,o,Oc,bC,mi⟩:=a9.fldG (P:=am) aP (t:=35) jW.2.2.2.1;obtain⟨pk',pa',pb',pv',ve',dI,_⟩:=(gS i r' sA).cells;have hk:=mi 0 (.int .i64 r'.kind) Z (by rw[dI];rfl) 3 1 dA.1 M' (aM.le hb);have hT:=mi 1 (.int .u64 r'.t) Z (by rw[dI];rfl) 23 1 bi.1 M' (aM.le hb);have hX:=fun N hN=>mi 2 (.int .u64 r'.x) Z (by rw[dI];rfl) 23 1 bi.1 N hN
     rw[Nat.add_zero]at hk;clear mi dI;by_cases hkm:r'.kind=3\/r'.kind=4
     ·by_cases ht:r'.t=r.t
      ·obtain⟨a,n,kk,ZE⟩:∃a n kk,(if dq L r.t r'.x=0 then (.tup [.agg [.int .u64 0,.int .u64 0],.bool false]:XV) else .tup [.agg [.int .u64 r.t,.int .u64 (dq L r.t r'.x)],.bool true]) = .tup [.agg [.int .u64 a,.int .u64 n],.bool kk]:=by
        split
        ·exact⟨_,_,_,rfl⟩
        ·exact⟨_,_,_,rfl⟩
       have hX':=hX M' (aM.le hb);have hXn:∀(k:Nat) (o1 o2:bx),nx+1<=k->b_ am (ci (ci M' k o1) k o2) 23 (.mp q (o+2))=some ⟨.int .u64 r'.x,[q],[]⟩:=fun k o1 o2 hk=>hX _ (((aM.set Z _).set Z _).le hb)
       have hf109:∀(N:Hp) (n1:Nat),aq nx M N->nx<=n1->ar am ρ 109 [v,.int .u64 r.t,.int .u64 r'.x] N n1 (fe n1 N (.tup [.agg [.int .u64 a,.int .u64 n],.bool kk])):=fun N n1 h1 h2=>by
        have:=f109 (nx:=n1) ρ (hL0.agr (h1.le hb)) Z hl r.t r'.x;rw[ZE]at this;exact this
       have Bi:∀(K p:Nat),p ∈ [K]->p=K:=fun K p hp=>by simpa using hp
       have haf:∀(k:Nat) (o1 o2:bx),nx+1<=k->aq nx M (ci (ci M' k o1) k o2):=fun k o1 o2 hk=>(aM.set Z _).set Z _
       have hkargs:∀(q:Nat) (a n:Int),nx<=q->aE q [.agg [.int .i64 r.kind,.int .u64 r.t,.int .u64 r.x,.int .u64 r.w,.int .u64 r.n,.int .u64 r.v,.int .i64 pk,.int .u64 pa,.int .u64 pb,pv,ve],.int .u64 r'.x,.agg [.int .u64 a,.int .u64 n]]=true:=fun q a n hq=>mU fun y hy=>by
        simp only[mem_cons,not_mem_nil,or_false]at hy;rcases hy with rfl | rfl | rfl
        ·simp only[aO];exact MB q hq
        ·rfl
        ·rfl
       rcases hkm with k3 | k4
       ·refine ii aS e0 e3 e7 y3 NZ aL bC hk hT hX' (aI k3 ht) ?_
        refine aT (bN.read (v:=.tup [.agg [.int .u64 a,.int .u64 n],.bool kk]) (jY.le Z) (by simp only[aE];rw[hv _ Z];rfl) rfl fun N hN=>hf109 N _ (aM.trans (hN.le Z)) Z) af ?_;refine CU aS e0 e3 e7 y3 bC hX' hXn @aA ?_;refine⟨⟨bn _ _ _ _ _ _ (fun p hp=>by have:=Bi _ p hp;simp only[mem_range];omega) (fun p hp=>ae) (fun p hp=>by cases hp),bn _ _ _ _ _ _ (fun p hp=>by have:=Bi _ p hp;simp only[mem_singleton];omega) (fun p hp=>ae) (fun p hp=>by cases hp),bn _ _ _ _ _ _ (fun p hp=>by have:=Bi _ p hp;simp only[mem_singleton];omega) (fun p hp=>ae) (fun p hp=>by cases hp)⟩,?_⟩;refine aT (bN.read (v:=.bool (r.es.any (yT r'.x a n))) (((jY.le Z).set Z rfl).set Z rfl) (hkargs _ a n Z) rfl fun N hN=>f219 ρ (mP.agr (((haf _ _ _ Z).trans (hN.le Z)).le hb)) Z he r'.x a n) af ?_;cases Kh:r.es.any (yT r'.x a n) with
        | true =>
          refine iC aS e0 e3 e7 @aA bV ?_;exact⟨L.length - (i+1),Z,i+1,Z,rfl,rfl,(ha.set Z _).set Z _,((jY.le Z).set Z rfl).set Z rfl,Z⟩
        | false =>
          refine iC aS e0 e3 e7 @aA @wR.eq_1 ?_;exact⟨⟨_,rfl⟩,haf _ _ _ Z,Z⟩
       ·have k3:¬ (4:Int)=3:=Z
        refine ii aS e0 e3 e7 y3 NZ aL bC hk hT hX' (aI k3 (aI k4 ht)) ?_;refine aT (bN.read (v:=.tup [.agg [.int .u64 a,.int .u64 n],.bool kk]) (jY.le Z) (by simp only[aE];rw[hv _ Z];rfl) rfl fun N hN=>hf109 N _ (aM.trans (hN.le Z)) Z) af ?_;refine CU aS e0 e3 e7 y3 bC hX' hXn @aA ?_;refine⟨⟨bn _ _ _ _ _ _ (fun p hp=>by have:=Bi _ p hp;simp only[mem_range];omega) (fun p hp=>ae) (fun p hp=>by cases hp),bn _ _ _ _ _ _ (fun p hp=>by have:=Bi _ p hp;simp only[mem_singleton];omega) (fun p hp=>ae) (fun p hp=>by cases hp),bn _ _ _ _ _ _ (fun p hp=>by have:=Bi _ p hp;simp only[mem_singleton];omega) (fun p hp=>ae) (fun p hp=>by cases hp)⟩,?_⟩;refine aT (bN.read (v:=.bool (r.es.any (yT r'.x a n))) (((jY.le Z).set Z rfl).set Z rfl) (hkargs _ a n Z) rfl fun N hN=>f219 ρ (mP.agr (((haf _ _ _ Z).trans (hN.le Z)).le hb)) Z he r'.x a n) af ?_;cases Kh:r.es.any (yT r'.x a n) with
        | true =>
          refine iC aS e0 e3 e7 @aA bV ?_;exact⟨L.length - (i+1),Z,i+1,Z,rfl,rfl,(ha.set Z _).set Z _,((jY.le Z).set Z rfl).set Z rfl,Z⟩
        | false =>
          refine iC aS e0 e3 e7 @aA @wR.eq_1 ?_;exact⟨⟨_,rfl⟩,haf _ _ _ Z,Z⟩
      ·rcases hkm with k3 | k4
       ·refine ii aS e0 e3 e7 y3 NZ aL bC hk hT k3 (aI ht bV) ?_
        exact⟨L.length - (i+1),Z,i+1,Z,rfl,rfl,ha,jY.le Z,Z⟩
       ·have k3:¬ (4:Int)=3:=Z
        refine ii aS e0 e3 e7 y3 NZ aL bC hk hT k3 (aI k4 (aI ht bV)) ?_;exact⟨L.length - (i+1),Z,i+1,Z,rfl,rfl,ha,jY.le Z,Z⟩
     ·have k3:¬ r'.kind=3:=fun h=>hkm (.inl h)
      have k4:¬ r'.kind=4:=fun h=>hkm (.inr h)
      refine ii aS e0 e3 e7 y3 NZ aL bC hk k3 k4 bV ?_;exact⟨L.length - (i+1),Z,i+1,Z,rfl,rfl,ha,jY.le Z,Z⟩
    ·refine gw aS e0 e3 e7 y3 NZ aL ?_
     refine aC (fun m' s=>∃(i:Nat),i<=r.es.length/\m'=r.es.length - i/\gG s.env 0=some v/\gG s.env 3=some (.mp nx 0)/\gG s.env 10=some (.int .i64 i)/\aq (nx+1) M1 s.M/\Cl s.nx s.M/\nx+1<=s.nx) r.es.length ⟨0,Z,Z,?_⟩ ?_
     ·refine Ao aS e0 e3 ?_
      exact⟨ha,jY.le Z,Z⟩
     clear e0 e3 e7 ha hn hi ir aM aL jY y3;rintro m' ⟨env,M',nx'⟩ ⟨i,hi,ir,e0,e3,dx,ha,jY,hn⟩;simp only at e0 e3 dx ha jY hn;have aM:aq nx M M':=a1.trans (ha.le Z);have y3:=(ha nx Z).trans z3;by_cases aL:(i:Int)<r.es.length
     ·have aP:i<r.es.length:=Z
      have bV:=eF i;obtain⟨e,hE⟩:∃e,r.es[i]?=some e:=⟨r.es[i],by simp[aP]⟩;obtain⟨q,o,bC,l0,l1,l3⟩:=enE M' (aM.le hb) i e hE;clear enE;refine dw aS e0 e3 dx y3 ay aL bC l0 l1 l3 ?_;obtain⟨kb,hC⟩:=bN.anyB (P:=am) (ρ:=ρ) (g:=111) (args:=[v,.agg [.int .i64 pk,.int .u64 pa,.int .u64 pb,pv],.int .u64 e.x,.agg [.int .u64 e.w,.int .u64 e.n]]) (M:=M') (nx:=nx'+26) (jY.le Z) (by simp only[aE,aO];rw[hv _ Z,vh _ Z]) fun N hN=>f111 _ (hL0.agr ((aM.trans (hN.le Z)).le hb)) (hp.agr ((aM.trans (hN.le Z)).le hb)) Z hl hz e.x e.w e.n
      refine aT hC af ?_;have cf:=neqBg;have ne1:(true != true)=false:=rfl;have ne2:(true != false)=true:=rfl;have ne3:(false != true)=true:=rfl;have ne4:(false != false)=false:=rfl;cases hm:e.m with
      | true =>
        cases kb with
        | true =>
          refine ii aS e0 e3 dx @aA hm cf ne1 ne2 ne3 ne4 bV ?_;exact⟨r.es.length - (i+1),Z,i+1,Z,rfl,rfl,ha,jY.le Z,Z⟩
        | false =>
          refine ii aS e0 e3 dx @aA hm cf ne1 ne2 ne3 ne4 @wR.eq_1 ?_;exact⟨⟨_,rfl⟩,aM,Z⟩
      | false =>
        cases kb with
        | true =>
          refine ii aS e0 e3 dx @aA hm cf ne1 ne2 ne3 ne4 @wR.eq_1 ?_;exact⟨⟨_,rfl⟩,aM,Z⟩
        | false =>
          refine ii aS e0 e3 dx @aA hm cf ne1 ne2 ne3 ne4 bV ?_;exact⟨r.es.length - (i+1),Z,i+1,Z,rfl,rfl,ha,jY.le Z,Z⟩
     ·refine iQ aS e0 e3 dx y3 ay aL @wR.eq_1 ?_
      exact⟨⟨_,rfl⟩,aM,Z⟩
theorem f108 (ρ:aK) (hL:cP M b v L) (hr:b8 M b r cs) (hb:b<=nx) (hl:L.length<=100000) (he:r.es.length<=100000) (hz:TN r.p):ar am ρ 108 [v,.agg cs] M nx (wR nx M):=by
 have mP:=hr;obtain⟨pk,pa,pb,pv,ve,rfl,⟨p1,p2⟩,⟨q1,q2⟩,_,_⟩:=hr.cells;clear hr;refine ar.wk 75 [.tmp 4] Tryz.func108 ?_;by_cases k0:r.kind<1
 ·refine gw r9 p1 p2 q1 q2 k0 @wR.eq_1 ?_
  exact⟨⟨_,rfl⟩,O,Z⟩
 by_cases k7:7<r.kind
 ·refine iQ r9 p1 p2 q1 q2 k0 k7 @wR.eq_1 ?_
  exact⟨⟨_,rfl⟩,O,Z⟩
 refine gw r9 p1 p2 q1 q2 k0 k7 ?_;generalize xu:ci M nx _=M1;have a1:aq nx M M1:=by rw[<-xu];exact O
 have z:gG M1 nx=some (.row [.int .i64 r.kind,.int .u64 r.t,.int .u64 r.x,.int .u64 r.w,.int .u64 r.n,.int .u64 r.v,.int .i64 pk,.int .u64 pa,.int .u64 pb,pv,ve]):=by rw[<-xu];exact J
 clear xu;refine gQ (f153 ρ (mP.agr (a1.le hb)) Z) ?_;rintro⟨u,M2,n2⟩ ⟨⟨kb,g1⟩,g2,g3⟩;simp only at g1 g2 g3;subst g1;have z:=(g2 nx Z).trans z;have a2:=a1.trans (g2.le Z);clear g2 a1;cases kb with
 | false =>
   refine mI r9 @wR.eq_1 ?_;exact⟨⟨_,rfl⟩,a2,Z⟩
 | true =>
 by_cases t0:r.t=0
 ·refine ti r9 z t0 @wR.eq_1 ?_
  exact⟨⟨_,rfl⟩,a2,Z⟩
 refine Ao r9 z t0 ?_;refine lG (f154 ρ (hL.agr (a2.le hb)) Z hl r.t 1 1) fun M3 n3 g2 g3=>?_
 have z:=(g2 nx Z).trans z;have a3:=a2.trans (g2.le Z);clear g2 a2;cases hbg:L.any (Jf r.t 1 1) with
 | false =>
   by_cases k1:r.kind=1
   ·refine Ao r9 z k1 ?_
    refine lG (f154 ρ (hL.agr (a3.le hb)) Z hl r.t 6 7) fun M4 n4 g2 g3=>?_
    have z:=(g2 nx Z).trans z;have a4:=a3.trans (g2.le Z);clear g2 a3;cases QF:L.any (Jf r.t 6 7) with
    | true =>
      refine mI r9 @wR.eq_1 ?_;exact⟨⟨_,rfl⟩,a4,Z⟩
    | false =>
      have k2:¬ (1:Int)=2:=Z;have k5:¬ (1:Int)=5:=Z;refine iC r9 z k1 k2 k5 @wR.eq_1 ?_;exact⟨⟨_,rfl⟩,a4,Z⟩
   ·refine ti r9 z k1 @wR.eq_1 ?_
    exact⟨⟨_,rfl⟩,a3,Z⟩
 | true =>
   by_cases k1:r.kind=1
   ·refine ti r9 z k1 @wR.eq_1 ?_
    exact⟨⟨_,rfl⟩,a3,Z⟩
   ·refine Ao r9 z k1 ?_
    refine lG (f154 ρ (hL.agr (a3.le hb)) Z hl r.t 6 7) fun M4 n4 g2 g3=>?_
    have z:=(g2 nx Z).trans z;have a4:=a3.trans (g2.le Z);clear g2 a3;cases QF:L.any (Jf r.t 6 7) with
    | true =>
      refine mI r9 @wR.eq_1 ?_;exact⟨⟨_,rfl⟩,a4,Z⟩
    | false =>
      by_cases k2:r.kind=2
      ·refine Ao r9 z k2 ?_
       refine lG (f155 ρ (hL.agr (a4.le hb)) Z hl r.x r.w r.n) fun M5 n5 g2 g3=>?_
       have z:=(g2 nx Z).trans z;have a5:=a4.trans (g2.le Z);clear g2 a4;cases hth:xE L r.x r.w r.n with
       | false =>
         refine mI r9 @wR.eq_1 ?_;exact⟨⟨_,rfl⟩,a5,Z⟩
       | true =>
         obtain⟨a,n,kk,ZE⟩:∃a n kk,(if dq L r.t r.x=0 then (.tup [.agg [.int .u64 0,.int .u64 0],.bool false]:XV) else .tup [.agg [.int .u64 r.t,.int .u64 (dq L r.t r.x)],.bool true]) = .tup [.agg [.int .u64 a,.int .u64 n],.bool kk]:=by
          split
          ·exact⟨_,_,_,rfl⟩
          ·exact⟨_,_,_,rfl⟩
         refine Ao r9 z k2 ?_;refine gQ (f109 ρ (hL.agr (a5.le hb)) Z hl r.t r.x) ?_;rintro⟨u,M6,n6⟩ ⟨g1,g2,g3⟩;simp only at g1 g2 g3;rw[ZE]at g1;subst g1;have z:=(g2 nx Z).trans z;have a6:=a5.trans (g2.le Z);clear g2 a5;cases kk with
         | false =>
           have k5:¬ (2:Int)=5:=Z;refine mY r9 z k2 k5 @wR.eq_1 ?_;exact⟨⟨_,rfl⟩,(by(repeat (refine aq.set ?_ Z _));exact a6),Z⟩
         | true =>
           by_cases hw:a=r.w
           ·by_cases hn:n=r.n
            ·have k5:¬ (2:Int)=5:=Z
             refine gw r9 z k2 k5 hw hn @wR.eq_1 ?_;exact⟨⟨_,rfl⟩,(by(repeat (refine aq.set ?_ Z _));exact a6),Z⟩
            ·have k5:¬ (2:Int)=5:=Z
             refine gw r9 z k2 k5 hw hn @wR.eq_1 ?_;exact⟨⟨_,rfl⟩,(by(repeat (refine aq.set ?_ Z _));exact a6),Z⟩
           ·have k5:¬ (2:Int)=5:=Z
            have bfa:(false&&decide (n=r.n))=false:=rfl;refine gw r9 z k2 k5 hw bfa @wR.eq_1 ?_;exact⟨⟨_,rfl⟩,(by(repeat (refine aq.set ?_ Z _));exact a6),Z⟩
      by_cases k5:r.kind=5
      ·refine ti r9 z k2 k5 ?_
       refine gQ (k5 ▸ f156 ρ (hL.agr (a4.le hb)) (mP.agr (a4.le hb)) Z hl he hz) ?_;rintro⟨u,M5,n5⟩ ⟨⟨kk,g1⟩,g2,g3⟩;simp only at g1 g2 g3;subst g1;refine mI r9 @wR.eq_1 ?_;exact⟨⟨_,rfl⟩,a4.trans (g2.le Z),Z⟩
      ·refine mY r9 z k2 k5 @wR.eq_1 ?_
       exact⟨⟨_,rfl⟩,a4,Z⟩
end
end Go.Xs
namespace Go.Xs
open List Nat Option
variable{M:Hp}{cs:List XV}{p:Nat->Prop}
noncomputable section
open Go.Proofs
def Rl (nx:Nat) (M:Hp) (o:ew):Prop:=(∃e cs,o.1 = .agg cs/\dm o.2.1 (fun k=>nx<=k/\k<o.2.2) e cs/\TN e/\gI e/\dV e<=3)/\aq nx M o.2.1/\nx<=o.2.2
theorem I7 (n:Int):0<=IntKind.u64.wrap n:=by rw[IntKind.wrap_u64];omega
theorem qi (M:Hp) (p:Nat->Prop) (k x y:Int):dm M p (.mk k x y []) [.int .i64 k,.int .u64 x,.int .u64 y,.nils]:=by
 simp only[dm,bP];exact⟨.nils,[],rfl,⟨ae,.inl ⟨rfl,rfl,rfl⟩⟩,trivial⟩
theorem exAtP_mk {k x y:Int} {v:XV} {ps:List Ex} {row:List XV} (hs:dN M p v 4 ps.length row) (hp:bP M p ps row):dm M p (.mk k x y ps) [.int .i64 k,.int .u64 x,.int .u64 y,v]:=by
 simp only[dm];exact⟨v,row,rfl,hs,hp⟩
theorem exsAtP_1 {e:Ex} (h:dm M p e cs) (hl:cs.length=4):bP M p [e] cs:=by
 simp only[bP];exact⟨by rw[take_of_length_le Z];exact h,trivial⟩
theorem exsAtP_2 {e e':Ex} {cs':List XV} (h:dm M p e cs) (hl:cs.length=4) (h':dm M p e' cs') (Ut:cs'.length=4):bP M p [e,e'] (cs++cs'):=by
 simp only[bP];exact⟨by rw[take_left' hl];exact h,by rw[drop_left' hl,take_of_length_le Z];exact h',trivial⟩
theorem f110 (ρ:aK) (n:Int) (M:Hp) (nx:Nat):ar am ρ 110 [.int .i64 n] M nx (Rl nx M):=by
 refine ar.wk 46 [.cell 2 40] Tryz.func110 ?_;by_cases h0:n.tmod 6=0
 ·refine Ao fT h0 @Rl.eq_1 ?_
  exact⟨⟨_,_,rfl,qi _ _ _ _ _,by simp[TN,Ir],by simp[gI,o_,I7],by simp[dV,jb]⟩,O,Z⟩
 by_cases h1:n.tmod 6=1
 ·refine ti fT h0 h1 @Rl.eq_1 ?_
  exact⟨⟨_,_,rfl,qi _ _ _ _ _,by simp[TN,Ir],by simp[gI,o_,I7],by simp[dV,jb]⟩,O,Z⟩
 by_cases h2:n.tmod 6=2
 ·refine mY fT h0 h1 h2 @Rl.eq_1 ?_
  exact⟨⟨_,_,rfl,qi _ _ _ _ _,by simp[TN,Ir],by simp[gI,o_,I7],by simp[dV,jb]⟩,O,Z⟩
 by_cases h3:n.tmod 6=3
 ·refine iC fT h0 h1 h2 h3 @Rl.eq_1 ?_
  generalize hV:IntKind.u64.wrap _=a;generalize xu:ci (ci (ci M nx _) _ _) _ _=M1;have z:gG M1 (nx+16)=some (.row [.int .i64 3,.int .u64 a,.int .u64 0,.nils]):=by rw[<-xu];exact J
  have a1:aq nx M M1:=by rw[<-xu];exact O
  refine⟨⟨.mk 5 0 0 [.mk 3 a 0 []],_,rfl,?_,by simp[TN,Ir],by simp[gI,o_],by simp[dV,jb]⟩,a1,Z⟩;exact exAtP_mk (row:=[.int .i64 3,.int .u64 a,.int .u64 0,.nils]) ⟨ae,.inr ⟨nx+16,0,1,_,rfl,Z,by unfold vR;rw[z],ae,rfl⟩⟩ (exsAtP_1 (qi _ _ 3 a 0) rfl)
 by_cases h4:n.tmod 6=4
 ·refine gw fT h0 h1 h2 h3 h4 @Rl.eq_1 ?_
  generalize hV:IntKind.u64.wrap _=a;generalize xu:ci (ci (ci M nx _) _ _) _ _=M1;have z:gG M1 (nx+19)=some (.row [.int .i64 2,.int .u64 a,.int .u64 0,.nils,.int .i64 3,.int .u64 2,.int .u64 0,.nils]):=by rw[<-xu];exact J
  have a1:aq nx M M1:=by rw[<-xu];exact O
  refine⟨⟨.mk 6 0 0 [.mk 2 a 0 [],.mk 3 2 0 []],_,rfl,?_,by simp[TN,Ir],by simp[gI,o_],by simp[dV,jb]⟩,a1,Z⟩;exact exAtP_mk (row:=[.int .i64 2,.int .u64 a,.int .u64 0,.nils,.int .i64 3,.int .u64 2,.int .u64 0,.nils]) ⟨ae,.inr ⟨nx+19,0,2,_,rfl,Z,by unfold vR;rw[z],ae,rfl⟩⟩ (exsAtP_2 (qi _ _ 2 a 0) rfl (qi _ _ 3 2 0) rfl)
 ·refine gw fT h0 h1 h2 h3 h4 @Rl.eq_1 ?_
  exact⟨⟨_,_,rfl,qi _ _ _ _ _,by simp[TN,Ir],by simp[gI,o_,I7],by simp[dV,jb]⟩,O,Z⟩
end
end Go.Xs
namespace Go.Xs
open List Nat Option
variable{L:List aR}{M M':Hp}{b lo m nx:Nat}{rl:List XV}{v vb vl vr:XV}
noncomputable section
open Go.Proofs
theorem aar {P:Program} {Γ:cc} {env:eX} {key:Nat} (t:Nat) (x:Operand) (lo hi mx:Option Operand):cY P Γ env M key (.slice t x lo hi mx)=qY P M t (cG env x) (rN env lo) (rN env hi) (rN env mx):=rfl
theorem omap_n (env:eX):rN env none=none:=rfl
theorem omap_s (env:eX) (x:Operand):rN env (some x)=some (cG env x):=rfl
def sE:XV->Option Nat
 | .sl n _ _ _ _=>some n
 | _=>none
def isByte (x:XV):Prop:=∃n:Int,x = .int .u8 n/\0<=n/\n<256
def MkO (lo nx m:Nat) (vl vr:XV) (k:Nat):Prop:=lo<=k/\k<nx/\k≠m/\sE vl≠some k/\sE vr≠some k
def Da (M:Hp) (b:Nat) (v:XV) (nb:Nat):Prop:=nb<=9223372036854775807/\((v = .nils/\nb=0)\/∃K off cap cs,v = .sl K 1 off nb cap/\nb<=cap/\K<b/\vR M K=some cs/\off+nb<=cs.length/\∀j x,off<=j->j<off+nb->cs[j]?=some x->isByte x)
theorem Da.agr {nb:Nat} (h:Da M b v nb) (ha:aq b M M'):Da M' b v nb:=by
 obtain⟨h1,h2 | ⟨K,off,cap,cs,h2,h3,h4,h5,h6⟩⟩:=h
 ·exact⟨h1,.inl h2⟩
 ·exact⟨h1,.inr ⟨K,off,cap,cs,h2,h3,h4,lR h5 ha h4,h6⟩⟩
theorem Da.cell {nb:Nat} (h:Da M b v nb):dY v=[v]/\ax v=true:=by
 obtain⟨h1,⟨rfl,_⟩ | ⟨K,off,cap,cs,rfl,_⟩⟩:=h<;>exact⟨rfl,rfl⟩
theorem Da.len {nb:Nat} (h:Da M b v nb) (N:Hp):kZ am N 75 v=some ⟨.int .i64 nb,[],[]⟩:=by
 obtain⟨h1,⟨rfl,h2⟩ | ⟨K,off,cap,cs,rfl,_⟩⟩:=h
 ·subst h2
  unfold kZ;rw[Tryz.underlying75];rfl
 ·unfold kZ
  rw[Tryz.underlying75];rfl
structure LM (M:Hp) (nx lo m nb:Nat) (L:List aR) (vb vl vr:XV) (rl rr:List XV):Prop where
 row:gG M m=some (.row [vb,vl,vr,.bool false])
 hm:lo<=m/\m<nx
 by':Da M lo vb nb
 l:dG M (fun k=>lo<=k/\k<nx/\k≠m/\sE vr≠some k) vl 11 L.length rl
 r:dG M (fun k=>lo<=k/\k<nx/\k≠m/\sE vl≠some k) vr 11 L.length rr
 inl:∀j x,L[j]?=some x->eL M (MkO lo nx m vl vr) x ((rl.drop (j*11)).take 11)
 inr:∀j x,L[j]?=some x->eL M (MkO lo nx m vl vr) x ((rr.drop (j*11)).take 11)
def Mk (M:Hp) (nx lo m nb:Nat) (L:List aR):Prop:=∃vb vl vr rl rr,LM M nx lo m nb L vb vl vr rl rr
theorem LM.keep {nx' nb:Nat} {rr:List XV} (h:LM M nx lo m nb L vb vl vr rl rr) (ha:aq nx M M') (hn:nx<=nx'):LM M' nx' lo m nb L vb vl vr rl rr :=
 ⟨(ha m h.hm.2).trans h.row,⟨h.hm.1,by have:=h.hm.2;omega⟩,h.by'.agr (ha.le (by have:=h.hm;omega)),
  h.l.keep fun k hk=>⟨ha k hk.2.1,hk.1,Z,hk.2.2⟩,h.r.keep fun k hk=>⟨ha k hk.2.1,hk.1,Z,hk.2.2⟩,
  fun j x hx=>(h.inl j x hx).keep fun k hk=>⟨ha k hk.2.1,hk.1,by have:=hk.2.1;omega,hk.2.2⟩,fun j x hx=>(h.inr j x hx).keep fun k hk=>⟨ha k hk.2.1,hk.1,by have:=hk.2.1;omega,hk.2.2⟩⟩
theorem LM.bytes {nb nb':Nat} {vb':XV} {rr:List XV} (h:LM M nx lo m nb L vb vl vr rl rr) (hb:Da M lo vb' nb') :
 LM (ci M m (.row [vb',vl,vr,.bool false])) nx lo m nb' L vb' vl vr rl rr:=by
 have hh:∀k,k≠m->gG (ci M m (.row [vb',vl,vr,.bool false])) k=gG M k:=fun k hk=>by rw[ao,if_neg (fun e:m=k=>hk e.symm)]
 exact⟨by rw[ao,if_pos rfl],h.hm,hb.agr fun k hk=>hh k (by have:=h.hm;omega),h.l.keep fun k hk=>⟨hh k hk.2.2.1,hk⟩,h.r.keep fun k hk=>⟨hh k hk.2.2.1,hk⟩,
  fun j x hx=>(h.inl j x hx).keep fun k hk=>⟨hh k hk.2.2.1,hk⟩,fun j x hx=>(h.inr j x hx).keep fun k hk=>⟨hh k hk.2.2.1,hk⟩⟩
def NxtP (nx lo m nb:Nat) (L:List aR) (vl vr:XV) (rl rr:List XV) (M:Hp) (o:ew):Prop:=(∃x:Int,o.1 = .int .i64 x/\0<=x/\x<256)/\(∃vb,LM o.2.1 o.2.2 lo m (nb - 1) L vb vl vr rl rr)/\(∀q,q<nx->q≠m->gG o.2.1 q=gG M q)/\nx<=o.2.2
theorem f82 (ρ:aK) {nb:Nat} {rr:List XV} (hk:LM M nx lo m nb L vb vl vr rl rr) (n:Int) (hn:0<n/\n<=256):ar am ρ 82 [.mp m 0,.int .i64 n] M nx (NxtP nx lo m nb L vl vr rl rr M):=by
 have bA:=hk.row;have ay:=fun N=>hk.by'.len N
 have hc:=hk.by'.cell
 have cF:=hk.l.cell;have Be:=hk.r.cell;have vY:=hk.hm;refine ar.wk 30 [.tmp 4] Tryz.func82 ?_;by_cases hz:nb=0
 ·have Rb:(nb:Int)=0:=Z
  refine mY so bA ay Rb @NxtP.eq_1 ?_;exact⟨⟨0,rfl,Z,Z⟩,⟨vb,by subst hz;exact hk.keep (aq.refl _ _) Z⟩,fun _ _ _=>trivial,Z⟩
 ·have Rb:¬ (nb:Int)=0:=Z
  obtain⟨VF,⟨_,ZR⟩ | ⟨K,off,cap,cs,rfl,hcap,hK,vR,sU,Y8⟩⟩:=hk.by'
  ·omega
  ·obtain⟨x,hx,Q9,VV⟩:∃x:Int,cs[off]?=some (.int .u8 x)/\0<=x/\x<256:=by
    obtain⟨y,hy⟩:∃y,cs[off]?=some y:=⟨cs[off]' Z,getElem?_eq_getElem Z⟩;obtain⟨x,rfl,h1,h2⟩:=Y8 off y (Nat.le_refl _) Z hy;exact⟨x,hy,h1,h2⟩
   have bC:∀kk,br am 75 (.sl K 1 off nb cap) (.int kk 0)=some (.mp K off):=fun kk=>by
    rw[cy,ty75.2.2.2.1,show (0:Int)=((0:Nat):Int) from rfl,ev _ _ _ _ _ Z Z];simp
   have aU:b_ am M 5 (.mp K off)=some ⟨.int .u8 x,[K],[]⟩:=dB vR ty5.1 hx;have hw:IntKind.i64.wrap x=x:=wrap_i64 Z Z;have ZR:¬ n=0:=Z;have hsc:∀N,qY am N 75 (.sl K 1 off nb cap) (some (.int .i64 1)) none none=some ⟨.sl K 1 (off+1) (nb - 1) (cap - 1),[],[]⟩:=fun N=>by
    unfold qY;simp only[Lb,Tryz.underlying75,ty5.2.1];rw[show Nat.ble 1 nb=true by rw[ble_eq];omega,show Nat.ble nb cap=true by rw[ble_eq];omega,show Nat.ble cap cap=true by rw[ble_eq];omega];rfl
   have hby:Da M lo (.sl K 1 (off+1) (nb - 1) (cap - 1)) (nb - 1):=⟨Z,.inr ⟨K,off+1,cap - 1,cs,rfl,Z,hK,vR,Z,fun j y h1 h2=>Y8 j y Z Z⟩⟩;refine ii so bA ay Rb bC aU hw ZR @aar @omap_n @omap_s (aI hsc (aI cF.1 (aI cF.2 (aI Be.1 (aI Be.2 @NxtP.eq_1))))) ?_;refine⟨⟨_,rfl,?_,?_⟩,⟨_,(hk.bytes hby).keep (aq.refl _ _) Z⟩,fun q hq cf=>by rw[if_neg (show ¬ aw m q from fun e=>cf (by have e:m=q:=e;exact e.symm))],Z⟩
   ·exact Int.tmod_nonneg _ Q9
   ·have:=Int.tmod_lt_of_pos x hn.1
    omega
end
end Go.Xs
namespace Go.Xs
open List Nat Option
variable{L:List aR}{M:Hp}{cs rl:List XV}{lo m n nx sz:Nat}{p:Nat->Prop}{v vb vl vr:XV}
noncomputable section
open Go.Proofs
theorem LM.recsR {nb:Nat} {rr:List XV} (h:LM M nx lo m nb L vb vl vr rl rr):cP M nx vr L :=
 ⟨rr,h.r.at fun k hk=>hk.2.1,fun j x hx=>b8.pp.2 ((h.inr j x hx).keep fun k hk=>⟨rfl,hk.2.1⟩)⟩
theorem aaq (h:dG M p v sz n cs) (H:Hp) {key q:Nat} {row:List XV} (hq:key≠q) (hk:sE v≠some q):gG (aY H (nA v key row)) q=gG H q:=by
 obtain⟨_,_,⟨rfl,_⟩ | ⟨k,rfl,_,_⟩⟩:=h
 ·simp only[nA,pg,oX]
  rw[ao,if_neg (fun e=>hq e)]
 ·simp only[nA,pg,yi,oX]
  rw[ao,if_neg (fun e=>hq e),cV,if_neg (fun e=>hk (by have e:k=q:=e;rw[e];rfl))]
theorem key_ne (h:dG M p v sz n cs) (hp:∀k,p k->k≠m):sE v≠some m:=by
 obtain⟨_,_,⟨rfl,_⟩ | ⟨k,rfl,hk,_⟩⟩:=h
 ·intro hh;cases hh
 ·intro hh;cases hh;exact hp _ hk rfl
theorem aao {q:Nat} (h:dG M p v sz n cs) (hq:sE v=some q):p q:=by
 obtain⟨_,_,⟨rfl,_⟩ | ⟨k,rfl,hk,_⟩⟩:=h
 ·cases hq
 ·cases hq;exact hk
def PutP (nx lo m nb:Nat) (L:List aR) (r:aR) (M:Hp) (vb:XV) (o:ew):Prop:=o.1 = .tup []/\nx<=o.2.2/\aq lo M o.2.1/\∃L',(L'=L\/L'=L++[r])/\∃vl vr rl rr,LM o.2.1 o.2.2 lo m nb L' vb vl vr rl rr
theorem TU (ρ:aK) {nb:Nat} {r:aR} {rr:List XV} (h:LM M nx lo m nb L vb vl vr rl rr) (hr:eL M (MkO lo nx m vl vr) r cs) (hl:L.length<=1000) (he:r.es.length<=1000) (hp:dV r.p<=1000) (hz:TN r.p) :
 ar am ρ 83 [.mp m 0,.agg cs] M nx (PutP nx lo m nb L r M vb):=by
 refine ar.closed fun Za aX=>?_
 have mP:b8 M nx r cs:=b8.pp.2 (hr.keep fun k hk=>⟨rfl,hk.2.1⟩);obtain⟨pk,pa,pb,pv,ve,dI,⟨p1,p2⟩,⟨q1,q2⟩,_,_⟩:=mP.cells;subst dI;have vY:=h.hm;have hcb:=h.by'.cell
 have cF:=h.l.cell;have Be:=h.r.cell;have Us:∀v,v ∈ [vl,vr]->aO nx v=true:=fun v hv=>by
  have:=(Za m _ h.row).2;simp only[cp]at this;exact cq this (by simp at hv;rcases hv with rfl | rfl<;>simp)
 have MB:=cq aX (show (.agg [.int .i64 r.kind,.int .u64 r.t,.int .u64 r.x,.int .u64 r.w,.int .u64 r.n,.int .u64 r.v,.int .i64 pk,.int .u64 pa,.int .u64 pb,pv,ve]:XV) ∈ _ by simp);simp only[aO]at MB;clear aX Za;refine ar.wk 34 [] Tryz.func83 ?_;refine mY cD p1 p2 q1 q2 ?_;generalize xu:ci M nx _=M1;have a1:aq nx M M1:=by rw[<-xu];exact O
 have z3:gG M1 nx=some (.row [.int .i64 r.kind,.int .u64 r.t,.int .u64 r.x,.int .u64 r.w,.int .u64 r.n,.int .u64 r.v,.int .i64 pk,.int .u64 pa,.int .u64 pb,pv,ve]):=by rw[<-xu];exact J
 clear xu;refine gQ (f42 ρ (mP.agr a1) Z Z Z).out ?_;rintro⟨u,M2,n2⟩ ⟨⟨⟨cs2,g1,g2⟩,g3,g4⟩,AV,QQ⟩;simp only at g1 g2 g3 g4 AV QQ;subst g1;obtain⟨pk',pa',pb',pv',ve',hcs2,⟨MR,MS⟩,⟨MT,MU⟩⟩:=g2.cells;subst hcs2;obtain⟨VZ,hlo2,g2⟩:∃VZ,nx+1<=VZ/\lg M2 (fun k=>VZ<=k/\k<n2) r _:=⟨_,Z,g2⟩;have a2:aq nx M M2:=a1.trans (g3.le Z);have z3:=(g3 nx Z).trans z3;clear g3 a1;have zm:=(a2 m vY.2).trans h.row;refine CU cD MR MS MT MU zm hcb.1 cF.1 Be.1 ?_;generalize oM:ci (ci M2 _ _) _ _=M3;have a3:aq n2 M2 M3:=by rw[<-oM];exact O
 have z4:gG M3 n2=some (.row [.int .i64 r.kind,.int .u64 r.t,.int .u64 r.x,.int .u64 r.w,.int .u64 r.n,.int .u64 r.v,.int .i64 pk',.int .u64 pa',.int .u64 pb',pv',ve']):=by rw[<-oM];exact J
 have hkr':aE n2 [.int .i64 r.kind,.int .u64 r.t,.int .u64 r.x,.int .u64 r.w,.int .u64 r.n,.int .u64 r.v,.int .i64 pk',.int .u64 pa',.int .u64 pb',pv',ve']=true:=by simpa only [aO] using QQ
 have yG:Cl (n2+1) M3:=by rw[<-oM];exact((AV.le Z).set Z rfl).set Z (by simp only[cp];exact aE.le Z hkr')
 clear oM AV;have aM3:aq nx M M3:=a2.trans (a3.le Z);have h3:=h.keep aM3 (show nx<=n2 by omega);have hrr:=h3.recsR;have zm:=h3.row;have z3:=(a3 nx Z).trans z3;have hrA:b8 M3 n2 r [.int .i64 r.kind,.int .u64 r.t,.int .u64 r.x,.int .u64 r.w,.int .u64 r.n,.int .u64 r.v,.int .i64 pk',.int .u64 pa',.int .u64 pb',pv',ve']:=(g2.keep (q:=fun k=>k<n2) fun k hk=>⟨a3 k hk.2,hk.2⟩).at fun k hk=>hk
 obtain⟨kb,hC⟩:=bN.anyI (P:=am) (ρ:=ρ) (g:=108) (args:=[vr,.agg [.int .i64 r.kind,.int .u64 r.t,.int .u64 r.x,.int .u64 r.w,.int .u64 r.n,.int .u64 r.v,.int .i64 pk',.int .u64 pa',.int .u64 pb',pv',ve']]) (M:=M3) (nx:=n2+7) (yG.le Z) (mU fun y hy=>by
  simp only[mem_cons,not_mem_nil,or_false]at hy;rcases hy with rfl | rfl
  ·exact aO.le Z (Us _ ae)
  ·simp only[aO];exact aE.le Z hkr') fun N hN=>f108 _ (hrr.agr (hN.le Z)) (hrA.agr (hN.le Z)) Z Z Z hz
 refine aT hC af ?_;by_cases hkb:kb=0
 rotate_left
 ·refine ti cD hkb @aA @PutP.eq_1 ?_
  exact⟨Z,aM3.le Z,L,.inl rfl,vl,vr,rl,rr,h3.keep (aq.refl _ _) Z⟩
 have dX:=h3.l.pushP (hi:=n2) (fun q hq=>hq.2.1) am 22 120 [.int .i64 0,.int .u64 0,.int .u64 0,.int .u64 0,.int .u64 0,.int .u64 0,.int .i64 0,.int .u64 0,.int .u64 0,.nils,.nils] [.int .i64 r.kind,.int .u64 r.t,.int .u64 r.x,.int .u64 r.w,.int .u64 r.n,.int .u64 r.v,.int .i64 pk,.int .u64 pa,.int .u64 pb,pv,ve] Z Z rfl (by simp only[fE];omega) (by simp only[all_cons,all_nil,p2,q2];rfl);have hzm:∀(B key:Nat) (o:bx) (row:List XV),n2<=B->n2<=key->gG (aY (ci M3 B o) (nA vl key row)) m=some (.row [vb,vl,vr,.bool false]):=fun B key o row h1 h2=>(aaq h3.l _ Z (key_ne h3.l fun k hk=>hk.2.2.1)).trans (by rw[ao,if_neg (fun e=>by have e:B=m:=e;omega)];exact zm)
 generalize hB:Code.region 4 _ _=B;refine ii cD hkb @aA @Fo z3 zm p1 p2 q1 q2 dX hzm ?_;subst hB;have hm1:∀(K p:Nat),p ∈ [K]->p=K:=fun K p hp=>by simpa using hp
 refine⟨bn _ _ _ _ _ _ (fun p hp=>by have:=hm1 _ p hp;simp only[mem_singleton];omega) (fun p hp=>ae) (fun p hp=>by cases hp),?_⟩;have Ec:=key_ne h3.l (m:=m) fun k hk=>hk.2.2.1
 have S2:∀q,q<=n2->q≠m->sE vl≠some q->∀(B key:Nat) (o o':bx) (row:List XV),n2<B->n2<key->gG (ci (aY (ci M3 B o) (nA vl key row)) m o') q=gG M3 q:=fun q hq cf hv B key o o' row h1 h2=>by
  rw[ao,if_neg (fun e=>cf (by have e:m=q:=e;exact e.symm)),aaq h3.l _ Z hv,ao,if_neg (fun e=>by have e:B=q:=e;omega)]
 have hl4:∀(B key:Nat) (o o':bx),n2<B->n2<key->dG (ci (aY (ci M3 B o) (nA vl key (rl++[.int .i64 r.kind,.int .u64 r.t,.int .u64 r.x,.int .u64 r.w,.int .u64 r.n,.int .u64 r.v,.int .i64 pk,.int .u64 pa,.int .u64 pb,pv,ve]))) m o') (fun k=>k=key) (.sl key 11 0 (L.length+1) (L.length+1)) 11 (L.length+1) (rl++[.int .i64 r.kind,.int .u64 r.t,.int .u64 r.x,.int .u64 r.w,.int .u64 r.n,.int .u64 r.v,.int .i64 pk,.int .u64 pa,.int .u64 pb,pv,ve]):=fun B key o o' h1 h2 =>
  (h3.l.pushedP (p':=fun k=>k=key) (H:=ci M3 B o) rfl rfl Z).keep fun k hk=>⟨by have hk:k=key:=hk;rw[ao,if_neg (fun e=>by have e:m=k:=e;omega)],hk⟩
 have hl4:=hl4 (n2+14) (n2+15) (.row [.int .i64 r.kind,.int .u64 r.t,.int .u64 r.x,.int .u64 r.w,.int .u64 r.n,.int .u64 r.v,.int .i64 pk,.int .u64 pa,.int .u64 pb,pv,ve]) (.row [vb,.sl (n2+15) 11 0 (L.length+1) (L.length+1),vr,.bool false]) Z Z;have S2:=fun q h1 h2 h4=>S2 q h1 h2 h4 (n2+14) (n2+15) (.row [.int .i64 r.kind,.int .u64 r.t,.int .u64 r.x,.int .u64 r.w,.int .u64 r.n,.int .u64 r.v,.int .i64 pk,.int .u64 pa,.int .u64 pb,pv,ve]) (.row [vb,.sl (n2+15) 11 0 (L.length+1) (L.length+1),vr,.bool false]) (rl++[.int .i64 r.kind,.int .u64 r.t,.int .u64 r.x,.int .u64 r.w,.int .u64 r.n,.int .u64 r.v,.int .i64 pk,.int .u64 pa,.int .u64 pb,pv,ve]) Z Z
 generalize Gi:ci (aY (ci M3 _ _) _) m _=M4 at hl4 S2 ⊢;have zm4:gG M4 m=some (.row [vb,.sl (n2+15) 11 0 (L.length+1) (L.length+1),vr,.bool false]):=by rw[<-Gi,ao,if_pos rfl]
 clear Gi dX hzm;have hvk:∀k,sE vl=some k->k<nx:=fun k hk=>(aao h.l hk).2.1
 have Gr:∀k,sE vr=some k->k<nx:=fun k hk=>(aao h.r hk).2.1
 have z4':=(S2 n2 (Nat.le_refl _) Z (fun hh=>by have:=hvk _ hh;omega)).trans z4;have hr4:dG M4 (fun k=>lo<=k/\k<nx/\k≠m/\sE vl≠some k) vr 11 L.length rr:=(h.keep aM3 (Nat.le_refl _)).r.keep fun k hk=>⟨S2 k Z hk.2.2.1 hk.2.2.2,hk⟩
 have dX:=hr4.pushP (hi:=n2) (fun q hq=>Z) am 35 120 [.int .i64 0,.int .u64 0,.int .u64 0,.int .u64 0,.int .u64 0,.int .u64 0,.int .i64 0,.int .u64 0,.int .u64 0,.nils,.nils] [.int .i64 r.kind,.int .u64 r.t,.int .u64 r.x,.int .u64 r.w,.int .u64 r.n,.int .u64 r.v,.int .i64 pk',.int .u64 pa',.int .u64 pb',pv',ve'] Z Z rfl (by simp only[fE];omega) (by simp only[all_cons,all_nil,MS,MU];rfl);have hzm:∀(B key:Nat) (o:bx) (row:List XV),n2<=B->n2<=key->gG (aY (ci M4 B o) (nA vr key row)) m=some (.row [vb,.sl (n2+15) 11 0 (L.length+1) (L.length+1),vr,.bool false]):=fun B key o row h1 h2=>(aaq hr4 _ Z (key_ne hr4 fun k hk=>hk.2.2.1)).trans (by rw[ao,if_neg (fun e=>by have e:B=m:=e;omega)];exact zm4)
 refine ii cD @Fo z4' zm4 MR MS MT MU hcb.1 Be.1 dX (aI hzm @PutP.eq_1) ?_;refine⟨bn _ _ _ _ _ _ (fun p hp=>by have:=hm1 _ p hp;simp only[mem_singleton];omega) (fun p hp=>ae) (fun p hp=>by cases hp),?_⟩;have aap:∀q,q<n2+25->q≠m->sE vr≠some q->∀(o o':bx) (row:List XV),gG (ci (aY (ci M4 (n2+25) o) (nA vr (n2+26) row)) m o') q=gG M4 q:=fun q hq cf hv o o' row=>by
  rw[ao,if_neg (fun e=>cf (by have e:m=q:=e;exact e.symm)),aaq hr4 _ Z hv,ao,if_neg (fun e=>by have e:n2+25=q:=e;omega)]
 have hr5:∀(o o':bx),dG (ci (aY (ci M4 (n2+25) o) (nA vr (n2+26) (rr++[.int .i64 r.kind,.int .u64 r.t,.int .u64 r.x,.int .u64 r.w,.int .u64 r.n,.int .u64 r.v,.int .i64 pk',.int .u64 pa',.int .u64 pb',pv',ve']))) m o') (fun k=>k=n2+26) (.sl (n2+26) 11 0 (L.length+1) (L.length+1)) 11 (L.length+1) (rr++[.int .i64 r.kind,.int .u64 r.t,.int .u64 r.x,.int .u64 r.w,.int .u64 r.n,.int .u64 r.v,.int .i64 pk',.int .u64 pa',.int .u64 pb',pv',ve']):=fun o o' =>
  (hr4.pushedP (p':=fun k=>k=n2+26) (H:=ci M4 (n2+25) o) rfl rfl Z).keep fun k hk=>⟨by have hk:k=n2+26:=hk;rw[ao,if_neg (fun e=>by have e:m=k:=e;omega)],hk⟩
 have hr5:=hr5 (.row [.int .i64 r.kind,.int .u64 r.t,.int .u64 r.x,.int .u64 r.w,.int .u64 r.n,.int .u64 r.v,.int .i64 pk',.int .u64 pa',.int .u64 pb',pv',ve']) (.row [vb,.sl (n2+15) 11 0 (L.length+1) (L.length+1),.sl (n2+26) 11 0 (L.length+1) (L.length+1),.bool false]);have aap:=fun q h1 h2 h4=>aap q h1 h2 h4 (.row [.int .i64 r.kind,.int .u64 r.t,.int .u64 r.x,.int .u64 r.w,.int .u64 r.n,.int .u64 r.v,.int .i64 pk',.int .u64 pa',.int .u64 pb',pv',ve']) (.row [vb,.sl (n2+15) 11 0 (L.length+1) (L.length+1),.sl (n2+26) 11 0 (L.length+1) (L.length+1),.bool false]) (rr++[.int .i64 r.kind,.int .u64 r.t,.int .u64 r.x,.int .u64 r.w,.int .u64 r.n,.int .u64 r.v,.int .i64 pk',.int .u64 pa',.int .u64 pb',pv',ve'])
 generalize mR:ci (aY (ci M4 _ _) _) m _=M5 at hr5 aap ⊢;have zm5:gG M5 m=some (.row [vb,.sl (n2+15) 11 0 (L.length+1) (L.length+1),.sl (n2+26) 11 0 (L.length+1) (L.length+1),.bool false]):=by rw[<-mR,ao,if_pos rfl]
 clear mR dX hzm;have hvk':∀q,nx<=q->sE vl≠some q:=fun q hq hh=>by have:=hvk q hh;omega
 have hrk':∀q,nx<=q->sE vr≠some q:=fun q hq hh=>by have:=Gr q hh;omega
 have dy:∀q,q<nx->q≠m->sE vl≠some q->sE vr≠some q->gG M5 q=gG M q:=fun q h1 h2 h4 h5=>(aap q Z h2 h5).trans ((S2 q Z h2 h4).trans (aM3 q h1))
 have mO:∀q,VZ<=q->q<n2->gG M5 q=gG M2 q:=fun q h1 h2=>(aap q Z Z (hrk' q Z)).trans ((S2 q Z Z (hvk' q Z)).trans (a3 q h2))
 have alo:aq lo M M5:=fun q hq=>dy q Z Z (fun hh=>by have:=(aao h.l hh).1;omega) (fun hh=>by have:=(aao h.r hh).1;omega)
 have hLl:(L++[r]).length=L.length+1:=ae;have ow:∀j x,(L++[r])[j]?=some x->j<L.length+1/\(j<L.length->L[j]?=some x)/\(¬ j<L.length->x=r):=fun j x hx=>by
  have hj:=(List.getElem?_eq_some_iff.1 hx).1;rw[hLl]at hj;refine⟨hj,fun aL=>by rwa [getElem?_append_left aL]at hx,fun aL=>?_⟩;have:j=L.length:=Z;subst this;simpa using hx.symm
 refine⟨Z,alo,L++[r],.inr rfl,_,_,rl++[.int .i64 r.kind,.int .u64 r.t,.int .u64 r.x,.int .u64 r.w,.int .u64 r.n,.int .u64 r.v,.int .i64 pk,.int .u64 pa,.int .u64 pb,pv,ve],rr++[.int .i64 r.kind,.int .u64 r.t,.int .u64 r.x,.int .u64 r.w,.int .u64 r.n,.int .u64 r.v,.int .i64 pk',.int .u64 pa',.int .u64 pb',pv',ve'],⟨zm5,⟨vY.1,Z⟩,h.by'.agr alo,?_,?_,fun j x hx=>?_,fun j x hx=>?_⟩⟩
 ·rw[hLl]
  exact hl4.keep fun k hk=>by
   have hk:k=n2+15:=hk;subst hk;exact⟨aap _ Z Z (hrk' _ Z),Z,Z,Z,by simp[sE]⟩
 ·rw[hLl]
  exact hr5.keep fun k hk=>by
   have hk:k=n2+26:=hk;subst hk;exact⟨rfl,Z,Z,Z,by simp[sE]⟩
 ·obtain⟨hj,h1,h2⟩:=ow j x hx
  rw[mf h.l.2.1 rfl hj];have kp:∀k,MkO lo nx m vl vr k->gG M5 k=gG M k/\MkO lo (n2+30) m (.sl (n2+15) 11 0 (L.length+1) (L.length+1)) (.sl (n2+26) 11 0 (L.length+1) (L.length+1)) k:=fun k hk =>
   ⟨dy k hk.2.1 hk.2.2.1 hk.2.2.2.1 hk.2.2.2.2,hk.1,by have:=hk.2.1;omega,hk.2.2.1,by have:=hk.2.1;simp[sE];omega,by have:=hk.2.1;simp[sE];omega⟩
  split
  ·rename_i aL
   exact(h.inl j x (h1 aL)).keep kp
  ·rename_i aL
   rw[h2 aL];exact hr.keep kp
 ·obtain⟨hj,h1,h2⟩:=ow j x hx
  rw[mf h.r.2.1 rfl hj];split
  ·rename_i aL
   exact(h.inr j x (h1 aL)).keep fun k hk=>⟨dy k hk.2.1 hk.2.2.1 hk.2.2.2.1 hk.2.2.2.2,hk.1,by have:=hk.2.1;omega,hk.2.2.1,by have:=hk.2.1;simp[sE];omega,by have:=hk.2.1;simp[sE];omega⟩
  ·rename_i aL
   rw[h2 aL];obtain⟨pc,ve2,e1,e2,e3⟩:=g2;rw[e1];refine eL.keep (p:=fun k=>VZ<=k/\k<n2) (M:=M2) ⟨pc,ve2,rfl,e2.pp,e3.pp⟩ fun k hk=>⟨mO k hk.1 hk.2,Z,by have:=hk.2;omega,by have:=hk.1;omega,by have:=hk.2;simp[sE];omega,by have:=hk.2;simp[sE];omega⟩
end
end Go.Xs
namespace Go.Xs
open List Nat Option
variable{L:List aR}{M:Hp}{i n:Nat}
noncomputable section
open Go.Proofs
def VerP (nx:Nat) (M:Hp) (o:ew):Prop:=(∃w n:Int,o.1 = .agg [.int .u64 w,.int .u64 n])/\aq nx M o.2.1/\nx<=o.2.2
theorem slice_pre {len:Nat} (hi:i<=len):qY am M 35 (.sl n 11 0 len len) none (some (.int .i64 (i:Nat))) none=some ⟨.sl n 11 0 i len,[],[]⟩:=by
 unfold qY;have e:(Int.ofNat i)=((i:Nat):Int):=rfl;simp only[<-e,Lb,Tryz.underlying35,nO.2.1];rw[show Nat.ble 0 i=true by rw[ble_eq];omega,show Nat.ble i len=true by rw[ble_eq];omega,show Nat.ble len len=true by rw[ble_eq];omega];simp;rfl
theorem recs_take {b k:Nat} {rr:List XV} (hr:gG M k=some (.row rr)) (hk:k<b) (hl:rr.length=L.length*11) (hL:L.length<=1000) (h:∀j x,L[j]?=some x->b8 M b x ((rr.drop (j*11)).take 11)) (hi:i<=L.length):cP M b (.sl k 11 0 i L.length) (L.take i):=by
 have e:(L.take i).length=i:=by rw[length_take];omega
 have RJ:i*11<=L.length*11:=mul_le_mul_right _ hi;refine⟨rr.take (i*11),⟨Z,.inr ⟨k,0,L.length,rr,by rw[e],hk,by unfold vR;rw[hr],by rw[e];omega,by rw[e];simp⟩⟩,fun j x hx=>?_⟩;rw[getElem?_take]at hx;split at hx
 ·rename_i kX
  have:=h j x hx;rw[List.drop_take,take_take,Nat.min_eq_left (by have:(j+1)*11<=i*11:=mul_le_mul_right _ kX;omega)];exact this
 ·cases hx
theorem Cl.ap {p:Nat->Prop} {v:XV} {sz:Nat} {cs:List XV} (h:dG M p v sz n cs) {H:Hp} {N key:Nat} {row:List XV} (hc:Cl N H) (hk:key<N) (hr:aE N row=true):Cl N (aY H (nA v key row)):=by
 obtain⟨_,_,⟨rfl,_⟩ | ⟨k,rfl,_,_⟩⟩:=h
 ·simp only[nA,pg,oX]
  exact hc.set hk (by simpa only [cp] using hr)
 ·simp only[nA,pg,yi,oX]
  exact hc.del.set hk (by simpa only [cp] using hr)
theorem vps_klt (N:Nat) (l:List (Int×Int)) (a b:Int):aE N (l.flatMap fA++[.int .u64 a,.int .u64 b])=true:=mU fun x hx=>by
 have:∃k:Int,x = .int .u64 k:=by
  simp only[mem_append,mem_flatMap,fA,mem_cons,not_mem_nil,or_false]at hx;obtain⟨e,_,h | h⟩ | h | h:=hx<;>exact⟨_,h⟩
 obtain⟨k,rfl⟩:=this;simp only[aO]
theorem f84 (ρ:aK) {nx lo m nb:Nat} {vb vl vr:XV} {rl rr:List XV} (hk:LM M nx lo m nb L vb vl vr rl rr) (hl:L.length<=1000) (t x pick:Int) (hp:0<=pick/\pick<256):ar am ρ 84 [.mp m 0,.int .u64 t,.int .u64 x,.int .i64 pick] M nx (VerP nx M):=by
 refine ar.closed fun Za aX=>?_
 have vY:=hk.hm;have bA:=hk.row;have hcb:=hk.by'.cell
 have cF:=hk.l.cell;have Be:=hk.r.cell;have hrr:=hk.recsR;have US:∀q,nx<=q->aO q vr=true:=fun q hq=>by
  have:=(Za m _ bA).2;simp only[cp]at this;exact aO.le hq (cq this ae)
 clear aX;obtain⟨a,n,kk,ZE⟩:∃a n kk,(if dq L t x=0 then (.tup [.agg [.int .u64 0,.int .u64 0],.bool false]:XV) else .tup [.agg [.int .u64 t,.int .u64 (dq L t x)],.bool true]) = .tup [.agg [.int .u64 a,.int .u64 n],.bool kk]:=by
  split
  ·exact⟨_,_,_,rfl⟩
  ·exact⟨_,_,_,rfl⟩
 refine ar.wk 151 [.cell 8 25] Tryz.func84 ?_;refine ti az bA Be.1 Be.2 ?_;generalize xu:ci M nx _=M1;have a1:aq nx M M1:=by rw[<-xu];exact O
 have z8:gG M1 nx=some (.row [.int .u64 0,.int .u64 0]):=by rw[<-xu];exact J
 have sR:Cl (nx+1) M1:=by rw[<-xu];exact(Za.le Z).set Z rfl
 clear xu;refine gQ (f109 ρ (hrr.agr a1) Z Z t x).out ?_;rintro⟨u,M2,n2⟩ ⟨⟨g1,g2,g3⟩,AV,_⟩;simp only at g1 g2 g3 AV;rw[ZE]at g1;subst g1;have z8:=(g2 nx Z).trans z8;have a2:aq nx M M2:=a1.trans (g2.le Z);have hrow2:=(a2 m vY.2).trans bA;clear g2 a1;cases kk with
 | true =>
   refine Ao az z8 @VerP.eq_1 ?_;exact⟨⟨_,_,rfl⟩,(by(repeat (refine aq.set ?_ Z _));exact a2),Z⟩
 | false =>
   refine mY az z8 hrow2 Be.1 Be.2 ?_;refine aC (fun m' s=>∃(i:Nat) (vv:XV) (l:List (Int×Int)),i<=L.length/\m'=L.length - i/\gG s.env 0=some (.mp m 0)/\gG s.env 1=some (.int .u64 t)/\gG s.env 2=some (.int .u64 x)/\gG s.env 3=some (.int .i64 pick)/\gG s.env 8=some (.mp nx 0)/\gG s.env 14=some vv/\gG s.env 15=some (.mp (n2+18) 0)/\gG s.env 16=some (.int .i64 i) /\
    gY s.M (fun q=>n2<=q/\q<s.nx/\q≠n2+18) vv 2 fA l/\(∃w n:Int,gG s.M (n2+18)=some (.row [.int .u64 w,.int .u64 n]))/\aq n2 M2 s.M/\Cl s.nx s.M/\n2+21<=s.nx/\0<l.length/\l.length<=i+1) L.length ⟨0,.sl (n2+15) 2 0 1 1,[(0,0)],Z,Z,?_⟩ ?_
   ·refine bR az ?_
    refine⟨?_,⟨_,_,rfl⟩,O,?_,Z,Z⟩
    ·exact⟨ae,by simp[fA],.inr ⟨n2+15,rfl,Z,J⟩⟩
    ·exact((((((AV.le Z).set Z rfl).set Z rfl).set Z rfl).set Z rfl).set Z rfl).set Z rfl
   ·rintro m' ⟨env,M',nx'⟩ ⟨i,vv,l,hi,ir,e0,e1,e2,e3,e8,pu,gW,pE,hv,⟨w0,c0,hz⟩,ha,jY,hn,VF,Gn⟩
    simp only at e0 e1 e2 e3 e8 pu gW pE hv hz ha jY hn;have aM:aq nx M M':=a2.trans (ha.le Z);have GB:=(aM m vY.2).trans bA;have hR:=hrr.agr aM;obtain⟨row,a9,gS⟩:=hR;have ay:=fun N=>a9.len (P:=am) (t:=35) jW.2.2.2.2.2 N
    by_cases aL:(i:Int)<L.length
    ·have aP:i<L.length:=Z
     have bV:=eF i;obtain⟨r,hr⟩:∃r,L[i]?=some r:=⟨L[i],by simp[aP]⟩;obtain⟨q,o,Oc,bC,aU⟩:=a9.elem (P:=am) aP (t:=35) (t':=116) jW.2.2.2.1 nO.1;have aU:=aU M' (aq.refl _ _);obtain⟨pk,pa,pb,pv,ve,dI,⟨p1,p2⟩,⟨q1,q2⟩⟩:=(gS i r hr).cells;rw[dI]at aU;have kA:∀q,nx'<=q->aE q [.int .i64 r.kind,.int .u64 r.t,.int .u64 r.x,.int .u64 r.w,.int .u64 r.n,.int .u64 r.v,.int .i64 pk,.int .u64 pa,.int .u64 pb,pv,ve]=true:=fun q hq=>by
      rw[<-dI];exact mU fun y hy=>aO.le hq (a9.kltRow jY y (mem_of_mem_drop (mem_of_mem_take hy)))
     have hC:∀(N:Hp) (n1:Nat),Cl n1 N->aq nx M N->nx<=n1->bN am ρ 76 [vr,.int .u64 r.t,.int .u64 x] N n1 ⟨.int .u64 (dq L r.t x),List.range n1,[]⟩ n1:=fun N n1 h1 h2 h3 =>
      bN.read h1 (by simp only[aE];rw[US _ h3];rfl) rfl fun N' hN=>f76 ρ (hrr.agr (h2.trans (hN.le h3))) Z Z r.t x
     by_cases k6:r.kind=6
     ·have k3:¬ (6:Int)=3:=Z
      have k4:¬ (6:Int)=4:=Z;refine ii az e0 e1 e2 e3 e8 pu gW pE GB Be.1 (aI Be.2 (aI ay (aI aL (aI bC (aI aU (aI p1 (aI p2 (aI q1 (aI q2 (aI k6 (aI k3 k4))))))))))) ?_;generalize hMa:ci (ci M' _ _) _ _=Ma;have aa:aq nx' M' Ma:=by rw[<-hMa];exact O
      have z17:gG Ma (nx'+14)=some (.row [.int .i64 6,.int .u64 r.t,.int .u64 r.x,.int .u64 r.w,.int .u64 r.n,.int .u64 r.v,.int .i64 pk,.int .u64 pa,.int .u64 pb,pv,ve]):=by rw[<-hMa];exact J
      have hcla:Cl (nx'+15) Ma:=by rw[<-hMa];exact((jY.le Z).set Z rfl).set Z (by simp only[cp];have:=kA (nx'+15) Z;rwa [k6]at this)
      clear hMa;have hrowa:=(aa m Z).trans GB;have hva:gY Ma (fun q=>n2<=q/\q<nx'/\q≠n2+18) vv 2 fA l:=hv.keep fun q hq=>⟨aa q hq.2.1,hq⟩
      have hza:=(aa (n2+18) Z).trans hz;have aMa:aq nx M Ma:=aM.trans (aa.le Z);have han:aq n2 M2 Ma:=ha.trans (aa.le Z);refine bF (by(refine bR az ?_;try exact⟨⟩)) rfl ?_;refine Ao az z17 hrowa ?_;refine aT (hC _ _ (hcla.le Z) aMa Z) af ?_;by_cases h0:(0:Int)<dq L r.t x
      ·refine ii az @aA h0 e0 e1 e2 e3 e8 pu gW pE (aI z17 (aI hrowa (aI Be.1 Be.2))) ?_
       refine aT (hC _ _ (hcla.le Z) aMa Z) af ?_;refine ii az @aA e0 e1 e2 e3 e8 pu gW pE z17 (aI hrowa (aI hza bV)) ?_;exact⟨L.length - (i+1),Z,i+1,vv,l,Z,rfl,rfl,rfl,hva.keep fun q hq=>⟨by rw[ao,if_neg (fun e=>hq.2.2 (by have e:n2+18=q:=e;omega))],hq.1,by have:=hq.2.1;omega,hq.2.2⟩,⟨_,_,rfl⟩,han.set Z _,(hcla.le Z).set Z rfl,Z,VF,Z⟩
      ·refine ii az @aA h0 e0 e1 e2 e3 e8 pu gW pE bV ?_
       exact⟨L.length - (i+1),Z,i+1,vv,l,Z,rfl,rfl,rfl,hva.keep fun q hq=>⟨rfl,hq.1,by have:=hq.2.1;omega,hq.2.2⟩,⟨_,_,hza⟩,han,hcla.le Z,Z,VF,Z⟩
     ·by_cases Vq:(r.kind=3\/r.kind=4)/\r.x=x
      ·obtain⟨sT,hxx⟩:=Vq
       obtain⟨kr,hvrE,QQ,hkrr⟩:∃kr,vr = .sl kr 11 0 L.length L.length/\kr<nx/\gG M kr=some (.row rr):=by
        obtain⟨_,_,⟨_,h0⟩ | ⟨kr,h1,h2,h3⟩⟩:=hk.r
        ·omega
        ·exact⟨kr,h1,h2.2.1,h3⟩
       have hsp:∀N,qY am N 35 vr none (some (.int .i64 ((i+1:Nat):Int))) none=some ⟨.sl kr 11 0 (i+1) L.length,[],[]⟩:=fun N=>by rw[hvrE];exact slice_pre (M:=N) Z
       have hCs:∀(N:Hp) (n1:Nat),Cl n1 N->aq nx M N->nx<=n1->bN am ρ 76 [.sl kr 11 0 (i+1) L.length,.int .u64 r.t,.int .u64 x] N n1 ⟨.int .u64 (dq (L.take (i+1)) r.t x),List.range n1,[]⟩ n1:=fun N n1 h1 h2 h3 =>
        bN.read h1 (by simp only[aE,aO];rw[show Nat.blt kr n1=true by rw[blt_eq];omega]) rfl fun N' hN=>f76 ρ ((recs_take hkrr QQ hk.r.2.1 hl (fun j y hy=>b8.pp.2 ((hk.inr j y hy).keep fun k hk=>⟨rfl,hk.2.1⟩)) (i:=i+1) Z).agr (h2.trans (hN.le h3))) Z (by rw[length_take];omega) r.t x
       have n43:¬ (4:Int)=3:=Z;rcases sT with k | k
       all_goals
        refine ii az e0 e1 e2 e3 e8 pu gW pE GB Be.1 (aI Be.2 (aI ay (aI aL (aI bC (aI aU (aI p1 (aI p2 (aI q1 (aI q2 (aI k (aI n43 (aI hxx (aI bV (aI @aar (aI @omap_n (aI @omap_s hsp)))))))))))))))) ?_;generalize hMa:ci (ci M' _ _) _ _=Ma;have aa:aq nx' M' Ma:=by rw[<-hMa];exact O
        obtain⟨kd,k6',z17⟩:∃kd:Int,¬ kd=6/\gG Ma (nx'+14)=some (.row [.int .i64 kd,.int .u64 r.t,.int .u64 x,.int .u64 r.w,.int .u64 r.n,.int .u64 r.v,.int .i64 pk,.int .u64 pa,.int .u64 pb,pv,ve]):=⟨r.kind,k6,by rw[k,<-hMa];exact J⟩;have hcla:Cl (nx'+15) Ma:=by rw[<-hMa];exact((jY.le Z).set Z rfl).set Z (by simp only[cp];have:=kA (nx'+15) Z;rwa [k,hxx]at this)
        clear hMa;have hva:gY Ma (fun q=>n2<=q/\q<nx'/\q≠n2+18) vv 2 fA l:=hv.keep fun q hq=>⟨aa q hq.2.1,hq⟩
        have hza:=(aa (n2+18) Z).trans hz;have aMa:aq nx M Ma:=aM.trans (aa.le Z);have han:aq n2 M2 Ma:=ha.trans (aa.le Z);have hrowa:=(aa m Z).trans GB;refine aT (hCs _ _ (hcla.le Z) aMa Z) af ?_;have aQ:∀(l:List Oper) (rd:List Nat) (i j K:Nat),(∀y ∈ rd,y≠K)->zd l (i,[],[K]) (j,rd,[]):=fun l rd i j K h=>bn _ _ _ _ _ _ (fun q hq hh=>h q hh (mem_singleton.1 hq)) (fun q hq=>ae) (fun q hq=>by cases hq)
        refine ii az @aA k6' e0 e1 e2 e3 e8 pu gW pE (aI z17 (aI hrowa bV)) ?_;refine⟨⟨aQ _ _ _ _ _ (fun y hy=>by have:=mem_range.1 hy;omega),aQ _ _ _ _ _ (fun y hy=>by have:=mem_singleton.1 hy;omega),aQ _ _ _ _ _ (fun y hy=>by have:=mem_singleton.1 hy;omega),aQ _ _ _ _ _ (fun y hy=>by have:=mem_singleton.1 hy;omega)⟩,?_⟩;have sW:∀K y z,nx'<=K->gY (ci (ci Ma K y) K z) (fun q=>n2<=q/\q<nx'/\q≠n2+18) vv 2 fA l:=fun K y z hK=>hva.keep fun q hq=>⟨(by have:=hq.2.1;exact J),hq⟩
        have dX:=fun K y z hK=>(sW K y z hK).push (hi:=nx') (fun q hq=>hq.2.1) (r.t,dq (L.take (i+1)) r.t x) am 55 16 [.int .u64 0,.int .u64 0] Z Z rfl (by simp only[fE];omega) rfl
        simp only[fA]at dX;have dz:∀(K B key q:Nat) (y z o:bx) (row:List XV),nx'+15<=K->nx'+15<=B->nx'+15<=key->q<nx'+15->(q<n2\/q=n2+18\/nx'<=q)->gG (aY (ci (ci (ci Ma K y) K z) B o) (nA vv key row)) q=gG Ma q:=fun K B key q y z o row h1 h2 h3 h4 h5=>(dG.push_oldP hva _ (by intro h;omega) Z).trans J
        have hz17:=fun K B key y z o row h1 h2 h3=>(dz K B key (nx'+14) y z o row h1 h2 h3 Z Z).trans z17
        refine ii az k6' e0 e1 e2 e3 e8 pu gW pE hz17 dX ?_;refine cA ?_ af ?_
        ·refine mI az k6' ?_;try exact⟨⟩
        refine dw az k6' e0 e1 e2 e3 e8 pu gW pE bV ?_;exact⟨L.length - (i+1),Z,i+1,_,l++[(r.t,(dq (L.take (i+1)) r.t x:Int))],Z,rfl,rfl,rfl,hva.pushed (r.t,(dq (L.take (i+1)) r.t x:Int)) (show n2<=_/\_/\_ from ⟨Z,Z,Z⟩) rfl Z,⟨_,_,(dz _ _ _ (n2+18) _ _ _ _ Z Z Z Z Z).trans hza⟩,fun q hq=>(dz _ _ _ q _ _ _ _ Z Z Z Z Z).trans (han q hq),Cl.ap hva ((((hcla.le Z).set Z rfl).set Z rfl).set Z rfl) Z (vps_klt _ _ _ _),Z,by rw[length_append];simp,by rw[length_append];simp;omega⟩
      ·have sy:((r.kind=3\/r.kind=4)/\r.x=x)=False:=by simpa using Vq
       by_cases k3:r.kind=3
       ·have VK:¬ r.x=x:=fun e=>Vq ⟨.inl k3,e⟩
        have n36:¬ (3:Int)=6:=Z;refine ii az e0 e1 e2 e3 e8 pu gW pE GB Be.1 (aI Be.2 (aI ay (aI aL (aI bC (aI aU (aI p1 (aI p2 (aI q1 (aI q2 (aI k3 (aI n36 (aI VK bV)))))))))))) ?_;refine cA ?_ af ?_
        ·refine Ao az k3 n36 ?_;try exact⟨⟩
        refine dp az e0 e1 e2 e3 e8 pu gW pE bV ?_;exact⟨L.length - (i+1),Z,i+1,vv,l,Z,rfl,rfl,rfl,hv.keep fun q hq=>⟨(by have:=hq.2.1;exact J),hq.1,by have:=hq.2.1;omega,hq.2.2⟩,⟨_,_,hz⟩,(by(repeat (refine aq.set ?_ Z _));exact ha),((jY.le Z).set Z rfl).set Z (by simp only[cp];have:=kA (nx'+35) Z;rwa [k3]at this),Z,VF,Z⟩
       ·by_cases k4:r.kind=4
        ·have VK:¬ r.x=x:=fun e=>Vq ⟨.inr k4,e⟩
         have n43:¬ (4:Int)=3:=Z;have n46:¬ (4:Int)=6:=Z;refine ii az e0 e1 e2 e3 e8 pu gW pE GB Be.1 (aI Be.2 (aI ay (aI aL (aI bC (aI aU (aI p1 (aI p2 (aI q1 (aI q2 (aI k4 (aI n43 (aI n46 (aI VK bV))))))))))))) ?_;refine cA ?_ af ?_
         ·refine Ao az k4 n46 ?_;try exact⟨⟩
         refine dp az e0 e1 e2 e3 e8 pu gW pE bV ?_;exact⟨L.length - (i+1),Z,i+1,vv,l,Z,rfl,rfl,rfl,hv.keep fun q hq=>⟨(by have:=hq.2.1;exact J),hq.1,by have:=hq.2.1;omega,hq.2.2⟩,⟨_,_,hz⟩,(by(repeat (refine aq.set ?_ Z _));exact ha),((jY.le Z).set Z rfl).set Z (by simp only[cp];have:=kA (nx'+38) Z;rwa [k4]at this),Z,VF,Z⟩
        ·refine ii az e0 e1 e2 e3 e8 pu gW pE GB Be.1 (aI Be.2 (aI ay (aI aL (aI bC (aI aU (aI p1 (aI p2 (aI q1 (aI q2 (aI k3 (aI k4 (aI k6 bV)))))))))))) ?_
         refine cA ?_ af ?_
         ·refine mI az k6 ?_;try exact⟨⟩
         refine dp az e0 e1 e2 e3 e8 pu gW pE bV ?_;exact⟨L.length - (i+1),Z,i+1,vv,l,Z,rfl,rfl,rfl,hv.keep fun q hq=>⟨(by have:=hq.2.1;exact J),hq.1,by have:=hq.2.1;omega,hq.2.2⟩,⟨_,_,hz⟩,(by(repeat (refine aq.set ?_ Z _));exact ha),((jY.le Z).set Z rfl).set Z (by simp only[cp];have:=kA (nx'+34) Z;exact this),Z,VF,Z⟩
    ·have z8':=(ha nx Z).trans z8
     have t4:0<=pick.tdiv 4/\pick.tdiv 4<=pick:=⟨Int.tdiv_nonneg hp.1 Z,by rw[Int.tdiv_eq_ediv_of_nonneg hp.1];omega⟩;have qz:(l.length:Int)≠0:=Z;by_cases h4:(0:Int)<pick.tmod 4
     ·refine ii az e0 e1 e2 e3 e8 pu gW pE GB Be.1 (aI Be.2 (aI ay (aI aL (aI h4 (aI z8' (aI hz @VerP.eq_1)))))) ?_
      exact⟨⟨_,_,rfl⟩,(by(repeat (refine aq.set ?_ Z _));exact aM),Z⟩
     ·have m0:=Int.tmod_nonneg (l.length:Int) t4.1
      have m1:=Int.tmod_lt_of_pos (pick.tdiv 4) (show (0:Int)<l.length by omega);obtain⟨jn,hjn⟩:∃jn:Nat,(pick.tdiv 4).tmod l.length=jn:=⟨((pick.tdiv 4).tmod l.length).toNat,Z⟩;obtain⟨e,he⟩:∃e,l[jn]?=some e:=⟨l[jn]' Z,getElem?_eq_getElem Z⟩;have fF:=hv.elem (fun _=>rfl) he (P:=am) (t:=55) Kx.2.2.2.1;have hvl:=fun N=>hv.len (P:=am) (t:=55) Kx.2.2.2.2.2 N
      have hw4:IntKind.i64.wrap (pick.tdiv 4)=pick.tdiv 4:=wrap_i64 Z Z;have hw5:IntKind.i64.wrap (jn:Int)=jn:=wrap_i64 Z Z;obtain⟨kv,hvE,vh,QQ,bC,aU,_⟩:=fF;have aU:=aU M' rfl 25 dc.1;simp only[fA]at aU;refine ii az e0 e1 e2 e3 e8 pu gW pE GB Be.1 (aI Be.2 (aI ay (aI aL (aI h4 (aI z8' (aI hvl (aI qz (aI hw4 (aI hjn (aI hw5 (aI bC (aI aU @VerP.eq_1)))))))))))) ?_;exact⟨⟨_,_,rfl⟩,(by(repeat (refine aq.set ?_ Z _));exact aM),Z⟩
end
end Go.Xs
namespace Go.Xs
open List Nat Option
variable{L:List aR}{M:Hp}{lo m nx:Nat}{rl:List XV}{vb vl vr:XV}
noncomputable section
open Go.Proofs
def StpP (nx lo m nb:Nat) (L:List aR) (M:Hp) (o:ew):Prop:=o.1 = .tup []/\nx<=o.2.2/\aq lo M o.2.1/\∃(nb':Nat) (L':List aR),nb'<=nb/\L'.length<=L.length+1/\(∀r ∈ L',r ∈ L\/gI r.p)/\∃vb vl vr rl rr,LM o.2.1 o.2.2 lo m nb' L' vb vl vr rl rr
theorem FQ {L':List aR} {r:aR} (h:L'=L\/L'=L++[r]) (hr:gI r.p):∀x ∈ L',x ∈ L\/gI x.p:=fun x hx=>by
 rcases h with rfl | rfl
 ·exact .inl hx
 ·rcases mem_append.1 hx with h | h
  ·exact .inl h
  ·rw[mem_singleton.1 h];exact .inr hr
theorem ens_klt (N:Nat) (l:List En) (e:En):aE N (l.flatMap b9++b9 e)=true:=mU fun x hx=>by
 have:(∃k:Int,x = .int .u64 k)\/∃k,x = .bool k:=by
  simp only[mem_append,mem_flatMap,b9,mem_cons,not_mem_nil,or_false]at hx;obtain⟨e,_,h | h | h | h⟩ | h | h | h | h:=hx
  all_goals first
   | exact .inl ⟨_,h⟩
   | exact .inr ⟨_,h⟩
 obtain⟨k,rfl⟩ | ⟨k,rfl⟩:=this<;>simp only[aO]
theorem LM.reb {M':Hp} {nb nb':Nat} {vb':XV} {rr:List XV} (h:LM M nx lo m nb L vb vl vr rl rr) (hh:∀k,k<nx->k≠m->gG M' k=gG M k) (hr:gG M' m=some (.row [vb',vl,vr,.bool false])) (hb:Da M' lo vb' nb') :
 LM M' nx lo m nb' L vb' vl vr rl rr :=
 ⟨hr,h.hm,hb,h.l.keep fun k hk=>⟨hh k hk.2.1 hk.2.2.1,hk⟩,h.r.keep fun k hk=>⟨hh k hk.2.1 hk.2.2.1,hk⟩,
  fun j x hx=>(h.inl j x hx).keep fun k hk=>⟨hh k hk.2.1 hk.2.2.1,hk⟩,fun j x hx=>(h.inr j x hx).keep fun k hk=>⟨hh k hk.2.1 hk.2.2.1,hk⟩⟩
theorem f85 (ρ:aK) {nb:Nat} {rr:List XV} (hk:LM M nx lo m nb L vb vl vr rl rr) (hl:L.length<=900) (t:Int):ar am ρ 85 [.mp m 0,.int .u64 t] M nx (StpP nx lo m nb L M):=by
 refine ar.closed fun Za _=>?_
 have vY:=hk.hm;have cF:=hk.l.cell;have Be:=hk.r.cell;have hvk:∀q,nx<=q->sE vl≠some q:=fun q hq hh=>by have:=(aao hk.l hh).2.1;omega
 have Gr:∀q,nx<=q->sE vr≠some q:=fun q hq hh=>by have:=(aao hk.r hh).2.1;omega
 refine ar.wk 75 [] Tryz.func85 ?_;refine bR rX ?_;refine gQ (f82 ρ (hk.keep (aq.refl _ _) Z) 36 Z).out ?_;rintro⟨u,M1,n1⟩ ⟨⟨⟨p,rfl,sV,hp1⟩,⟨vb1,Bi⟩,a1,bT⟩,sR,_⟩;simp only at Bi a1 bT sR;refine bR rX ?_;refine gQ (f110 ρ p M1 _).out ?_;rintro⟨u,M2,n2⟩ ⟨⟨⟨e,cs,rfl,he,hz,hpo,QF⟩,a2,fq⟩,AV,hkv2⟩;simp only at he a2 fq AV hkv2;obtain⟨k,pa,pb,pv,rfl,p1,p2⟩:=(bG.pp.2 (he.keep fun k hk=>⟨rfl,hk.2⟩)).cells;have vh:∀q,n2<=q->aE q [.int .i64 k,.int .u64 pa,.int .u64 pb,pv]=true:=fun q hq=>by
  simp only[aO]at hkv2;exact mU fun y hy=>aO.le hq (cq hkv2 hy)
 have hkpv:∀q,n2<=q->aO q pv=true:=fun q hq=>cq (vh q hq) ae
 refine Ao rX p1 p2 ?_;refine aC (fun m' s=>∃(i nb':Nat) (vb ve:XV) (es:List En),i<=4/\m'=4 - i/\gG s.env 0=some (.mp m 0)/\gG s.env 1=some (.int .u64 t)/\gG s.env 4=some (.mp (n2+1) 0)/\gG s.env 5=some (.int .u64 i) /\
  LM s.M nx lo m nb' L vb vl vr rl rr/\nb'<=nb/\gG s.M (n2+1)=some (.row [.int .i64 5,.int .u64 t,.int .u64 0,.int .u64 0,.int .u64 0,.int .u64 0,.int .i64 k,.int .u64 pa,.int .u64 pb,pv,ve]) /\
  gY s.M (fun q=>n2<=q/\q<s.nx/\q≠n2+1) ve 4 b9 es/\es.length<=i/\dm s.M (fun q=>n1<=q/\q<n2) e [.int .i64 k,.int .u64 pa,.int .u64 pb,pv]/\(∀q,q<nx->q≠m->gG s.M q=gG M q)/\n2+4<=s.nx/\Cl s.nx s.M) 4 ⟨0,nb - 1,vb1,.nils,[],Z,Z,?_⟩ ?_
 ·refine bR rX ?_
  have aa:∀y z,aq n2 M2 (ci (ci M2 (n2+1) y) (n2+1) z):=fun y z=>O
  exact⟨(hk.reb (fun q h1 h2=>a1 q Z h2) Bi.row Bi.by').keep ((a2.le Z).trans ((aa _ _).le Z)) (Nat.le_refl _),Z,⟨ae,rfl,.inl ⟨rfl,rfl⟩⟩,Nat.le_refl _,he.keep fun q hq=>⟨aa _ _ q hq.2,Z,hq.2⟩,fun q hq cf=>(by
   have h:=(a2 q Z).trans (a1 q Z cf)
   repeat rw[if_neg (show ¬ aw _ _ from fun e=>by simp only[aw]at e;omega)]
   exact h),Z,((AV.le Z).set Z rfl).set Z (by simp only[cp,aE,aO];rw[hkpv _ Z])⟩
 ·rintro m' ⟨env,M',nx'⟩ ⟨i,nb',vb',ve,es,hi,ir,e0,e1,e4,e5,hK,jw,zP,hv,dZ,hE,ha,hn,hclM⟩
  simp only at e0 e1 e4 e5 hK zP hv hE ha hn hclM;by_cases aL:(i:Int)<4
  ·have aP:i<4:=Z
   have bV:IntKind.u64.wrap ((i:Int)+1)=((i+1:Nat):Int):=by rw[wrap_u64 Z Z];omega
   refine iC rX e0 e1 e4 e5 aL ?_;refine gQ (f82 ρ (hK.keep (aq.refl _ _) Z) 32 Z).out ?_;rintro⟨u,M3,n3⟩ ⟨⟨⟨y,rfl,hy0,hy1⟩,⟨vb3,RP⟩,a3,ZS⟩,yG,_⟩;simp only at RP a3 ZS yG;have RP:=hK.reb (fun q h1 h2=>a3 q Z h2) RP.row RP.by'
   have JE:=RP.hm;refine mY rX e0 e1 e4 e5 ?_;refine gQ (f84 ρ (RP.keep (aq.refl _ _) Z) Z t i (y.tmod 16) ⟨Int.tmod_nonneg _ hy0,by have:=Int.tmod_lt_of_pos y (show (0:Int)<16 by omega);omega⟩).out ?_;rintro⟨u,M4,n4⟩ ⟨⟨⟨w,c,rfl⟩,a4,QX⟩,hcl4,_⟩;simp only at a4 QX hcl4;refine mY rX e0 e1 e4 e5 ?_;generalize mR:ci (ci M4 n4 _) n4 _=M5;have a5:aq n4 M4 M5:=by rw[<-mR];exact O
   have z7:gG M5 n4=some (.row [.int .u64 w,.int .u64 c]):=by rw[<-mR];exact J
   have hcl5:Cl (n4+1) M5:=by rw[<-mR];exact((hcl4.le Z).set Z rfl).set Z rfl
   clear mR;have hk4:LM M5 n4 lo m (nb' - 1) L vb3 vl vr rl rr:=RP.keep ((a4.le Z).trans (a5.le Z)) Z;have hrow5:=(RP.keep (M':=M4) (a4.le Z) (Nat.le_refl _)).row;refine iQ rX e0 e1 e4 e5 hrow5 Be.1 Be.2 ?_;refine gQ (f109 ρ hk4.recsR Z Z t i).out ?_;obtain⟨la,lb,kk,ZE⟩:∃la lb kk,(if dq L t i=0 then (.tup [.agg [.int .u64 0,.int .u64 0],.bool false]:XV) else .tup [.agg [.int .u64 t,.int .u64 (dq L t i)],.bool true]) = .tup [.agg [.int .u64 la,.int .u64 lb],.bool kk]:=by
    split<;>exact⟨_,_,_,rfl⟩
   rintro⟨u,M6,n6⟩ ⟨⟨g1,g2,g3⟩,hcl6,_⟩;simp only at g1 g2 g3 hcl6;rw[ZE]at g1;subst g1;have z7:=(g2 n4 Z).trans z7;have Nr:LM M6 n6 lo m (nb' - 1) L vb3 vl vr rl rr:=hk4.keep (g2.le Z) Z;have Ta:=Nr.row;have hk6n:LM M6 nx lo m (nb' - 1) L vb3 vl vr rl rr:=RP.keep ((a4.le Z).trans ((a5.le Z).trans (g2.le Z))) (Nat.le_refl _);have Vk:aq n3 M3 M6:=(a4.le Z).trans ((a5.le Z).trans (g2.le Z));have h36:∀q,q<nx'->q≠m->gG M6 q=gG M' q:=fun q hq cf=>(Vk q Z).trans (a3 q Z cf)
   have zP6:=(h36 (n2+1) Z Z).trans zP;have hv6:gY M6 (fun q=>n2<=q/\q<nx'/\q≠n2+1) ve 4 b9 es:=hv.keep fun q hq=>⟨h36 q hq.2.1 (by have:=hq.1;omega),hq⟩
   have hE6:dm M6 (fun q=>n1<=q/\q<n2) e [.int .i64 k,.int .u64 pa,.int .u64 pb,pv]:=hE.keep fun q hq=>⟨h36 q (by have:=hq.2;omega) (by have:=hq.1;omega),hq⟩
   have ha6:∀q,q<nx->q≠m->gG M6 q=gG M q:=fun q hq cf=>(h36 q Z cf).trans (ha q hq cf)
   clear a1 a2 a3 a4 a5 g2 RP hk4 hrow5 h36 Vk;have hww:(kk=false/\(8:Int)<=y/\(w=0/\c=0))\/(kk=false/\¬ (8:Int)<=y)\/kk=true\/(kk=false/\(8:Int)<=y/\¬ (w=0/\c=0)):=by
    cases kk<;>simp
    omega
   rcases hww with ⟨rfl,h8,rfl,rfl⟩ | ⟨rfl,h8⟩ | rfl | ⟨rfl,h8,hwc⟩
   ·refine dp rX e0 e1 e4 e5 Ta Be.1 Be.2 h8 z7 ?_
    refine gQ (Ry ρ _ _ 0 0).out ?_;rintro⟨u,M7,n7⟩ ⟨⟨g1,g2,g3⟩,SR,_⟩;simp only at g1 g2 g3 SR;subst g1;have a7:aq n6 M6 M7:=(show aq n6 M6 _ from O).trans (g2.le Z);refine iC rX e0 e1 e4 e5 bV ?_;exact⟨4 - (i+1),Z,i+1,nb' - 1,vb3,ve,es,Z,rfl,rfl,hk6n.keep (a7.le Z) (Nat.le_refl _),Z,(a7 _ Z).trans zP6,hv6.keep fun q hq=>⟨a7 q (by have:=hq.2.1;omega),hq.1,by have:=hq.2.1;omega,hq.2.2⟩,Z,hE6.keep fun q hq=>⟨a7 q (by have:=hq.2;omega),hq⟩,fun q hq cf=>(a7 q Z).trans (ha6 q hq cf),Z,SR.le Z⟩
   ·refine dw rX e0 e1 e4 e5 Ta Be.1 Be.2 h8 z7 bV ?_
    have a7:∀y z,aq n6 M6 (ci (ci M6 (n6+3) y) (n6+3) z):=fun y z=>O
    exact⟨4 - (i+1),Z,i+1,nb' - 1,vb3,ve,es,Z,rfl,rfl,hk6n.keep ((a7 _ _).le Z) (Nat.le_refl _),Z,zP6,hv6.keep fun q hq=>⟨a7 _ _ q (by have:=hq.2.1;omega),hq.1,by have:=hq.2.1;omega,hq.2.2⟩,Z,hE6.keep fun q hq=>⟨a7 _ _ q (by have:=hq.2;omega),hq⟩,fun q hq cf=>(by
     have h:=ha6 q hq cf
     repeat rw[if_neg (show ¬ aw _ _ from fun e=>by simp only[aw]at e;omega)]
     exact h),Z,((hcl6.le Z).set Z rfl).set Z rfl⟩
   focus
    have Zf:=hv.cell;refine ii rX e0 e1 e4 e5 Ta Be.1 Be.2 z7 zP6 p1 (aI p2 (aI Zf.1 Zf.2)) ?_;generalize hM7:ci (ci M6 _ _) _ _=M7;have a7:aq n6 M6 M7:=by rw[<-hM7];exact O
    have SR:Cl (n6+19) M7:=by rw[<-hM7];exact((hcl6.le Z).set Z rfl).set Z rfl
    have hrow7:=(a7 m Z).trans Ta;have z77:=(a7 n4 Z).trans z7;have zP7:=(a7 (n2+1) Z).trans zP6;clear hM7;generalize hB:n6+19=B at SR ⊢;have hBn:n6+4<=B:=Z
   rotate_left
   focus
    have Zf:=hv.cell;have Rb:(decide (w=0)&&decide (c=0))=false:=by simpa using hwc
    refine dp rX e0 e1 e4 e5 Ta Be.1 Be.2 h8 z7 ?_;refine gQ (Ry ρ _ _ w c).out ?_;rintro⟨u,M7,n7⟩ ⟨⟨g1,g2,g3⟩,SR,_⟩;simp only at g1 g2 g3 SR;rw[Rb]at g1;subst g1;have a7:aq n6 M6 M7:=(show aq n6 M6 _ from O).trans (g2.le Z);have hrow7:=(a7 m Z).trans Ta;have z77:=(a7 n4 Z).trans z7;have zP7:=(a7 (n2+1) Z).trans zP6;refine ii rX e0 e1 e4 e5 hrow7 Be.1 Be.2 z77 zP7 p1 (aI p2 (aI Zf.1 Zf.2)) ?_;have SR:Cl (n7+13) M7:=SR.le Z;have hBn:n6+4<=n7+13:=Z;generalize hB:n7+13=B at SR hBn ⊢
   all_goals
    have ZZ:∀N,aq B M7 N->bG N n2 e [.int .i64 k,.int .u64 pa,.int .u64 pb,pv]:=fun N hN=>(bG.pp.2 (hE6.keep fun q hq=>⟨rfl,hq.2⟩)).agr ((a7.le Z).trans (hN.le Z))
    obtain⟨v1,N,bD,hC,⟨TR,qx,sP⟩,Mj,jT,lH,mN⟩:=bN.made' (P:=am) (ρ:=ρ) (g:=71) (args:=[.agg [.int .i64 k,.int .u64 pa,.int .u64 pb,pv]]) (M:=M7) (nx:=B) (Q:=kO B e) SR
     (by simp only[aE,aO];rw[hkpv B Z]) (fun N hN=>f71 _ { ρ with det:=true } e N B n2 _ (lt_succ_self _) (ZZ N hN) Z Z)
     (fun N _ hN=>kO.ex Z hN)
    simp only at qx sP;subst qx;obtain⟨k1,x1,y1,w1,rfl,qC⟩:=sP.shape;have dz:aq B M7 (aY M7 (dH N B bD)):=fun q hq=>by rw[bW,if_neg Z]
    have mO:∀q,q<bD->gG (aY M7 (dH N B bD)) q=gG N q:=fun q hq=>by
     by_cases h:B<=q
     ·rw[bW,if_pos ⟨h,hq⟩]
     ·rw[dz q Z,Mj q Z]
    have iO:=eI N B bD;have uR:Cl bD (aY M7 (dH N B bD)):=fun q o ho=>by
     by_cases h:q<bD
     ·rw[mO q h]at ho
      exact lH q o ho
     ·rw[bW,if_neg Z]at ho
      exact SR.le Z q o ho
    refine aT hC af ?_;have zm:=(dz m Z).trans hrow7;have z8:=(dz n4 Z).trans z77;have zP8:=(dz (n2+1) Z).trans zP7;refine dp rX e0 e1 e4 e5 zm z8 zP8 qC.1 qC.2 ?_;refine aT (bN.pure (v:=.agg [.int .u64 w,.int .u64 c]) rfl rfl fun N'=>JR ρ w c N' _) af ?_;refine dp rX e0 e1 e4 e5 zm z8 zP8 qC.1 qC.2 ?_;have hk8:cP (aY M7 (dH N B bD)) bD vr L:=(Nr.keep (a7.trans (dz.le Z)) Z).recsR;have hE8:bG (aY M7 (dH N B bD)) bD e [.int .i64 k1,.int .u64 x1,.int .u64 y1,w1]:=(sP.keep (q:=fun q=>B<=q/\q<bD) fun q hq=>⟨mO q hq.2,hq⟩).at fun q hq=>hq.2
    have hkw:aE bD [.int .i64 k1,.int .u64 x1,.int .u64 y1,w1]=true:=by simpa only [aO] using mN
    have hkvr:∀q,n6<=q->aO q vr=true:=fun q hq=>by
     have:=(hcl6 m _ Ta).2;simp only[cp]at this;exact aO.le hq (cq this ae)
    obtain⟨kb,hC2⟩:=bN.anyB (P:=am) (ρ:=ρ) (g:=111) (args:=[vr,.agg [.int .i64 k1,.int .u64 x1,.int .u64 y1,w1],.int .u64 i,.agg [.int .u64 w,.int .u64 c]]) (M:=aY M7 (dH N B bD)) (nx:=bD+2) (uR.le Z) (mU fun y hy=>by
     simp only[mem_cons,not_mem_nil,or_false]at hy;rcases hy with rfl | rfl | rfl | rfl
     ·exact hkvr _ Z
     ·simp only[aO];exact aE.le Z hkw
     ·rfl
     ·rfl) fun N' hN=>f111 _ (hk8.agr (hN.le Z)) (hE8.agr (hN.le Z)) Z Z hz i w c
    refine aT hC2 af ?_;have hv8:gY (aY M7 (dH N B bD)) (fun q=>n2<=q/\q<nx'/\q≠n2+1) ve 4 b9 es:=hv6.keep fun q hq=>⟨(dz q (by have:=hq.2.1;omega)).trans (a7 q (by have:=hq.2.1;omega)),hq⟩
    have dX:=hv8.push (hi:=nx') (fun q hq=>hq.2.1) (⟨i,w,c,kb⟩:En) am 41 32 [.int .u64 0,.int .u64 0,.int .u64 0,.bool false] Z Z rfl (by simp only[fE];omega) rfl;simp only[b9]at dX;have hold8:∀(B' key q:Nat) (o:bx) (row:List XV),bD<=B'->bD<=key->q<bD->(q<n2\/q=n2+1\/nx'<=q)->gG (aY (ci (aY M7 (dH N B bD)) B' o) (nA ve key row)) q=gG (aY M7 (dH N B bD)) q:=fun B' key q o row h1 h2 h3 h4=>(dG.push_oldP hv8 _ (by intro h;omega) Z).trans J
    have hzP:=fun B' key o row h1 h2=>(hold8 B' key (n2+1) o row h1 h2 Z Z).trans zP8
    refine ii rX e0 e1 e4 e5 zm z8 zP8 qC.1 qC.2 dX (aI @aA (aI @Fo (aI bV hzP))) ?_;refine⟨?_,4 - (i+1),Z,i+1,nb' - 1,vb3,.sl (bD+4) 4 0 (es.length+1) (es.length+1),es++[⟨i,w,c,kb⟩],Z,rfl,rfl,?_⟩
    ·repeat' apply an
     ·exact bn _ _ _ _ _ _ (fun q hq=>by simp only[mem_singleton]at hq ⊢;omega) (fun q hq=>ae) (fun q hq=>by cases hq)
     ·exact bn _ _ _ _ _ _ (fun q hq=>by cases hq) (fun q hq=>by cases hq) (fun q hq=>by have:=iO q hq;simp only[mem_singleton];omega)
     all_goals exact bn _ _ _ _ _ _ (fun q hq=>by have:=iO q hq;simp only[mem_singleton];omega) (fun q hq=>ae) (fun q hq=>by cases hq)
    have h9:∀(o o':bx) (row:List XV) (q:Nat),q<bD->q≠n2+1->(q<n2\/nx'<=q)->gG (ci (aY (ci (aY M7 (dH N B bD)) (bD+3) o) (nA ve (bD+4) row)) (n2+1) o') q=gG (aY M7 (dH N B bD)) q:=fun o o' row q h1 h2 h3=>by
     rw[ao,if_neg (fun e=>h2 (by have e:n2+1=q:=e;omega))];exact hold8 _ _ _ _ _ Z Z h1 Z
    have h96:∀(o o':bx) (row:List XV) (q:Nat),q<n2->gG (ci (aY (ci (aY M7 (dH N B bD)) (bD+3) o) (nA ve (bD+4) row)) (n2+1) o') q=gG M6 q:=fun o o' row q h1=>(h9 o o' row q Z Z Z).trans ((dz q Z).trans (a7 q Z))
    exact⟨hk6n.keep (fun q hq=>h96 _ _ _ q Z) (Nat.le_refl _),Z,rfl,
     (hv8.pushed (p':=fun q=>q=bD+4) (H:=ci (aY M7 (dH N B bD)) (bD+3) (.row [.int .u64 i,.int .u64 w,.int .u64 c,.bool kb])) (⟨i,w,c,kb⟩:En) rfl rfl Z).keep fun q hq=>(by
       have hq:q=bD+4:=hq;refine⟨?_,Z,Z,Z⟩;rw[ao,if_neg (fun e=>by have e:n2+1=q:=e;omega)]
       first | done | rfl),
     by simp only[length_append,length_cons,length_nil];omega,hE6.keep fun q hq=>⟨h96 _ _ _ q hq.2,hq⟩,
     fun q hq cf=>(by
      rw[if_neg (show ¬ aw _ _ from fun e=>by simp only[aw]at e;omega)];exact(hold8 _ _ _ _ _ Z Z Z Z).trans ((dz q Z).trans ((a7 q Z).trans (ha6 q hq cf)))),Z,
     (Cl.ap hv8 ((uR.le Z).set Z rfl) Z (ens_klt _ es ⟨i,w,c,kb⟩)).set Z (by simp only[cp,aE,aO];rw[hkpv _ Z,show Nat.blt (bD+4) (bD+10)=true by rw[blt_eq];omega])⟩
  ·have Zf:=hv.cell
   refine dw rX e0 e1 e4 e5 aL zP p1 p2 Zf.1 Zf.2 ?_;have hkO:∀b q,nx'<=b->n1<=q/\q<nx'->MkO lo b m vl vr q:=fun b q hb hq=>⟨Z,Z,Z,hvk q Z,Gr q Z⟩
   refine gQ (TU ρ (r:=⟨5,t,0,0,0,0,e,es⟩) (hK.keep (aq.refl _ _) Z) ⟨[.int .i64 k,.int .u64 pa,.int .u64 pb,pv],ve,rfl,hE.keep fun q hq=>⟨rfl,hkO _ q Z ⟨Z,Z⟩⟩,(dG.pp hv).keep fun q hq=>⟨rfl,hkO _ q Z ⟨by have:=hq.1;omega,hq.2.1⟩⟩⟩ Z ak ak hz) ?_;rintro⟨u,M6,n6⟩ ⟨rfl,g2,g3,L',hL',vl',vr',rl',rr',Nr⟩;simp only at g2 g3 Nr;refine mI rX @StpP.eq_1 ?_;exact⟨Z,fun q hq=>(g3 q hq).trans (ha q Z Z),nb',L',jw,by rcases hL' with rfl | rfl<;>simp,FQ hL' hpo,_,_,_,_,_,Nr⟩
end
end Go.Xs
namespace Go.Xs
open List Nat Option
noncomputable section
open Go.Proofs
theorem f86 (ρ:aK) {M:Hp} {nx lo m nb:Nat} {L:List aR} {vb vl vr:XV} {rl rr:List XV} (hk:LM M nx lo m nb L vb vl vr rl rr) (hl:L.length<=900) (t:Int):ar am ρ 86 [.mp m 0,.int .u64 t] M nx (StpP nx lo m nb L M):=by
 have vY:=hk.hm;have bA:=hk.row;have cF:=hk.l.cell;have Be:=hk.r.cell;have hrr:=hk.recsR;refine ar.wk 70 [] Tryz.func86 ?_;refine ti cS bA Be.1 Be.2 ?_;generalize xu:ci (ci M _ _) _ _=M1;have a1:aq nx M M1:=by rw[<-xu];exact O
 have z4:gG M1 (nx+2)=some (.row [.int .i64 6,.int .u64 t,.int .u64 0,.int .u64 0,.int .u64 0,.int .u64 0,.int .i64 0,.int .u64 0,.int .u64 0,.nils,.nils]):=by rw[<-xu];exact J
 clear xu;refine gQ (f75 ρ (hrr.agr a1) Z Z t) ?_;rintro⟨u,M2,n2⟩ ⟨g1,g2,g3⟩;simp only at g1 g2 g3;subst g1;have a2:aq nx M M2:=a1.trans (g2.le Z);have z4:=(g2 (nx+2) Z).trans z4;generalize (pR L t).1=tx;generalize (pR L t).2=tk;simp only[d_];refine bR cS ?_;refine aC (fun m' s=>m'=0/\gG s.env 0=some (.mp m 0)/\gG s.env 1=some (.int .u64 t)/\gG s.env 4=some (.mp (nx+2) 0)/\gG s.env 7=some (.int .u64 0) /\
  gG s.M (nx+2)=some (.row [.int .i64 6,.int .u64 t,.int .u64 0,.int .u64 0,.int .u64 0,.int .u64 0,.int .i64 0,.int .u64 0,.int .u64 0,.nils,.nils])/\aq nx M s.M/\n2+4<=s.nx) 0 ⟨rfl,?_⟩ ?_
 ·refine mI cS z4 ?_
  exact⟨(by(repeat (refine aq.set ?_ Z _));exact a2),Z⟩
 ·rintro m' ⟨env,M',nx'⟩ ⟨ir,e0,e1,e4,e7,zP,ha,hn⟩
  simp only at e0 e1 e4 e7 zP ha hn;have GB:=(ha m Z).trans bA;refine dw cS e0 e1 e4 e7 zP GB cF.1 cF.2 Be.1 Be.2 ?_;refine gQ (TU ρ (r:=⟨6,t,0,0,0,0,.mk 0 0 0 [],[]⟩) (hk.keep ha Z) ⟨[.int .i64 0,.int .u64 0,.int .u64 0,.nils],.nils,rfl,qi _ _ _ _ _,⟨ae,.inl ⟨rfl,rfl,rfl⟩⟩⟩ Z ae (by simp[dV,jb]) (by simp[TN,Ir])) ?_;rintro⟨u,M6,n6⟩ ⟨rfl,g2,g3,L',hL',vl',vr',rl',rr',Nr⟩;simp only at g2 g3 Nr;refine mI cS @StpP.eq_1 ?_;exact⟨Z,fun q hq=>(g3 q hq).trans (ha q Z),nb,L',Nat.le_refl _,by rcases hL' with rfl | rfl<;>simp,FQ hL' (by simp[gI,o_]),_,_,_,_,_,Nr⟩
end
end Go.Xs
namespace Go.Xs
open List Nat Option
noncomputable section
open Go.Proofs
def Rk (nx lo m nb:Nat) (L:List aR) (M:Hp) (o:ew):Prop:=o.1 = .tup []/\nx<=o.2.2/\aq lo M o.2.1/\∃(nb':Nat) (L':List aR),nb'<=nb - 1/\L'.length<=L.length+2/\(∀r ∈ L',r ∈ L\/gI r.p)/\Mk o.2.1 o.2.2 lo m nb' L'
theorem f59 (ρ:aK) {M:Hp} {nx lo m nb:Nat} {L:List aR} {vb vl vr:XV} {rl rr:List XV} (hk:LM M nx lo m nb L vb vl vr rl rr) (hl:L.length<=800) (kb:Bool):ar am ρ 59 [.mp m 0,.bool kb] M nx (Rk nx lo m nb L M):=by
 have vY:=hk.hm;refine ar.wk 84 [] Tryz.func59 ?_;refine bR oU ?_;refine gQ (f82 ρ (hk.keep (aq.refl _ _) Z) 6 Z) ?_;rintro⟨u,M1,n1⟩ ⟨⟨x1,rfl,Q9,VV⟩,⟨vb1,Bi⟩,a1,bT⟩;simp only at Bi a1 bT;refine bR oU ?_;refine gQ (f82 ρ (Bi.keep (aq.refl _ _) Z) 4 Z) ?_;rintro⟨u,M2,n2⟩ ⟨⟨x2,rfl,hx2,hx3⟩,⟨vb2,ZA⟩,a2,fq⟩;simp only at ZA a2 fq;refine bR oU ?_;refine gQ (f82 ρ (ZA.keep (aq.refl _ _) Z) 9 Z) ?_;rintro⟨u,M3,n3⟩ ⟨⟨x3,rfl,hx4,hx5⟩,⟨vb3,RP⟩,a3,ZS⟩;simp only at RP a3 ZS;have a03:aq lo M M3:=fun q hq=>(a3 q Z Z).trans ((a2 q Z Z).trans (a1 q Z Z))
 by_cases h3:x3=0
 focus
  refine mI oU h3 ?_;generalize hA:IntKind.u64.wrap (IntKind.i64.wrap (1+x1))=a;generalize hB:n3+5=B;obtain⟨v5,h5⟩:∃v5:Int,v5=0:=⟨_,rfl⟩;generalize hE:ci _ _ _=E;have t5:gG E 5=some (.int .u64 v5):=by rw[<-hE,h5];exact J
 rotate_left
 focus
  refine mI oU h3 ?_;generalize hA:IntKind.u64.wrap (IntKind.i64.wrap (1+x1))=a;generalize hB:n3+4=B;obtain⟨v5,h5⟩:∃v5:Int,v5=IntKind.u64.wrap x2:=⟨_,rfl⟩;generalize hE:ci _ _ _=E;have t5:gG E 5=some (.int .u64 v5):=by rw[<-hE,h5];exact J
 all_goals
  have t0:gG E 0=some (.mp m 0):=by rw[<-hE];exact J
  have t1:gG E 1=some (.bool kb):=by rw[<-hE];exact J
  have t4:gG E 4=some (.int .u64 a):=by rw[<-hE];exact J
  clear hE;refine gQ (TU ρ (r:=⟨1,a,0,0,0,0,.mk 0 0 0 [],[]⟩) (RP.keep (aq.refl _ _) Z) ⟨[.int .i64 0,.int .u64 0,.int .u64 0,.nils],.nils,rfl,qi _ _ _ _ _,⟨ae,.inl ⟨rfl,rfl,rfl⟩⟩⟩ Z ae (by simp[dV,jb]) (by simp[TN,Ir])) ?_;rintro⟨u,M4,n4⟩ ⟨rfl,g2,g3,L1,T1,vl1,vr1,ls1,rs1,hk4⟩;simp only at g2 g3 hk4;have hp1:=FQ T1 (by simp[gI,o_]);have T1:L1.length<=L.length+1:=by rcases T1 with rfl | rfl<;>simp
  have a04:aq lo M M4:=fun q hq=>(g3 q hq).trans (a03 q hq)
  clear a1 a2 a3 g3 Bi ZA RP hk a03;refine mY oU t0 t1 t4 t5 ?_;refine gQ (f82 ρ (hk4.keep (aq.refl _ _) Z) 10 Z) ?_;rintro⟨u,M5,n5⟩ ⟨⟨x4,rfl,x4p,x4q⟩,⟨vb5,hk5⟩,a5,a5n⟩;simp only at hk5 a5 a5n;have a05:aq lo M M5:=fun q hq=>(a5 q Z Z).trans (a04 q hq)
  by_cases hA:x4=0\/x4=1\/x4=2
  ·rcases hA with rfl | rfl | rfl
   all_goals
    refine mY oU t0 t1 t4 t5 ?_;refine gQ (f82 ρ (hk5.keep (aq.refl _ _) Z) 64 Z) ?_;rintro⟨u,M6,n6⟩ ⟨⟨x6,rfl,x6p,x6q⟩,⟨vb6,Nr⟩,a6,a6n⟩;simp only at Nr a6 a6n;have a06:aq lo M M6:=fun q hq=>(a6 q Z Z).trans (a05 q hq)
    refine mY oU t0 t1 t4 t5 ?_;refine gQ (f84 ρ (Nr.keep (aq.refl _ _) Z) Z a v5 x6 ⟨x6p,x6q⟩) ?_;rintro⟨u,M7,n7⟩ ⟨⟨w,c,rfl⟩,a7,a7n⟩;simp only at a7 a7n;refine mY oU t0 t1 t4 t5 ?_;refine gQ (TU ρ (r:=⟨2,a,v5,w,c,0,.mk 0 0 0 [],[]⟩) (Nr.keep (a7.le Z) Z) ⟨[.int .i64 0,.int .u64 0,.int .u64 0,.nils],.nils,rfl,qi _ _ _ _ _,⟨ae,.inl ⟨rfl,rfl,rfl⟩⟩⟩ Z ae (by simp[dV,jb]) (by simp[TN,Ir])) ?_;have a07:aq lo M M7:=a06.trans (a7.le Z);rintro⟨u,M9,n9⟩ ⟨rfl,g4,g5,L2,T2,vl2,vr2,ls2,Rg,SV⟩;simp only at g4 g5 SV;have uW:=FQ T2 (by simp[gI,o_]);have T2:L2.length<=L1.length+1:=by rcases T2 with rfl | rfl<;>simp
    refine mI oU @Rk.eq_1 ?_;exact⟨Z,fun q hq=>(g5 q hq).trans (a07 q hq),_,L2,Z,Z,fun r hr=>(uW r hr).elim (hp1 r) .inr,_,_,_,_,_,SV⟩
  by_cases hB:x4=3\/x4=4\/x4=5
  ·rcases hB with rfl | rfl | rfl
   all_goals
    refine mY oU t0 t1 t4 t5 ?_;refine gQ (f82 ρ (hk5.keep (aq.refl _ _) Z) 5 Z) ?_;rintro⟨u,M6,n6⟩ ⟨⟨x6,rfl,x6p,x6q⟩,⟨vb6,Nr⟩,a6,a6n⟩;simp only at Nr a6 a6n;have a06:aq lo M M6:=fun q hq=>(a6 q Z Z).trans (a05 q hq)
    refine mY oU t0 t1 t4 t5 ?_;refine gQ (TU ρ (r:=⟨3,a,v5,0,0,IntKind.u64.wrap x6,.mk 0 0 0 [],[]⟩) (Nr.keep (aq.refl _ _) Z) ⟨[.int .i64 0,.int .u64 0,.int .u64 0,.nils],.nils,rfl,qi _ _ _ _ _,⟨ae,.inl ⟨rfl,rfl,rfl⟩⟩⟩ Z ae (by simp[dV,jb]) (by simp[TN,Ir])) ?_;rintro⟨u,M9,n9⟩ ⟨rfl,g4,g5,L2,T2,vl2,vr2,ls2,Rg,SV⟩;simp only at g4 g5 SV;have uW:=FQ T2 (by simp[gI,o_]);have T2:L2.length<=L1.length+1:=by rcases T2 with rfl | rfl<;>simp
    refine mI oU @Rk.eq_1 ?_;exact⟨Z,fun q hq=>(g5 q hq).trans (a06 q hq),_,L2,Z,Z,fun r hr=>(uW r hr).elim (hp1 r) .inr,_,_,_,_,_,SV⟩
  have m0:¬ x4=0:=fun h=>hA (.inl h)
  have m1:¬ x4=1:=fun h=>hA (.inr (.inl h))
  have m2:¬ x4=2:=fun h=>hA (.inr (.inr h))
  have m3:¬ x4=3:=fun h=>hB (.inl h)
  have m4:¬ x4=4:=fun h=>hB (.inr (.inl h))
  have m5:¬ x4=5:=fun h=>hB (.inr (.inr h))
  by_cases m6:x4=6
  ·subst m6
   refine mY oU t0 t1 t4 t5 ?_;refine gQ (f82 ρ (hk5.keep (aq.refl _ _) Z) 2 Z) ?_;rintro⟨u,M6,n6⟩ ⟨⟨x6,rfl,x6p,x6q⟩,⟨vb6,Nr⟩,a6,a6n⟩;simp only at Nr a6 a6n;have a06:aq lo M M6:=fun q hq=>(a6 q Z Z).trans (a05 q hq)
   by_cases h6:x6=0
   ·refine iC oU h6 t0 t1 t4 t5 ?_
    refine gQ (TU ρ (r:=⟨4,a,v5,0,0,0,.mk 0 0 0 [],[]⟩) (Nr.keep (aq.refl _ _) Z) ⟨[.int .i64 0,.int .u64 0,.int .u64 0,.nils],.nils,rfl,qi _ _ _ _ _,⟨ae,.inl ⟨rfl,rfl,rfl⟩⟩⟩ Z ae (by simp[dV,jb]) (by simp[TN,Ir])) ?_;rintro⟨u,M9,n9⟩ ⟨rfl,g4,g5,L2,T2,vl2,vr2,ls2,Rg,SV⟩;simp only at g4 g5 SV;have uW:=FQ T2 (by simp[gI,o_]);have T2:L2.length<=L1.length+1:=by rcases T2 with rfl | rfl<;>simp
    refine mI oU @Rk.eq_1 ?_;exact⟨Z,fun q hq=>(g5 q hq).trans (a06 q hq),_,L2,Z,Z,fun r hr=>(uW r hr).elim (hp1 r) .inr,_,_,_,_,_,SV⟩
   ·cases kb with
    | true =>
      refine iC oU h6 t0 t1 t4 t5 ?_;refine gQ (f85 ρ (Nr.keep (aq.refl _ _) Z) Z a) ?_;rintro⟨u,M9,n9⟩ ⟨rfl,g4,g5,nb2,L2,Ub,T2,uW,vb2,vl2,vr2,ls2,Rg,SV⟩;simp only at g4 g5 SV;refine mI oU @Rk.eq_1 ?_;exact⟨Z,fun q hq=>(g5 q hq).trans (a06 q hq),nb2,L2,Z,Z,fun r hr=>(uW r hr).elim (hp1 r) .inr,_,_,_,_,_,SV⟩
    | false =>
      refine gw oU h6 t0 t1 t4 t5 @Rk.eq_1 ?_;exact⟨Z,a06,_,L1,Z,Z,hp1,_,_,_,_,_,Nr.keep (aq.refl _ _) Z⟩
  by_cases m7:x4=7
  ·subst m7
   cases kb with
   | true =>
     refine mY oU t0 t1 t4 t5 ?_;refine gQ (f85 ρ (hk5.keep (aq.refl _ _) Z) Z a) ?_;rintro⟨u,M9,n9⟩ ⟨rfl,g4,g5,nb2,L2,Ub,T2,uW,vb2,vl2,vr2,ls2,Rg,SV⟩;simp only at g4 g5 SV;refine mI oU @Rk.eq_1 ?_;exact⟨Z,fun q hq=>(g5 q hq).trans (a05 q hq),nb2,L2,Z,Z,fun r hr=>(uW r hr).elim (hp1 r) .inr,_,_,_,_,_,SV⟩
   | false =>
     refine iC oU t0 t1 t4 t5 @Rk.eq_1 ?_;exact⟨Z,a05,_,L1,Z,Z,hp1,_,_,_,_,_,hk5.keep (aq.refl _ _) Z⟩
  by_cases m8:x4=8
  ·subst m8
   refine mY oU t0 t1 t4 t5 ?_;refine gQ (f86 ρ (hk5.keep (aq.refl _ _) Z) Z a) ?_;rintro⟨u,M9,n9⟩ ⟨rfl,g4,g5,nb2,L2,Ub,T2,uW,vb2,vl2,vr2,ls2,Rg,SV⟩;simp only at g4 g5 SV;refine mI oU @Rk.eq_1 ?_;exact⟨Z,fun q hq=>(g5 q hq).trans (a05 q hq),nb2,L2,Z,Z,fun r hr=>(uW r hr).elim (hp1 r) .inr,_,_,_,_,_,SV⟩
  refine ii oU m0 m1 m2 m3 m4 m5 m6 m7 m8 t0 (aI t1 (aI t4 t5)) ?_;refine gQ (f82 ρ (hk5.keep (aq.refl _ _) Z) 5 Z) ?_;rintro⟨u,M6,n6⟩ ⟨⟨x6,rfl,x6p,x6q⟩,⟨vb6,Nr⟩,a6,a6n⟩;simp only at Nr a6 a6n;have a06:aq lo M M6:=fun q hq=>(a6 q Z Z).trans (a05 q hq)
  by_cases h6:x6=0
  ·refine iC oU h6 t0 t1 t4 t5 ?_
   refine gQ (TU ρ (r:=⟨7,a,0,0,0,0,.mk 0 0 0 [],[]⟩) (Nr.keep (aq.refl _ _) Z) ⟨[.int .i64 0,.int .u64 0,.int .u64 0,.nils],.nils,rfl,qi _ _ _ _ _,⟨ae,.inl ⟨rfl,rfl,rfl⟩⟩⟩ Z ae (by simp[dV,jb]) (by simp[TN,Ir])) ?_;rintro⟨u,M9,n9⟩ ⟨rfl,g4,g5,L2,T2,vl2,vr2,ls2,Rg,SV⟩;simp only at g4 g5 SV;have uW:=FQ T2 (by simp[gI,o_]);have T2:L2.length<=L1.length+1:=by rcases T2 with rfl | rfl<;>simp
   refine mI oU @Rk.eq_1 ?_;exact⟨Z,fun q hq=>(g5 q hq).trans (a06 q hq),_,L2,Z,Z,fun r hr=>(uW r hr).elim (hp1 r) .inr,_,_,_,_,_,SV⟩
  ·refine iC oU h6 t0 t1 t4 t5 ?_
   refine gQ (f86 ρ (Nr.keep (aq.refl _ _) Z) Z a) ?_;rintro⟨u,M9,n9⟩ ⟨rfl,g4,g5,nb2,L2,Ub,T2,uW,vb2,vl2,vr2,ls2,Rg,SV⟩;simp only at g4 g5 SV;refine mI oU @Rk.eq_1 ?_;exact⟨Z,fun q hq=>(g5 q hq).trans (a06 q hq),nb2,L2,Z,Z,fun r hr=>(uW r hr).elim (hp1 r) .inr,_,_,_,_,_,SV⟩
end
end Go.Xs
namespace Go.Xs
open List Nat Option
variable{M:Hp}{b nx:Nat}{v:XV}
noncomputable section
open Go.Proofs
def TrcP (nx:Nat) (M:Hp) (o:ew):Prop:=(∃L,cP o.2.1 o.2.2 o.1 L/\L.length<=60/\∀r ∈ L,gI r.p)/\aq nx M o.2.1/\nx<=o.2.2
theorem Da.up {b' nb:Nat} (h:Da M b v nb) (hb:b<=b'):Da M b' v nb:=by
 obtain⟨h1,h2 | ⟨K,off,cap,cs,h2,h3,h4,h5⟩⟩:=h
 ·exact⟨h1,.inl h2⟩
 ·exact⟨h1,.inr ⟨K,off,cap,cs,h2,h3,Z,h5⟩⟩
theorem Da.pre {nb n1:Nat} (h:Da M b v nb) (hn:n1<=nb):∃v',qY am M 75 v none (some (.int .i64 (n1:Nat))) none=some ⟨v',[],[]⟩/\Da M b v' n1:=by
 obtain⟨h1,⟨rfl,h2⟩ | ⟨K,off,cap,cs,rfl,h3,h4,h5,h6,h7⟩⟩:=h
 ·obtain rfl:n1=0:=Z
  refine⟨.nils,?_,Z,.inl ⟨rfl,rfl⟩⟩;unfold qY;simp only[Lb,Tryz.underlying75];rfl
 ·refine⟨.sl K 1 off n1 cap,?_,Z,.inr ⟨K,off,cap,cs,rfl,Z,h4,h5,Z,fun j x a1 a2=>h7 j x a1 Z⟩⟩
  unfold qY;have e:(Int.ofNat n1)=((n1:Nat):Int):=rfl;simp only[<-e,Lb,Tryz.underlying75,ty5.2.1];rw[show Nat.ble 0 n1=true by rw[ble_eq];omega,show Nat.ble n1 cap=true by rw[ble_eq];omega,show Nat.ble cap cap=true by rw[ble_eq];omega];simp;rfl
theorem LM.recsL {lo m nb:Nat} {L:List aR} {vb vl vr:XV} {rl rr:List XV} (h:LM M nx lo m nb L vb vl vr rl rr):cP M nx vl L :=
 ⟨rl,h.l.at fun k hk=>hk.2.1,fun j x hx=>b8.pp.2 ((h.inl j x hx).keep fun k hk=>⟨rfl,hk.2.1⟩)⟩
theorem Yu (ρ:aK) {nb:Nat} (hb:Da M b v nb) (hbn:b<=nx) (kb:Bool):ar am ρ 31 [v,.bool kb] M nx (TrcP nx M):=by
 have ay:=fun N=>hb.len N
 have hcb:=hb.cell;refine ar.wk 34 [.tmp 4] Tryz.func31 ?_;obtain⟨n1,h1,h2,h3⟩:∃n1:Nat,min (nb:Int) 200=n1/\n1<=nb/\n1<=200:=⟨min nb 200,Z,Z,Z⟩;obtain⟨v',a9,Ua⟩:=hb.pre h2;have hc1:=Ua.cell;refine CU wH ay @aar @omap_n @omap_s h1 a9 hc1.1 hc1.2 ?_;refine aC (fun m' s=>∃(nb':Nat) (L:List aR),m'=nb'/\gG s.env 1=some (.bool kb)/\gG s.env 5=some (.mp (nx+7) 0)/\Mk s.M s.nx nx (nx+7) nb' L/\L.length<=60/\(∀r ∈ L,gI r.p)/\aq nx M s.M/\nx+9<=s.nx) n1 ⟨n1,[],rfl,?_⟩ ?_
 ·refine bR wH ?_
  have aa:∀y,aq nx M (ci M (nx+7) y):=fun y=>O
  exact⟨⟨v',.nils,.nils,[],[],J,⟨Z,Z⟩,(Ua.agr ((aa _).le hbn)).up hbn,⟨ae,rfl,.inl ⟨rfl,rfl⟩⟩,⟨ae,rfl,.inl ⟨rfl,rfl⟩⟩,fun j x hx=>by simp at hx,fun j x hx=>by simp at hx⟩,ae,fun r hr=>by simp at hr,aa _,Z⟩
 ·rintro m' ⟨env,M',nx'⟩ ⟨nb',L,ir,e1,e5,⟨vb,vl,vr,rl,rr,hk⟩,hl,hp,ha,hn⟩
  simp only at e1 e5 hk ha hn;have bA:=hk.row;have CL:=fun N=>hk.by'.len N
  have je:=fun N=>(hk.l.at (b:=nx') fun k hk=>hk.2.1).len (P:=am) (t:=22) jp.2.2.2.2.2 N
  have cF:=hk.l.cell;have hcb:=hk.by'.cell
  by_cases h0:(0:Int)<nb'
  ·by_cases h58:(L.length:Int)<58
   ·refine ii wH e1 e5 bA CL je cF.1 cF.2 hcb.1 hcb.2 h0 h58 ?_
    refine gQ (f59 ρ (hk.keep (aq.refl _ _) Z) Z kb) ?_;rintro⟨u,M2,n2⟩ ⟨rfl,g2,g3,nb2,L2,Ub,T2,uW,ZA⟩;simp only at g2 g3 ZA;refine Ao wH e1 e5 ?_;exact⟨nb2,Z,nb2,L2,rfl,ZA,Z,fun r hr=>(uW r hr).elim (hp r) id,fun q hq=>(g3 q hq).trans (ha q hq),Z⟩
   ·refine ii wH e1 e5 bA CL je cF.1 cF.2 hcb.1 hcb.2 h0 (aI h58 @TrcP.eq_1) ?_
    exact⟨⟨L,(hk.keep (aq.refl _ _) Z).recsL,hl,hp⟩,ha,Z⟩
  ·refine ii wH e1 e5 bA CL je cF.1 cF.2 hcb.1 hcb.2 h0 @TrcP.eq_1 ?_
   exact⟨⟨L,(hk.keep (aq.refl _ _) Z).recsL,hl,hp⟩,ha,Z⟩
end
end Go.Xs
namespace Go.Xs
open List Nat Option
open Go.Proofs Go.RowKit
theorem names:(am.funcs.toList.all fun fn=>!(fn.name == "runtime.NumGoroutine"))=true:=U
theorem Ws:Extern.findNext Tryz.f223=none/\Extern.find Tryz.f223=some Extern.BytealgCount.count:=⟨U,U⟩
theorem Xj:Extern.findNext Tryz.f299=none/\Extern.find Tryz.f299=some Extern.BytealgIndexByte.indexByte:=⟨U,U⟩
theorem I2 (ρ:aK):Dt am ρ (KD 223 299) :=
 K7 ⟨_,Tryz.func223,U,mV names _ _ Tryz.func223,Ws⟩ ⟨_,Tryz.func299,U,mV names _ _ Tryz.func299,Xj⟩
theorem EE:WY (Ty am (fun _ _ _=>none) (KD 223 299) 100000 60 8 [] .nil 0)=true:=U
theorem SC (w:World):Calls am 8 #[] w fun e w'=>e = .returned (.bool true)/\Below w.heap.size w w' :=
 Es (args:=[]) (vs:=[]) (ρ:=⟨fun _=>0,fun _=>none,false⟩) (LH follows (mV names) (fun _ _ _ _ _ h=>by cases h) (I2 _) (fuel:=100000) 60) (nx:=0) (GU fun _ _ h=>by cases h) Fj (fun _ _=>rfl) EE (by simp only[bb]) Tryz.func8 (mV names _ _ Tryz.func8) U
theorem f8w (ρ:aK) (M:Hp) (n:Nat):ar am ρ 8 [] M n fun r=>r.1 = .bool true/\aq n M r.2.1:=by
 have h0:ft am ρ 8 [] M n fun r=>r=(.bool true,M,n):=fun w σ vs aQ f8 aX o a K Q hK=>by
  obtain rfl:vs=[]:=by simpa only [bb] using aX
  exact Bp aQ Tryz.func8 (mV names _ _ Tryz.func8) U (SC w) (show VR ρ σ (.bool true) (.bool true) from by simp only[VR]) fun u w' q1 q2 q3=>hK u w' ⟨_,rfl,σ,q1,q2,q3,Nat.le_refl _,fun k=>.inl rfl⟩
 exact⟨h0.mono fun r e=>by subst e;exact⟨rfl,aq.refl _ _⟩,fun _ _=>⟨_,⟨rfl,aq.refl _ _⟩,h0⟩⟩
open Go.Proofs Go.RowKit
theorem run_none0:WY (Ty am (fun _ _ _=>none) (Kf 8) 100000 60 4 [.si .u64 0,.agg [.int .u64 0,.int .u64 0],.si .i64 1] .nil 0)=true:=U
theorem run_none1:WY (Ty am (fun _ _ _=>none) (Kf 8) 100000 60 4 [.si .u64 0,.agg [.int .u64 1,.int .u64 0],.si .i64 1] .nil 0)=true:=U
def rho4 (x i:Int):Nat->Int
 | 0=>x
 | _=>i
theorem none_calls (x a i:Int) (ha:a=0\/a=1) (w:World):Calls am 4 #[.int .u64 x,.agg #[.int .u64 a,.int .u64 0],.int .i64 i] w fun e w'=>e = .returned (.bool true)/\Below w.heap.size w w':=by
 have key:∀a:Int,WY (Ty am (fun _ _ _=>none) (Kf 8) 100000 60 4 [.si .u64 0,.agg [.int .u64 a,.int .u64 0],.si .i64 1] .nil 0)=true->Calls am 4 #[.int .u64 x,.agg #[.int .u64 a,.int .u64 0],.int .i64 i] w fun e w'=>e = .returned (.bool true)/\Below w.heap.size w w':=fun a h =>
  Es (vs:=[.int .u64 x,.agg #[.int .u64 a,.int .u64 0],.int .i64 i]) (ρ:=⟨rho4 x i,fun _=>none,false⟩) (LH follows (mV names) (fun _ _ _ _ _ h=>by cases h) (extTrue_ok Tryz.func8 (mV names _ _ Tryz.func8) U SC) (fuel:=100000) 60) (nx:=0) (GU fun _ _ h=>by cases h) Fj (fun _ _=>rfl) h (by
   simp only[bb,VR];exact⟨_,_,rfl,rfl,_,_,rfl,⟨_,rfl,_,_,rfl,rfl,_,_,rfl,rfl,rfl⟩,_,_,rfl,rfl,rfl⟩) Tryz.func4 (mV names _ _ Tryz.func4) U
 rcases ha with rfl | rfl
 ·exact key 0 run_none0
 ·exact key 1 run_none1
theorem f4w (ρ:aK) (M:Hp) (n:Nat) (x a i:Int) (ha:a=0\/a=1):ar am ρ 4 [.int .u64 x,.agg [.int .u64 a,.int .u64 0],.int .i64 i] M n fun r=>r.1 = .bool true/\aq n M r.2.1:=by
 have h0:ft am ρ 4 [.int .u64 x,.agg [.int .u64 a,.int .u64 0],.int .i64 i] M n fun r=>r=(.bool true,M,n):=fun w σ vs aQ f8 aX o A K Q hK=>by
  obtain rfl:vs=[.int .u64 x,.agg #[.int .u64 a,.int .u64 0],.int .i64 i]:=by
   simp only[bb,VR]at aX;obtain⟨_,_,rfl,rfl,_,_,rfl,⟨us,rfl,_,_,hu,rfl,_,_,rfl,rfl,rfl⟩,_,_,rfl,rfl,rfl⟩:=aX;rw[show us = #[.int .u64 a,.int .u64 0] from Array.ext' hu]
  exact Bp aQ Tryz.func4 (mV names _ _ Tryz.func4) U (none_calls x a i ha w) (show VR ρ σ (.bool true) (.bool true) from by simp only[VR]) fun u w' q1 q2 q3=>hK u w' ⟨_,rfl,σ,q1,q2,q3,Nat.le_refl _,fun k=>.inl rfl⟩
 exact⟨h0.mono fun r e=>by subst e;exact⟨rfl,aq.refl _ _⟩,fun _ _=>⟨_,⟨rfl,aq.refl _ _⟩,h0⟩⟩
end Go.Xs
