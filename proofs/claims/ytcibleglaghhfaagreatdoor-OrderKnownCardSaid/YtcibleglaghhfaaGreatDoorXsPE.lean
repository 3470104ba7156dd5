/- A part of the proof: the layers and contracts it rests on. -/
import Derived.Test.YtcibleglaghhfaaGreatDoorXsPC
import Derived.Test.YtcibleglaghhfaaGreatDoorXsPD
import Derived.Sort.LotA
import Derived.Sort.LotB
import Derived.Sort.LotC
import Derived.Sort.LotD3
set_option maxRecDepth 100000
set_option maxHeartbeats 8000000
set_option linter.all false
set_option linter.deprecated false
namespace Go.Xs
open List Nat Option
variable{M:Hp}{b hi lo m nx:Nat}{cs:List XV}{l:List aR}{r:aR}
open Go.Proofs
theorem Xi (ρ:aK) {k1 k2:Nat} (hr:b8 M b r cs) (hb:b<=nx) (hc:dV r.p<=1000) (iu:gI r.p) (h:cZ M lo hi m l) (hh:hi<=nx)
 (m1:gG M k1=some (.row [.mp m 0])) (m2:gG M k2=some (.row cs)) (b1:k1<nx) (b2:k2<nx) (e:En) :
 ar am ρ 209 [.agg (b9 e),.mp k1 0,.mp k2 0] M nx (fe nx M (.bool (!(e.m==kG l r.p e.x e.w e.n)))):=by
 refine ar.closed fun cF _=>?_
 obtain⟨pk,pa,pb,pv,ve,rfl,⟨p1,p2⟩,⟨q1,q2⟩,_,hp⟩:=hr.cells;have hk:aO nx pv=true:=by
  have:=(cF k2 _ m2).2;simp only[cp,aE,aO]at this;cases hk:aO nx pv with
  | true=>rfl
  | false=>rw[hk]at this;cases this
 have vY:m<nx:=by obtain⟨_,_,_,_,_,_,_,_,h⟩:=h;have:=h.m_hi;omega
 have a1:=fun o=>(aq.refl nx M).set (Nat.le_refl nx) o
 simp only[b9];refine ar.wk 16 [.tmp 4] Tryz.func209 ?_;refine gk R3 m1 m2 ?_;refine aT (bN.read (v:=.bool (kG l r.p e.x e.w e.n)) ((cF.le Z).set Z rfl) ?_ rfl fun N hN=>?_) af ?_
 ·have hb:∀c,Nat.blt m (nx+c)=true:=fun c=>by rw[blt_eq];omega
  simp only[aE,aO,hb];rw[aO.le Z hk]
 ·exact Xw ρ (hp.agr (((a1 _).trans (hN.le Z)).le hb)) Z hc iu (h.agr (((a1 _).trans (hN.le Z)).le hh) (Nat.le_refl _)) Z e.x e.w e.n
 ·refine jz R3 @Th @rG @fe.eq_1 ?_
  refine⟨?_,O,Z⟩;cases e.m<;>cases kG l r.p e.x e.w e.n<;>rfl
theorem Xk (ρ:aK) (hr:b8 M b r cs) (hb:b<=nx) (hc:dV r.p<=1000) (iu:gI r.p) (h:cZ M lo hi m l) (hh:hi<=nx):ar am ρ 136 [.mp m 0,.agg cs] M nx (fe nx M (.bool (uu l r))):=by
 have mP:=hr;obtain⟨pk,pa,pb,pv,ve,rfl,⟨p1,p2⟩,⟨q1,q2⟩,dZ,_⟩:=hr.cells;unfold jm at dZ;refine ar.wk 10 [.tmp 4] Tryz.func136 ?_;refine lO uo p1 p2 q1 q2 ?_;generalize xu:ci (ci M nx _) (nx+1) _=M1;have a1:aq nx M M1:=by rw[<-xu];exact O
 have m1:gG M1 nx=some (.row [.mp m 0]):=by rw[<-xu];simp[ao]
 have m2:gG M1 (nx+1)=some (.row [.int .i64 r.kind,.int .u64 r.t,.int .u64 r.x,.int .u64 r.w,.int .u64 r.n,.int .u64 r.v,.int .i64 pk,.int .u64 pa,.int .u64 pb,pv,ve]):=by rw[<-xu];simp[ao]
 clear xu;refine lG (PP ρ (dZ.agr (a1.le hb)) Z (fun e=>!(e.m==kG l r.p e.x e.w e.n)) fun e he M' nx' ha hn=>Xi ρ ((mP.agr (a1.le hb)).agr (ha.le Z)) Z hc iu ((h.agr (a1.le hh) (Nat.le_refl _)).agr (ha.le Z) (Nat.le_refl _)) Z ((ha _ Z).trans m1) ((ha _ Z).trans m2) Z Z e) fun M2 n2 g2 g3=>?_
 have hz:=xU (fun e:En=>e.m==kG l r.p e.x e.w e.n) r.es;refine gk uo hz @fe.eq_1 ?_;exact⟨by simp only[uu],a1.trans (g2.le Z),Z⟩
theorem Xd (ρ:aK) {k1 k2:Nat} {x w n:Int} (m1:gG M k1=some (.row [.int .u64 x])) (m2:gG M k2=some (.row [.int .u64 w,.int .u64 n])) (b1:k1<nx) (b2:k2<nx) (e:En) :
 ar am ρ 208 [.agg (b9 e),.mp k1 0,.mp k2 0] M nx (fe nx M (.bool (decide (e.x=x)&&(decide (e.w=w)&&decide (e.n=n))))):=by
 simp only[b9];have a1:=fun o=>(aq.refl nx M).set (Nat.le_refl nx) o
 refine ar.wk 15 [.tmp 4] Tryz.func208 ?_;by_cases c:e.x=x
 ·refine lO Tl m1 m2 c @fe.eq_1 ?_
  exact⟨a1 _,Z⟩
 ·refine lO Tl m1 m2 c @fe.eq_1 ?_
  exact⟨ae,a1 _,Z⟩
def xH (t:Int) (k:Nat):Int×Int:=match k with | 0=>(0,0) | k+1=>(t,((k+1:Nat):Int))
theorem Xb (ρ:aK) {k1 k2:Nat} (hr:b8 M b r cs) (hb:b<=nx) (h:cZ M lo hi m l) (hh:hi<=nx) (m1:gG M k1=some (.row [.mp m 0])) (m2:gG M k2=some (.row cs)) (b1:k1<nx) (b2:k2<nx) (x:Int) :
 ar am ρ 207 [.int .u64 x,.mp k1 0,.mp k2 0] M nx (fe nx M (.bool (!(r.es.any fun e=>decide (e.x=x)&&(decide (e.w=(xH r.t (bd l r.t x).length).1)&&decide (e.n=(xH r.t (bd l r.t x).length).2)))))):=by
 obtain⟨pk,pa,pb,pv,ve,rfl,⟨p1,p2⟩,⟨q1,q2⟩,dZ,_⟩:=hr.cells;unfold jm at dZ;have a1:=fun o=>(aq.refl nx M).set (Nat.le_refl nx) o
 have z1:=(a1 (.row [.int .u64 x]) k2 b2).trans m2;refine ar.wk 20 [.tmp 4] Tryz.func207 ?_;refine gk uo m1 m2 ?_;refine lG (TF ρ (h.agr ((a1 _).le hh) (Nat.le_refl _)) Z r.t x) fun M2 n2 g2 g3=>?_
 have a2:=(a1 (.row [.int .u64 x])).trans (g2.le Z);have y:=g2 nx Z;rw[ao,if_pos rfl]at y;have y2:=(a2 k2 b2).trans m2;obtain⟨v1,hv1⟩:∃v,v=xH r.t (bd l r.t x).length:=⟨_,rfl⟩;have ZE:∃f,Fg r.t (bd l r.t x).length = .tup [.agg [.int .u64 v1.1,.int .u64 v1.2],.bool f]:=by
  rw[hv1];cases (bd l r.t x).length with
  | zero=>exact⟨_,rfl⟩
  | succ k=>exact⟨_,rfl⟩
 obtain⟨f,hf⟩:=ZE
 rw[<-hv1];refine gk uo hf y2 ?_;generalize xu:ci (ci M2 _ _) _ _=M3;have a3:aq n2 M2 M3:=by rw[<-xu];exact O
 have m3:gG M3 (n2+3)=some (.row [.int .u64 v1.1,.int .u64 v1.2]):=by rw[<-xu];simp[ao]
 clear xu;refine lG (PP ρ (dZ.agr ((a2.trans (a3.le Z)).le hb)) Z (fun e=>decide (e.x=x)&&(decide (e.w=v1.1)&&decide (e.n=v1.2))) fun e he M' nx' ha hn=>Xd ρ ((ha _ Z).trans ((a3 nx Z).trans y)) ((ha _ Z).trans m3) Z Z e) fun M4 n4 MM k3'=>?_
 refine fM uo @fe.eq_1 ?_;exact⟨(a2.trans (a3.le Z)).trans (MM.le Z),Z⟩
end Go.Xs
namespace Go.Xs
open List Nat Option
variable{M:Hp}{hi lo m mn nx:Nat}{l:List aR}{ps:List (Int×Int)}{rs:List XV}{tag:Nat->Tg}{vend vnames vnum vrows:XV}
open Go.Proofs
def kL:Prop:=∀(ρ:aK) (M:Hp) (nx k:Nat) (xs:List Int),xs.length<=1000->0<xs.length->k<nx->gG M k=some (.row (xs.map (XV.int .u64))) ->
 ar am ρ 78 [.sl k 1 0 xs.length xs.length] M nx fun r=>r.1 = .tup []/\(∃ys:List Int,ys.Perm xs/\ys.Pairwise (· <= ·)/\gG r.2.1 k=some (.row (ys.map (XV.int .u64))))/\(∀j,j<nx->j≠k->gG r.2.1 j=gG M j)/\nx<=r.2.2
def kJ:Prop:=∀(ρ:aK) (M:Hp) (nx:Nat),ar am ρ 78 [.nils] M nx (fe nx M (.tup []))
def fK (ps:List (Int×Int)) (t:Int):List Int:=(ps.filter fun p=>decide (p.1=t)).map (·.2)
theorem BR {t:Int} {i:Nat} {p:Int×Int} (h:ps[i]?=some p):fK (ps.take (i+1)) t=if p.1=t then fK (ps.take i) t++[p.2] else fK (ps.take i) t:=by
 have:ps.take (i+1)=ps.take i++[p]:=by rw[take_add_one,h];rfl
 unfold fK;rw[this,filter_append,map_append];by_cases e:p.1=t<;>simp[e]
abbrev Ye (M:Hp) (lo hi:Nat) (v:XV) (ys:List Int):Prop:=bS M lo hi (fun _=>()) () v 1 ys.length (ys.map (XV.int .u64))
theorem Xo (hS:kL) (hN:kJ) (ρ:aK) {le:List (Nat×Int×Bool)} (h:kI M lo hi m mn l tag ps vnum vnames vrows vend rs le) (hh:hi<=nx) (few:ps.length<=1000) (t:Int) :
 ar am ρ 206 [.mp m 0,.int .u64 t] M nx fun r=>(∃ys:List Int,ys.Perm (fK ps t)/\ys.Pairwise (· <= ·)/\bE r.2.1 r.2.2 r.1 1 ys.length (ys.map (XV.int .u64)))/\aq nx M r.2.1/\nx<=r.2.2:=by
 have vY:=h.m_hi;have a0:∀c,aq (nx+c) M M:=fun c=>aq.refl _ _
 refine ar.wk 40 [.tmp 4] Tryz.func206 ?_;refine dt tH ?_;refine lG (WQ ρ h.row Z h.names) fun M1 n1 g2 g3=>?_
 have Qw:aq nx M M1:=g2.le Z;refine dt tH ?_;refine aC (fun m' s=>∃(i:Nat) (v:XV),i<=ps.length/\m'=ps.length - i/\gG s.env 0=some (.mp m 0)/\gG s.env 1=some (.int .u64 t)/\gG s.env 4=some v/\gG s.env 14=some (.int .i64 ps.length)/\gG s.env 15=some (.int .i64 i)/\Ye s.M nx s.nx v (fK (ps.take i) t)/\aq nx M s.M/\nx<=s.nx)
  ps.length ⟨0,.nils,Z,Z,?_⟩ ?_
 ·refine dt tH ?_
  exact⟨⟨by simp[fK],by simp[fK],.inl ⟨rfl,by simp[fK]⟩⟩,(by(repeat (refine aq.set ?_ Z _));exact Qw),Z⟩
 ·rintro m' ⟨env,M',nx'⟩ ⟨i,v,hi',ir,e0,e1,e4,pu,gW,hv,ha,hn⟩
  simp only at e0 e1 e4 pu gW hv ha hn;have ip:(fK (ps.take i) t).length<=1000:=by
   unfold fK;rw[length_map];refine Nat.le_trans (length_filter_le _ _) ?_;rw[length_take];omega
  by_cases aL:(i:Int)<ps.length
  ·have aP:i<ps.length:=Z
   obtain⟨p,hp⟩:∃p,ps[i]?=some p:=⟨ps[i],by simp[aP]⟩;have bV:=eF i;refine ky tH e0 e1 e4 pu gW aL ?_;refine gQ (Xq ρ ((ha m Z).trans h.row) Z (h.names.agr (ha.le hh) (Nat.le_refl _)) Z hp) ?_;rintro⟨u,M2,n2⟩ ⟨g1,g2,g3⟩;simp only[fj]at g1 g2 g3;subst g1;have bw:=BR (t:=t) hp;have jX:=ha.trans (g2.le Z);by_cases UI:p.1=t
   ·rw[if_pos UI]at bw
    obtain⟨hz,cF,⟨rfl,pG⟩ | ⟨hl,k,rfl,k1,k2,_,k4⟩⟩:=hv
    ·have ho:fK (ps.take i) t=[]:=length_eq_zero_iff.1 pG
     refine oq tH e0 e1 e4 pu gW UI bV ?_;refine⟨ps.length - (i+1),Z,i+1,_,Z,rfl,rfl,rfl,?_,(by(repeat (refine aq.set ?_ Z _));exact jX),Z⟩;rw[bw,ho];exact⟨ae,ae,.inr ⟨ae,n2+14,rfl,Z,Z,rfl,J⟩⟩
    ·have MN:=(g2 k Z).trans k4
     have kB:List.take (fK (ps.take i) t).length (List.map (XV.int .u64) (fK (ps.take i) t))=List.map (XV.int .u64) (fK (ps.take i) t):=take_of_length_le ae;refine rf tH e0 e1 e4 pu gW UI bV MN kB ?_;refine⟨ps.length - (i+1),Z,i+1,_,Z,rfl,rfl,rfl,?_,?_,Z⟩
     ·rw[bw]
      refine⟨aj,ae,.inr ⟨ae,n2+14,ae,Z,Z,rfl,?_⟩⟩;rw[map_append];exact J
     ·exact fun j hj=>by
       have e1:j≠k:=Z;have:=jX j hj;exact J
   ·rw[if_neg UI]at bw
    refine oq tH e0 e1 e4 pu gW UI bV ?_;refine⟨ps.length - (i+1),Z,i+1,_,Z,rfl,rfl,rfl,?_,(by(repeat (refine aq.set ?_ Z _));exact jX),Z⟩;rw[bw];exact hv.keep (fun k hk _=>⟨by have:=g2 k Z;exact J,rfl⟩) Z
  ·have gB:i=ps.length:=Z
   subst gB;rw[take_length]at hv ip;obtain⟨hz,cF,⟨rfl,pG⟩ | ⟨hl,k,rfl,k1,k2,_,k4⟩⟩:=hv
   ·refine ky tH e0 e1 e4 pu gW aL ?_
    refine gQ (hN ρ _ _) ?_;rintro⟨u,M2,n2⟩ ⟨g1,g2,g3⟩;simp only at g1 g2 g3;subst g1;have ho:fK ps t=[]:=length_eq_zero_iff.1 pG;refine fM tH e4 ?_;exact⟨⟨[],by rw[ho],.nil,ae,.inl ⟨rfl,rfl,rfl⟩⟩,ha.trans (g2.le Z),Z⟩
   ·refine ky tH e0 e1 e4 pu gW aL ?_
    refine gQ (hS ρ _ _ k (fK ps t) ip hl Z k4) ?_;rintro⟨u,M2,n2⟩ ⟨g1,⟨ys,y1,y2,y3⟩,g2,g3⟩;simp only at g1 y3 g2 g3;subst g1;refine fM tH e4 ?_;refine⟨⟨ys,y1,y2,?_⟩,fun j hj=>(g2 j Z Z).trans (ha j hj),Z⟩;have VX:ys.length=(fK ps t).length:=y1.length_eq;have hyb:ys.length<=1000:=by rw[VX];simpa using ip
    rw[<-VX];exact⟨Z,.inr ⟨k,0,ys.length,ys.map (XV.int .u64),rfl,Z,by unfold vR;simp only[y3],ae,by rw[drop_zero,take_of_length_le ae]⟩⟩
theorem wM {le:List (Nat×Int×Bool)} (h:kI M lo hi m mn l tag ps vnum vnames vrows vend rs le) (t x:Int):x ∈ fK ps t ↔ x ∈ P_ l t:=by
 unfold fK P_;simp only[mem_map,mem_filter,decide_eq_true_eq,Bool.and_eq_true,Prod.exists];constructor
 ·rintro⟨a,b,⟨hm,rfl⟩,rfl⟩
  obtain⟨i,hi⟩:=getElem?_of_mem hm;obtain⟨q,_⟩:=h.all i a b hi;unfold bd at q;have:l.filter (oI a b)≠[]:=fun e=>q (by rw[e];rfl)
  obtain⟨r,hr⟩:=exists_mem_of_ne_nil _ this;rw[mem_filter]at hr;simp only[oI,Bool.and_eq_true,decide_eq_true_eq]at hr;exact⟨r,⟨hr.1,hr.2.1,hr.2.2.1⟩,hr.2.2.2⟩
 ·rintro⟨r,⟨h1,h2,h3⟩,rfl⟩
  refine⟨t,r.x,⟨h.whole t r.x fun e=>?_,rfl⟩,rfl⟩;unfold bd at e;have:r ∈ l.filter (oI t r.x):=mem_filter.2 ⟨h1,by simp[oI,h2,h3]⟩;rw[map_eq_nil_iff]at e;rw[e]at this;cases this
theorem Ik {t:Int} {k:Nat} (h:0<k):xH t k=(t,(k:Int)):=by
 cases k with
 | zero=>omega
 | succ k=>rfl
theorem Wm (hS:kL) (hN:kJ) (ρ:aK) {b:Nat} {r:aR} {cs:List XV} (hr:b8 M b r cs) (hb:b<=nx) (h:cZ M lo hi m l) (hh:hi<=nx) (few:l.length<=1000):ar am ρ 135 [.mp m 0,.agg cs] M nx (fe nx M (.bool (ka l r))):=by
 have mP:=hr;have h0:=h;obtain⟨pk,pa,pb,pv,ve,rfl,⟨p1,p2⟩,⟨q1,q2⟩,dZ,_⟩:=hr.cells;obtain⟨tag,ps,vnum,vnames,vrows,vend,rs,le,h⟩:=h;refine ar.wk 15 [.tmp 4] Tryz.func135 ?_;by_cases k5:r.kind=5
 ·refine ul uo p1 p2 q1 q2 k5 ?_
  generalize xu:ci (ci M _ _) _ _=M1;have a1:aq nx M M1:=by rw[<-xu];exact O
  have m1:gG M1 nx=some (.row [.mp m 0]):=by rw[<-xu];exact J
  have m2:gG M1 (nx+1)=some (.row [.int .i64 r.kind,.int .u64 r.t,.int .u64 r.x,.int .u64 r.w,.int .u64 r.n,.int .u64 r.v,.int .i64 pk,.int .u64 pa,.int .u64 pb,pv,ve]):=by rw[<-xu,k5];exact J
  clear xu;obtain⟨MV,ps1,w0,w1,w2,w3,rs1,le1,h1⟩:=h0.agr (a1.le hh) (Nat.le_refl _);refine gQ (Xo hS hN ρ h1 Z (by have:=h1.few;omega) r.t) ?_;rintro⟨u,M2,n2⟩ ⟨⟨ys,y1,y2,y3⟩,g2,g3⟩;simp only at y3 g2 g3;have a2:=a1.trans (g2.le Z);have z1:=(g2 nx Z).trans m1;have z2:=(g2 (nx+1) Z).trans m2;have D0:=y3.cell;clear m1 m2;refine dt uo ?_;refine lG (XU ρ y3 Z (fun x=>!(r.es.any fun e=>decide (e.x=x)&&(decide (e.w=(xH r.t (bd l r.t x).length).1)&&decide (e.n=(xH r.t (bd l r.t x).length).2)))) fun x hx M' nx' ha hn=>Xb ρ ((mP.agr (a2.le hb)).agr (ha.le Z)) Z ((h0.agr (a2.le hh) (Nat.le_refl _)).agr (ha.le Z) (Nat.le_refl _)) Z ((ha _ Z).trans z1) ((ha _ Z).trans z2) Z Z x) fun M3 n3 MM k3'=>?_
  refine fM uo @fe.eq_1 ?_;refine⟨?_,a2.trans (MM.le Z),Z⟩;have hz:=xU (fun x:Int=>r.es.any fun e=>decide (e.x=x)&&(decide (e.w=(xH r.t (bd l r.t x).length).1)&&decide (e.n=(xH r.t (bd l r.t x).length).2))) ys;rw[hz];simp only[ka,k5,decide_true,Bool.not_true,Bool.false_or];congr 1;rw[Bool.eq_iff_iff,List.all_eq_true,List.all_eq_true];have pB:∀x,x ∈ ys ↔ x ∈ P_ l r.t:=fun x=>by rw[y1.mem_iff,wM h1]
  have ay:∀x,x ∈ P_ l r.t->xH r.t (bd l r.t x).length=(r.t,((bd l r.t x).length:Int)):=fun x hx=>by
   refine Ik (length_pos_iff.2 fun e=>?_);rw[<-wM h1]at hx;unfold fK at hx;simp only[mem_map,mem_filter,decide_eq_true_eq,Prod.exists]at hx;obtain⟨a,b',⟨hm,rfl⟩,rfl⟩:=hx;obtain⟨i,hi⟩:=getElem?_of_mem hm;exact(h1.all i _ _ hi).1 e
  constructor
  ·intro q x hx
   have:=q x ((pB x).2 hx);rw[ay x hx]at this;exact this
  ·intro q x hx
   rw[ay x ((pB x).1 hx)];exact q x ((pB x).1 hx)
 ·refine ky uo p1 p2 q1 q2 k5 @fe.eq_1 ?_
  exact⟨by simp[ka,k5],O,Z⟩
end Go.Xs
namespace Go.Xs
open List Nat Option
variable{M:Hp}{nx:Nat}
noncomputable section
open Go.Proofs
theorem SQ (ρ:aK) (j9:ρ.det=false) {box rm c:Nat} {l:List (Nat×Int×XV)} (sQ:gG M box=some (.row [.mm rm])) (RT:gG M rm=some (.map (cx vX l) c)) (hb:kD l c) (h1:box<nx) (h2:rm<nx) (few:l.length<=100000) :
 ar am ρ 77 [.fn (.func 79) [] [.mp box 0]] M nx fun r=>(∃ys:List Int,ys.Perm (l.map (·.2.1))/\bS r.2.1 nx r.2.2 (fun _=>()) () r.1 1 ys.length (ys.map (XV.int .u64)))/\aq nx M r.2.1/\nx<=r.2.2:=by
 refine ar.wk 5 [.tmp 2] Tryz.func77 ?_;refine Pr ?_;refine gQ (W8 ρ j9 sQ RT hb (show box<nx+2 by omega) Z few) ?_;rintro⟨u,M2,n2⟩ ⟨⟨ys,y1,y2⟩,g2,g3⟩;simp only at y2 g2 g3;refine Pr ?_;refine⟨⟨ys,y1,?_⟩,g2.le Z,Z⟩;obtain⟨o1,o2,o3 | ⟨o3,K,q1,K1,K2,K3,K4⟩⟩:=y2
 ·exact⟨o1,o2,.inl o3⟩
 ·exact⟨o1,o2,.inr ⟨o3,K,q1,Z,Z,K3,K4⟩⟩
theorem f46 (hS:kL) (hN:kJ) (ρ:aK) (j9:ρ.det=false) {box rm c:Nat} {l:List (Nat×Int×XV)} (sQ:gG M box=some (.row [.mm rm])) (RT:gG M rm=some (.map (cx vX l) c)) (hb:kD l c) (h1:box<nx) (h2:rm<nx) (few:l.length<=1000) :
 ar am ρ 46 [.fn (.func 79) [] [.mp box 0]] M nx fun r=>(∃ys:List Int,ys.Perm (l.map (·.2.1))/\ys.Pairwise (· <= ·)/\bS r.2.1 nx r.2.2 (fun _=>()) () r.1 1 ys.length (ys.map (XV.int .u64)))/\aq nx M r.2.1/\nx<=r.2.2:=by
 refine ar.wk 9 [.tmp 2] Tryz.func46 ?_;refine Pr ?_;refine gQ (SQ ρ j9 sQ RT hb (show box<nx+2 by omega) Z Z) ?_;rintro⟨u,M2,n2⟩ ⟨⟨ys,y1,y2⟩,g2,g3⟩;simp only at y2 g2 g3;have VX:ys.length<=1000:=by rw[y1.length_eq,length_map];exact few
 obtain⟨o1,o2,⟨rfl,o3⟩ | ⟨o3,K,rfl,K1,K2,K3,K4⟩⟩:=y2
 ·have hy0:ys=[]:=length_eq_zero_iff.1 o3
  refine Pr ?_;refine gQ (hN ρ _ _) ?_;rintro⟨u,M3,n3⟩ ⟨k1,k2,k3⟩;simp only at k1 k2 k3;subst k1;refine Pr ?_;exact⟨⟨ys,y1,by rw[hy0];exact .nil,⟨o1,o2,.inl ⟨rfl,o3⟩⟩⟩,(g2.le Z).trans (k2.le Z),Z⟩
 ·refine Pr ?_
  refine gQ (hS ρ _ _ K ys VX o3 Z K4) ?_;rintro⟨u,M3,n3⟩ ⟨k1,⟨zs,z1,z2,z3⟩,k2,k3⟩;simp only at k1 k2 k3 z3;subst k1;refine Pr ?_;have RV:zs.length=ys.length:=z1.length_eq;refine⟨⟨zs,z1.trans y1,z2,⟨Z,ae,.inr ⟨Z,K,by rw[RV],Z,Z,rfl,z3⟩⟩⟩,fun q hq=>(k2 q Z Z).trans (g2 q Z),Z⟩
theorem f47 (ρ:aK) (M:Hp) (nx rm:Nat):ar am ρ 47 [.mm rm] M nx fun r=>∃box,r.1 = .fn (.func 79) [] [.mp box 0]/\nx<=box/\box<r.2.2/\gG r.2.1 box=some (.row [.mm rm])/\aq nx M r.2.1/\nx<=r.2.2:=by
 refine ar.wk 4 [.tmp 2] Tryz.func47 ?_;refine dt Xz ?_;exact⟨nx,rfl,Z,Z,if_pos rfl,O,Z⟩
def Ev (M:Hp) (o:Nat):Prop:=∃rm c l,gG M o=some (.row [.mm rm])/\gG M rm=some (.map (cx vX l) c)/\kD l c/\l.length<=1000
theorem zb:∀{l l':List (Nat×Int×XV)},cx vX l=cx vX l'->l=l'
 | [],[],_=>rfl
 | [],_::_,h=>by simp[cx]at h
 | _::_,[],h=>by simp[cx]at h
 | (a,b,c)::l,(a',b',c')::l',h=>by
   simp only[cx,map_cons,List.cons.injEq,Prod.mk.injEq,XV.int.injEq,true_and,vX]at h;obtain⟨⟨h1,h2,h3⟩,h4⟩:=h;rw[h1,h2,h3,zb (l:=l) (l':=l') h4]
theorem yu {l:List (Nat×Int×XV)} (h:(l.map (·.2.1)).Nodup) (x:Int):x ∈ l.map (·.2.1) ↔ (aH l x).isSome=true:=by
 constructor
 ·intro hx
  obtain⟨e,he,rfl⟩:=mem_map.1 hx;rw[gH h e he];rfl
 ·intro hx
  obtain⟨v,hv⟩:=isSome_iff_exists.1 hx;obtain⟨b,hb⟩:=ju hv;exact mem_map.2 ⟨_,hb,rfl⟩
theorem ni (hS:kL) (hN:kJ) (ρ:aK) (j9:ρ.det=false) {b o:Nat} {f:Int->Option (List bO)} (h:ey M b o f) (hb:b<=nx) (h':Ev M o) :
 ar am ρ 15 [.mp o 0] M nx fun r=>(∃ys:List Int,(∀x,x ∈ ys ↔ (f x).isSome=true)/\ys.Nodup/\ys.Pairwise (· <= ·)/\ys.length<=1000/\bS r.2.1 nx r.2.2 (fun _=>()) () r.1 1 ys.length (ys.map (XV.int .u64)))/\aq nx M r.2.1/\nx<=r.2.2:=by
 obtain⟨ho,rm,c,l,h1,h2,h3,h4,h5⟩:=h;obtain⟨rm',c',l',q1,q2,q3,q4⟩:=h';rw[h1]at q1;simp only[Option.some.injEq,bx.row.injEq,List.cons.injEq,XV.mm.injEq,and_true]at q1;subst q1;rw[h3]at q2;simp only[Option.some.injEq,bx.map.injEq]at q2;obtain⟨q5,q6⟩:=q2;have q5:=zb q5;subst q5;subst q6;refine ar.wk 11 [.tmp 2] Tryz.func15 ?_;refine fM Oo h1 ?_;refine gQ (f47 ρ _ _ rm) ?_;rintro⟨u,M1,n1⟩ ⟨box,g1,g2,g3,g4,g5,g6⟩;simp only at g1 g3 g4 g5 g6;subst g1;refine dt Oo ?_;refine gQ (f46 hS hN ρ j9 g4 ((g5 rm Z).trans h3) q3 Z Z q4) ?_;rintro⟨u,M2,n2⟩ ⟨⟨ys,y1,y2,y3⟩,k2,k3⟩;simp only at y3 k2 k3;refine dt Oo ?_;have xo:(l.map (·.2.1)).Nodup:=q3.kd;refine⟨⟨ys,fun x=>?_,y1.nodup_iff.2 xo,y2,by rw[y1.length_eq,length_map];exact q4,?_⟩,(g5.le Z).trans (k2.le Z),Z⟩
 ·rw[y1.mem_iff,yu xo]
  cases hx:aH l x with
  | none=>rw[h4 x hx];simp
  | some v =>
    obtain⟨ins,h6,_⟩:=h5 x v hx;rw[h6];rfl
 ·obtain⟨o1,o2,o3 | ⟨o3,K,q1,K1,K2,K3,K4⟩⟩:=y3
  ·exact⟨o1,o2,.inl o3⟩
  ·exact⟨o1,o2,.inr ⟨o3,K,q1,Z,Z,K3,K4⟩⟩
end
end Go.Xs
namespace Go.Xs
open List Nat Option
noncomputable section
open Go.Proofs
def gf (S:HS) (m:fS):bO:=⟨m.w,m.n,(txR S m.t).1.n,(txR S m.t).1.e⟩
def mL (S:HS) (m:fS):Bool:=m.fin&&decide ((txR S m.t).1.s=1)
def dk (S:HS) (ms:List fS) (x:Int):List bO:=(ms.filter fun m=>decide (m.x=x)&&mL S m).map (gf S)
theorem Bx (S:HS) {ms:List fS} {i:Nat} {m:fS} (h:ms[i]?=some m) (x:Int):dk S (ms.take (i+1)) x=if x=m.x/\mL S m=true then dk S (ms.take i) x++[gf S m] else dk S (ms.take i) x:=by
 have:ms.take (i+1)=ms.take i++[m]:=by rw[take_add_one,h];rfl
 unfold dk;rw[this,filter_append,map_append];by_cases hc:x=m.x/\mL S m=true
 ·rw[if_pos hc]
  simp[hc.1,hc.2]
 ·rw[if_neg hc]
  have:(decide (m.x=x)&&mL S m)=false:=by
   rw[Bool.and_eq_false_iff];by_cases e:m.x=x
   ·right
    cases ho:mL S m with
    | false=>rfl
    | true=>exact(hc ⟨e.symm,ho⟩).elim
   ·left;simpa using e
  simp[this]
def Ci:Prop:=∀(ρ:aK) (M:Hp) (nx k:Nat) (l:List bO),l.length<=1000->0<l.length->k<nx->gG M k=some (.row (l.flatMap aV)) ->
 ar am ρ 39 [.sl k 4 0 l.length l.length,.fn (.func 40) [] []] M nx fun r=>r.1 = .tup []/\(∃l':List bO,l'.Perm l/\l'.Pairwise (fun a b=>a.wr<=b.wr)/\gG r.2.1 k=some (.row (l'.flatMap aV)))/\(∀j,j<nx->j≠k->gG r.2.1 j=gG M j)/\nx<=r.2.2
structure IR (S:HS) (M:Hp) (nx:Nat) (r:ew):Prop where
 post:∃(o:Nat) (F:Int->Option (List bO)),r.1 = .mp o 0/\ey r.2.1 r.2.2 o F/\Ev r.2.1 o/\(∀x,F x=none ↔ dk S S.mods x=[])/\(∀x l,F x=some l->l.Perm (dk S S.mods x)/\l.Pairwise (fun a b=>a.wr<=b.wr))/\aq nx M r.2.1/\nx<=r.2.2
theorem k9 (hI:Ci) (ρ:aK) (j9:ρ.det=false) {M:Hp} {nx lo hi h:Nat} {S:HS} (H:bX M lo hi h S) (hh:hi<=nx) (hn:By S) (few:S.mods.length<=1000) :
 ar am ρ 11 [.mp h 0] M nx (IR S M nx):=by
 refine ar.wk 95 [.tmp 2] Tryz.func11 ?_;refine dt oZ ?_;generalize xu:ci (ci M _ _) _ _=M1;have a1:aq nx M M1:=by rw[<-xu];exact O
 have z1:gG M1 (nx+5)=some (.row [.mm (nx+3)]):=by rw[<-xu];exact J
 have z2:gG M1 (nx+3)=some (.map [] 0):=by rw[<-xu];exact J
 clear xu;refine gQ (SS ρ (H.agr (a1.le hh)) Z Z) ?_;rintro⟨mv,M2,n2⟩ ⟨g1,g2,g3⟩;simp only at g1 g2 g3;have a2:aq nx M M2:=a1.trans (g2.le Z);have y1:=(g2 (nx+5) Z).trans z1;have y2:=(g2 (nx+3) Z).trans z2;have F2:∀N,kZ am N 64 mv=some ⟨.int .i64 (S.mods.length:Nat),[],[]⟩:=fun N=>(dN.lt (g1.keep (q:=(· < n2)) fun k hk=>⟨rfl,hk.2⟩)).len (P:=am) (t:=64) qP.2.2.2.2.2 N
 refine fM oZ F2 ?_;clear a1 z1 z2 g2;refine aC (fun m' s=>∃(i:Nat) (l:List (Nat×Int×XV)) (c:Nat) (tag:Nat->OT),i<=S.mods.length/\m'=S.mods.length - i/\gG s.env 0=some (.mp h 0)/\gG s.env 3=some (.mp (nx+5) 0)/\gG s.env 18=some mv/\gG s.env 19=some (.int .i64 (S.mods.length:Nat))/\gG s.env 20=some (.int .i64 i) /\
  oh s.M nx s.nx (nx+5) (nx+3) c l tag (dk S (S.mods.take i))/\l.length<=i/\dN s.M (fun k=>k<n2/\tag k = .none) mv 8 S.mods.length (S.mods.flatMap cO)/\aq nx M s.M/\n2<=s.nx)
  S.mods.length ⟨0,[],0,fun k=>if k=nx+5 then .ord else if k=nx+3 then .map else .none,Z,Z,?_⟩ ?_
 ·refine dt oZ ?_
  refine⟨?_,Nat.le_refl _,g1.keep fun k hk=>⟨rfl,hk.2,by rw[if_neg Z,if_neg Z]⟩,a2,Z⟩;exact { olo:=Z,ohi:=Z,otg:=if_pos rfl,orow:=y1,rlo:=Z,rhi:=Z,rtg:=by rw[if_neg Z,if_pos rfl],map:=y2,born:=AH 0,none:=fun x _=>by simp[dk],some:=fun x v hx=>by simp[aH]at hx }
 ·rintro m' ⟨env,M',nx'⟩ ⟨i,l,c,tag,hi',ir,e0,e3,vT,vU,FV,hO,hli,a9,ha,yZ⟩
  simp only at e0 e3 vT vU FV hO a9 ha yZ;by_cases aL:(i:Int)<S.mods.length
  ·have aP:i<S.mods.length:=Z
   obtain⟨m,hmi⟩:∃m,S.mods[i]?=some m:=⟨S.mods[i],by simp[aP]⟩;obtain⟨q,o,Oc,bC,aU⟩:=(dN.lt (a9.keep (q:=(· < n2)) fun k hk=>⟨rfl,hk.1⟩)).elem (P:=am) aP (t:=64) (t':=71) qP.2.2.2.1 LG.1;have aU:=aU M' (aq.refl _ _);rw[As _ _ _ hmi]at aU;simp only[cO]at aU;have bV:=eF i;have bw:=fun x=>Bx S hmi x
   refine wT oZ e0 e3 vT vU FV aL bC aU ?_;generalize oM:ci (ci M' _ _) _ _=M3;have a3:aq nx' M' M3:=by rw[<-oM];exact O
   have z3:gG M3 (nx'+3)=some (.row [.int .i64 m.pos,.int .u64 m.t,.int .u64 m.x,.int .u64 m.w,.int .u64 m.n,.int .u64 m.v,.bool m.dead,.bool m.fin]):=by rw[<-oM];exact J
   clear oM;refine lG (Tv ρ (H.agr ((ha.trans (a3.le Z)).le hh)) Z hn m.t) fun M4 n4 k2 k3=>?_
   have a4:aq nx' M' M4:=a3.trans (k2.le Z);have z4:=(k2 (nx'+3) Z).trans z3;obtain⟨tx,F9⟩:∃tx,tx=(txR S m.t).1:=⟨_,rfl⟩;simp only[<-F9,d_];have sOrd:∀{M5:Hp} {n5:Nat},mL S m=false->aq nx' M' M5->nx'<=n5->oh M5 nx n5 (nx+5) (nx+3) c l (fun k=>if k<nx' then tag k else .none) (dk S (S.mods.take (i+1))):=fun hc h1 h2=>by
    have:dk S (S.mods.take (i+1))=dk S (S.mods.take i):=funext fun x=>by rw[bw x,if_neg (by rw[hc];simp)]
    rw[this];exact(hO.agr h1).up h2 fun k hk=>if_pos hk
   by_cases DZ:mL S m=true
   ·have jY:=DZ
    unfold mL at jY;simp only[Bool.and_eq_true,decide_eq_true_eq,<-F9]at jY;obtain⟨vW,R5⟩:=jY;have yQ:=(a4 (nx+3) hO.rhi).trans hO.map;have D8:=(a4 (nx+5) hO.ohi).trans hO.orow;have UC:=hO.ohi;have Z6:=hO.rhi;cases jc:aH l m.x with
    | some v =>
      obtain⟨rk,sv,rfl,r1,r2,r3,r4,r5,o1,o2,o3⟩:=hO.some m.x v jc;rcases o3 with ⟨_,o3⟩ | ⟨o0,sk,rfl,q1,q2,q3,q4⟩
      ·exact(r5 (length_eq_zero_iff.1 o3)).elim
      have Gr:=(a4 rk r2).trans r4;have VQ:=(a4 sk q2).trans q4;have d1:=aZ r3 q3 ae;have d2:=aZ r3 hO.rtg ae;have d3:=aZ r3 hO.otg ae;have d4:=aZ q3 hO.rtg ae;have d5:=aZ q3 hO.otg ae;have hd:aw rk sk=False/\aw sk rk=False/\aw rk (nx+3)=False/\aw (nx+3) rk=False/\aw rk (nx+5)=False/\aw (nx+5) rk=False/\aw sk (nx+3)=False/\aw (nx+3) sk=False/\aw sk (nx+5)=False/\aw (nx+5) sk=False/\aw (nx+3) (nx+5)=False/\aw (nx+5) (nx+3)=False:=by simp only[aw,eq_iff_iff,iff_false];omega
      obtain⟨g,hg⟩:∃g,g=dk S (S.mods.take i) m.x:=⟨_,rfl⟩;rw[<-hg]at o0 o1 o2 Gr VQ;obtain⟨cs,dI⟩:∃cs,cs=g.flatMap aV:=⟨_,rfl⟩;rw[<-dI]at VQ;have cF:cs.length=g.length*4:=by rw[dI,hg];rw[hg]at o2;exact o2
      have kB:List.take (g.length*4) cs=cs:=take_of_length_le Z;have hgl:g.length<=1000:=by
       rw[hg];unfold dk;rw[length_map];refine Nat.le_trans (length_filter_le _ _) ?_;rw[length_take];omega
      have QL:dk S (S.mods.take (i+1))=fun y=>if y=m.x then g++[gf S m] else dk S (S.mods.take i) y:=funext fun y=>by
       rw[bw y];by_cases e:y=m.x
       ·subst e;rw[if_pos ⟨rfl,DZ⟩,if_pos rfl,<-hg]
       ·rw[if_neg (fun q=>e q.1),if_neg e]
      clear bw bC aU k2;refine yq oZ e0 e3 vT vU FV bV z4 vW R5 yQ (aI jc (aI D8 (aI Gr (aI VQ (aI hd (aI cF kB)))))) ?_;refine⟨by(repeat' apply an)<;>exact yj,S.mods.length - (i+1),Z,i+1,l,c,fun k=>if k=n4+42 then .sl m.x else if k<nx' then tag k else .none,Z,rfl,rfl,?_,Z,a9.keep fun k hk=>⟨?_,hk.1,?_⟩,fun k hk=>?_,Z⟩
      ·rw[QL]
       refine hO.set jc (fun k k1 k2 k3=>?_) (fun k hk=>by rw[if_neg Z,if_pos hk]) Z (sv':=.sl (n4+42) 4 0 (g.length+1) (g.length+1)) J ae ⟨aj,by simp[aV,fg (sz:=4) (f:=aV) (fun a=>rfl)];omega,.inr ⟨ae,n4+42,ae,Z,Z,if_pos rfl,?_⟩⟩
       ·have e1:k≠rk:=fun e=>k2 (by rw[e];exact r3)
        have e2:k≠sk:=fun e=>k3 (by rw[e];exact q3)
        have:=a4 k k1;exact J
       ·rw[flatMap_append,<-dI]
        simp only[flatMap_cons,flatMap_nil,append_nil,gf,aV,<-F9];exact J
      ·have e1:k≠rk:=fun e=>by have:=hk.2;rw[e,r3]at this;cases this
       have e2:k≠sk:=fun e=>by have:=hk.2;rw[e,q3]at this;cases this
       have:=a4 k Z;exact J
      ·show (if k=n4+42 then OT.sl m.x else if k<nx' then tag k else .none) = .none
       rw[if_neg Z,if_pos Z];exact hk.2
      ·have:=(ha.trans (a4.le Z)) k hk
       exact J
    | none =>
      have hd:aw (nx+3) (nx+5)=False/\aw (nx+5) (nx+3)=False:=by simp only[aw,eq_iff_iff,iff_false];omega
      have hf0:=hO.none m.x jc;have QL:dk S (S.mods.take (i+1))=fun y=>if y=m.x then [gf S m] else dk S (S.mods.take i) y:=funext fun y=>by
       rw[bw y];by_cases e:y=m.x
       ·subst e;rw[if_pos ⟨rfl,DZ⟩,if_pos rfl,hf0];rfl
       ·rw[if_neg (fun q=>e q.1),if_neg e]
      clear bw bC aU k2;refine yq oZ e0 e3 vT vU FV bV z4 vW R5 yQ (aI jc (aI D8 hd)) ?_;refine⟨by(repeat' apply an)<;>exact yj,S.mods.length - (i+1),Z,i+1,dD l c m.x (.mp (n4+29) 0),l8 l c m.x,fun k=>if k=n4+53 then .sl m.x else if k=n4+29 then .row m.x else if k<nx' then tag k else .none,Z,rfl,rfl,?_,by rw[qo _ _ _ _ jc];simp;omega,a9.keep fun k hk=>⟨?_,hk.1,?_⟩,(by(repeat (refine aq.set ?_ Z _));exact ha.trans (a4.le Z)),Z⟩
      ·rw[QL]
       refine hO.add jc (fun k k1 k2=>?_) (fun k hk=>by rw[if_neg Z,if_neg Z,if_pos hk]) Z J Z Z (by rw[if_neg Z,if_pos rfl]) (sv':=.sl (n4+53) 4 0 1 1) J ae ⟨ae,by simp[aV],.inr ⟨ae,n4+53,ae,Z,Z,if_pos rfl,?_⟩⟩
       ·have:=a4 k k1
        exact J
       ·simp only[flatMap_cons,flatMap_nil,append_nil,gf,aV,<-F9]
        exact J
      ·have e1:k≠nx+3:=fun e=>by have:=hk.2;rw[e,hO.rtg]at this;cases this
       have:=a4 k Z;exact J
      ·show (if k=n4+53 then OT.sl m.x else if k=n4+29 then .row m.x else if k<nx' then tag k else .none) = .none
       rw[if_neg Z,if_neg Z,if_pos Z];exact hk.2
   ·have Y9:mL S m=false:=by simpa using DZ
    have Mq:=Y9;unfold mL at Mq;rw[<-F9]at Mq;cases vW:m.fin with
    | false =>
      refine wT oZ e0 e3 vT vU FV z4 vW bV ?_;refine⟨S.mods.length - (i+1),Z,i+1,l,c,fun k=>if k<nx' then tag k else .none,Z,rfl,rfl,sOrd Y9 (by(repeat (refine aq.set ?_ Z _));exact a4) Z,Z,a9.keep fun k hk=>⟨?_,hk.1,?_⟩,(by(repeat (refine aq.set ?_ Z _));exact ha.trans (a4.le Z)),Z⟩
      ·have:=a4 k Z
       exact J
      ·show (if k<nx' then tag k else OT.none) = .none
       rw[if_pos Z];exact hk.2
    | true =>
      have R5:¬ tx.s=1:=by rw[vW]at Mq;simpa using Mq
      refine rf oZ e0 e3 vT vU FV z4 vW R5 bV ?_;refine⟨S.mods.length - (i+1),Z,i+1,l,c,fun k=>if k<nx' then tag k else .none,Z,rfl,rfl,sOrd Y9 (by(repeat (refine aq.set ?_ Z _));exact a4) Z,Z,a9.keep fun k hk=>⟨?_,hk.1,?_⟩,(by(repeat (refine aq.set ?_ Z _));exact ha.trans (a4.le Z)),Z⟩
      ·have:=a4 k Z
       exact J
      ·show (if k<nx' then tag k else OT.none) = .none
       rw[if_pos Z];exact hk.2
  ·have uT:S.mods.take i=S.mods:=take_of_length_le Z
   rw[uT]at hO;have yQ:=hO.map;have D8:=hO.orow;have UC:=hO.ohi;have Z6:=hO.rhi;have qz:l.length<=1000:=Z;have f3:=e3;clear a9 hli H F2 y1 y2 g1;refine yq oZ e0 e3 vT vU FV aL D8 yQ @s6 @pP (aI @tf Cp.2.2.2.2) ?_;obtain⟨it,JV⟩:∃it,it=nx'+5:=⟨_,rfl⟩;rw[<-JV];refine aC (fun m4 s=>∃(seen:List Nat) (st:Nat) (g:Int->List bO),m4=(l.filter fun e=>decide (e.1 ∉ seen)).length/\gG s.env 3=some (.mp (nx+5) 0)/\gG s.env 83=some (.mp it 0)/\gG s.M it=some (.iter (some (nx+3)) c seen st)/\c<=st /\
    oh s.M nx nx' (nx+5) (nx+3) c l tag g/\(∀x,(g x).Perm (dk S S.mods x))/\(∀e ∈ l,e.1 ∈ seen->(g e.2.1).Pairwise (fun a b=>a.wr<=b.wr))/\aq nx M s.M/\it<s.nx)
    _ ⟨[],c,dk S S.mods,rfl,?_⟩ ?_
   ·refine dt oZ ?_
    refine⟨f3,Nat.le_refl _,hO.agr ((aq.refl _ _).set Z _),fun x=>.refl _,fun e he hs=>by simp at hs,(by(repeat (refine aq.set ?_ Z _));exact ha),Z⟩
   ·rintro m4 ⟨Yq,M4,n4⟩ ⟨seen,st,g,VH,Vp,TU,JB,bw,AQ,RS,Ob,Y4,QX⟩
    simp only at Vp TU JB AQ Y4 QX;refine gk oZ @TU @qv ?_;refine Cf j9 JB AQ.map AQ.born.lt bw (Nat.le_refl _) ?_ ?_
    ·intro dy
     have D9:IR S M nx (.mp (nx+5) 0,M4,n4+4):=by
      refine⟨nx+5,fun x=>if (aH l x).isSome then some (g x) else none,rfl,⟨ak,nx+3,c,l,AQ.orow,ak,AQ.map,fun x hx=>by simp[hx],fun x v hx=>⟨g x,by simp[hx],?_⟩⟩,⟨nx+3,c,l,AQ.orow,AQ.map,AQ.born,qz⟩,fun x=>?_,fun x l' hx=>?_,Y4,ak⟩
      ·obtain⟨rk,sv,h1,h2,h3,h4,h5,h6,h7⟩:=AQ.some x v hx
       exact⟨rk,sv,h1,ak,h5,h7.sl.up ak⟩
      ·cases hx:aH l x with
       | none =>
         have:=hO.none x hx;simp[this,hx]
       | some v =>
         obtain⟨rk,sv,h1,h2,h3,h4,h5,h6,h7⟩:=hO.some x v hx;simp[h6,hx]
      ·cases hl:aH l x with
       | none=>simp[hl]at hx
       | some v =>
         simp only[hl,isSome_some,if_true,Option.some.injEq]at hx;subst hx;obtain⟨b',rA⟩:=ju hl;exact⟨RS x,Ob _ rA (dy _ rA)⟩
     clear dy Ob RS;refine Ao oZ Vp @TU ?_;exact D9
    ·intro e he y7
     obtain⟨rk,sv,hv,r1,r2,r3,r4,r5,r6⟩:=AQ.some e.2.1 e.2.2 (gH AQ.born.kd e he);obtain⟨o1,o2,⟨_,o3⟩ | ⟨o0,sk,rfl,q1,q2,q3,q4⟩⟩:=r6
     ·exact(r5 (length_eq_zero_iff.1 o3)).elim
     have hgl:(g e.2.1).length<=1000:=by
      rw[(RS e.2.1).length_eq];unfold dk;rw[length_map];exact Nat.le_trans (length_filter_le _ _) few
     have d1:=aZ r3 q3 ae;generalize mR:ci M4 it _=M5;have Jx:i7 M5 (.mp it 0)=some ⟨.tup [.int .u64 e.2.1,.mp rk 0],[it,nx+3],[]⟩:=by
      rw[<-hv];have hmp:=AQ.map;exact rj (vf:=vX) (l:=l) (by rw[<-mR];exact J) (by rw[<-mR];exact J) AQ.born.nd he
     have w1:gG M5 rk=some (.row [.sl sk 4 0 (g e.2.1).length (g e.2.1).length]):=by rw[<-mR];exact J
     have w2:gG M5 sk=some (.row ((g e.2.1).flatMap aV)):=by rw[<-mR];exact J
     have w3:gG M5 it=some (.iter (some (nx+3)) c (seen++[e.1]) c):=by rw[<-mR];exact J
     have a5:aq nx' M4 M5:=by rw[<-mR];exact O
     have dW:=hI ρ M5 (n4+10) sk (g e.2.1) hgl o0 Z w2;have oP:=hv;clear mR hv r4 q4;refine ul oZ Vp @TU @yA Jx w1 ?_;refine gQ dW ?_;rintro⟨u,M6,n6⟩ ⟨k1,⟨l',p1,p2,p3⟩,k2,k3⟩;simp only at k1 p3 k2 k3;subst k1;have old:∀k,k<nx'->k≠sk->gG M6 k=gG M4 k:=fun k h1 h2=>(k2 k Z h2).trans (a5 k h1)
     have Ut:l'.length=(g e.2.1).length:=p1.length_eq;have cf:l'≠[]:=fun q=>by rw[q]at Ut;simp only[length_nil]at Ut;omega
     have hO6:oh M6 nx nx' (nx+5) (nx+3) c l tag (fun y=>if y=e.2.1 then l' else g y):=by
      have jc:=gH AQ.born.kd e he;rw[oP]at jc;refine AQ.set jc (fun k h1 h2 h3=>old k h1 fun q=>h3 (by rw[q];exact q3)) (fun k _=>rfl) (Nat.le_refl _) ((k2 rk Z d1).trans w1) cf ⟨Z,by rw[fg (sz:=4) (f:=aV) (fun a=>rfl)],.inr ⟨Z,sk,by rw[Ut],q1,q2,q3,p3⟩⟩
     have hw6:=(k2 it Z Z).trans w3;have hG6:aq nx M M6:=fun k hk=>(old k Z Z).trans (Y4 k hk)
     have Z1:∀x,(if x=e.2.1 then l' else g x).Perm (dk S S.mods x):=fun x=>by
      by_cases q:x=e.2.1
      ·rw[if_pos q,q];exact p1.trans (RS _)
      ·rw[if_neg q];exact RS x
     have Z3:∀e' ∈ l,e'.1 ∈ seen++[e.1]->(if e'.2.1=e.2.1 then l' else g e'.2.1).Pairwise (fun a b=>a.wr<=b.wr):=fun e' D1 hs=>by
      by_cases q:e'.2.1=e.2.1
      ·rw[if_pos q];exact p2
      ·rw[if_neg q]
       rcases mem_append.1 hs with hs | hs
       ·exact Ob e' D1 hs
       ·rw[mem_singleton]at hs
        exact(q (by rw[o8 AQ.born.nd D1 he hs])).elim
     have F3:(l.filter fun e'=>decide (e'.1 ∉ seen++[e.1])).length<m4:=by rw[VH];exact t_ y7 he
     clear RS Ob old AQ y7 VH k2;refine Ao oZ Vp @TU ?_;exact⟨_,F3,seen++[e.1],c,_,rfl,hw6,Nat.le_refl _,hO6,Z1,Z3,hG6,Z⟩
end
end Go.Xs
namespace Go.Xs
open List Nat Option
variable{M M':Hp}{P:Program}{after:Array Edge}{env:eX}{i k n nx:Nat}{pos:String}{ty:TypeId}{ρ:aK}
noncomputable section
open Go.Proofs Go.Sort
instance insInh:Inhabited bO:=⟨⟨0,0,0,0⟩⟩
def cL (a b:bO):Bool:=decide (a.wr<b.wr)
theorem Fv:SWO ltInt:=⟨fun x=>by simp[ltInt],fun x y z h1 h2=>by simp only[ltInt,decide_eq_true_eq]at *;omega,fun x y z h1 h2=>by simp only[ltInt,decide_eq_false_iff_not]at *;omega⟩
theorem Fx:SWO cL:=⟨fun x=>by simp[cL],fun x y z h1 h2=>by simp only[cL,decide_eq_true_eq]at *;omega,fun x y z h1 h2=>by simp only[cL,decide_eq_false_iff_not]at *;omega⟩
def dQ (d:Array Int):bx:=.row (d.toList.map (XV.int .u64))
def dT (d:Array bO):bx:=.row (d.toList.flatMap aV)
def bK (nx k:Nat) (M M':Hp):Prop:=∀j,j<nx->j≠k->gG M' j=gG M j
theorem bK.refl (nx k:Nat) (M:Hp):bK nx k M M:=fun _ _ _=>rfl
theorem bK.trans {nx':Nat} {M'':Hp} (h:bK nx k M M') (h':bK nx' k M' M'') (hn:nx<=nx'):bK nx k M M'':=fun j hj hk=>(h' j Z hk).trans (h j hj hk)
theorem bK.set (h:bK nx k M M') (o:bx):bK nx k M (ci M' k o):=fun j hj hk=>by
 rw[ao,if_neg (fun e:k=j=>hk e.symm)];exact h j hj hk
theorem bK.agr {nx':Nat} {M'':Hp} (h:bK nx k M M') (h':aq nx' M' M'') (hn:nx<=nx'):bK nx k M M'':=fun j hj hk=>(h' j Z).trans (h j hj hk)
theorem bK.new {j:Nat} (h:bK nx k M M') (hj:nx<=j) (o:bx):bK nx k M (ci M' j o):=fun i hi hk=>by
 rw[ao,if_neg Z];exact h i hi hk
structure qe (k n:Nat) (sv:XV) (off:Nat->Nat):Prop where
 ix:∀i,i<n->∀kd,br am 44 sv (.int kd (i:Int))=some (.mp k (off i))
 ld:∀M (d:Array Int),gG M k=some (dQ d)->d.size=n->∀i,i<n->b_ am M 23 (.mp k (off i))=some ⟨.int .u64 d[i]!,[k],[]⟩
 st:∀M (d:Array Int),gG M k=some (dQ d)->d.size=n->∀i,i<n->∀x,jG am M 23 (.int .u64 x) (.mp k (off i))=some ⟨.udf,[k],[(k,some (dQ (d.setIfInBounds i x)))]⟩
structure pW (k n:Nat) (sv:XV) (off:Nat->Nat):Prop where
 ix:∀i,i<n->∀kd,br am 100 sv (.int kd (i:Int))=some (.mp k (off i))
 ld:∀M (d:Array bO),gG M k=some (dT d)->d.size=n->∀i,i<n->b_ am M 106 (.mp k (off i))=some ⟨.agg (aV d[i]!),[k],[]⟩
 st:∀M (d:Array bO),gG M k=some (dT d)->d.size=n->∀i,i<n->∀x,jG am M 106 (.agg (aV x)) (.mp k (off i))=some ⟨.udf,[k],[(k,some (dT (d.setIfInBounds i x)))]⟩
theorem X4 (k n:Nat):qe k n (.sl k 1 0 n n) fun i=>i:=by
 have e23:sa am 23=some (1,false):=bi.1;refine⟨fun i hi kd=>?_,fun M d hM hn i hi=>?_,fun M d hM hn i hi x=>?_⟩
 ·rw[cy,fu.2.2.2.1,ev _ _ _ _ _ Z Z];simp
 ·refine dB (cs:=d.toList.map (XV.int .u64)) (by simp only[vR,hM,dQ]) bi.1 ?_
  rw[getElem?_map,Array.getElem?_toList,getElem!_pos d i Z,Array.getElem?_eq_getElem Z];rfl
 ·have h3:bp (d.toList.map (XV.int .u64)) i [XV.int .u64 x]=(d.setIfInBounds i x).toList.map (XV.int .u64):=by
   rw[fa _ _ _ aj,Array.toList_setIfInBounds,set_eq_take_append_cons_drop,if_pos aj];simp[List.map_take,map_drop]
  simp only[uq,bi.2.1,hM,dQ];rw[xr k i 1 (.int .u64 x) _ rfl (by rw[length_map,Array.length_toList];omega) rfl,<-h3];rfl
theorem sn (l:List bO):(l.flatMap aV).length=l.length*4:=by
 induction l with
 | nil=>rfl
 | cons a l ih=>simp only[flatMap_cons,length_append,ih,length_cons];simp only[aV,length_cons,length_nil];omega
theorem ql (l:List bO) (i:Nat):(l.flatMap aV).drop (i*4)=(l.drop i).flatMap aV:=by
 induction l generalizing i with
 | nil=>simp
 | cons a l ih =>
   cases i with
   | zero=>simp
   | succ i =>
     rw[flatMap_cons,show (i+1)*4=(aV a).length+i*4 by simp[aV];omega,drop_length_add_append,ih];rfl
theorem xp (l:List bO) (i:Nat):(l.flatMap aV).take (i*4)=(l.take i).flatMap aV:=by
 induction l generalizing i with
 | nil=>simp
 | cons a l ih =>
   cases i with
   | zero=>simp
   | succ i =>
     rw[flatMap_cons,show (i+1)*4=(aV a).length+i*4 by simp[aV];omega,take_length_add_append,ih];rfl
theorem Yj (k n:Nat):pW k n (.sl k 4 0 n n) fun i=>i*4:=by
 refine⟨fun i hi kd=>?_,fun M d hM hn i hi=>?_,fun M d hM hn i hi x=>?_⟩
 ·rw[cy,cU.2.2.2.1,ev _ _ _ _ _ Z Z];simp
 ·have hl:=sn d.toList
  rw[fG (cs:=d.toList.flatMap aV) (by simp only[vR,hM,dT]) gZ.1 (by rw[hl];simp;omega)];have e:d.toList.drop i=d[i]! :: d.toList.drop (i+1):=by
   rw[drop_eq_getElem_cons aj,getElem!_pos d i Z];rfl
  rw[ql,e];rfl
 ·have hl:=sn d.toList
  have h3:bp (d.toList.flatMap aV) (i*4) (aV x)=(d.setIfInBounds i x).toList.flatMap aV:=by
   rw[fa _ _ _ (by rw[hl];simp[aV];omega),Array.toList_setIfInBounds,set_eq_take_append_cons_drop,if_pos aj,xp];simp only[flatMap_append,flatMap_cons];rw[<-ql];simp only[aV,length_cons,length_nil];rw[show (i+1)*4=i*4+(0+1+1+1+1) by omega]
  simp only[uq,gZ.2.1,hM,dT];rw[xr k (i*4) 4 (.agg (aV x)) _ (by simp[dY,aV]) (by rw[hl];simp;omega) (by simp[dY,aV,ax]),<-h3];rfl
theorem O8 (n:Nat):Cl n (.nil:Hp):=fun k o h=>by
 rw[show gG (.nil:Hp) k=none from rfl]at h;cases h
theorem bN.pure {g:Nat} {args:List XV} {v:XV} (ha:aE nx args=true) (hv:aO nx v=true) (h:∀N,ar P ρ g args N nx (fe nx N v)):bN P ρ g args M nx ⟨v,[],[]⟩ nx :=
 ⟨ha,rfl,(fun k hk=>by cases hk),Nat.le_refl _,(h _).1.forget (O8 nx) hv⟩
theorem bF {all os:List Oper} {log:jg} {G:XS->jg->Prop} {d:Option Nat} {c:Call} {g:Nat×Bool} (hg:a_ all env (some g)=some true) (hp:eV (.call c)=false) (h:CD P ρ n all os i env M nx log d G (ca env c)) :
 RD P ρ n all (⟨d,.call c,ty,pos,after,some g⟩::os) i ⟨env,M,nx⟩ log G:=by
 have h0:=(Dd (ty:=ty) (pos:=pos) (after:=after) hp).mpr h;unfold RD at h0 ⊢;simp only[a_]at h0;simp only[hg];exact h0
theorem cA {all os:List Oper} {log:jg} {G:XS->jg->Prop} {d:Nat} {op:Op} {g:Nat×Bool} (hg:a_ all env (some g)=some false) (hd:d<n) (h:RD P ρ n all os (i+1) ⟨ci env d .udf,M,nx⟩ log G) :
 RD P ρ n all (⟨some d,op,ty,pos,after,some g⟩::os) i ⟨env,M,nx⟩ log G:=by
 have hb:Nat.blt d n=true:=by rw[blt_eq];exact hd
 unfold RD;simp only[hg];exact⟨_,by simp only[cu,hb],h⟩
structure Is {α:Type} (x y:α):Prop where
 eq:x=y
theorem XK (ρ:aK) (M:Hp) (nx:Nat) (x:Int):ar am ρ 216 [.int .u64 x] M nx (fe nx M (.bool false)):=by
 refine ar.wk 6 [.tmp 2] Tryz.func216 ?_;refine fM XM @fe.eq_1 ?_;exact⟨aq.refl _ _,Z⟩
theorem mH (ρ:aK) (M:Hp) (nx:Nat) (x y:Int):ar am ρ 150 [.int .u64 x,.int .u64 y] M nx (fe nx M (.bool (ltInt x y))):=by
 refine ar.wk 17 [.tmp 4] Tryz.func150 ?_;refine dt Ss ?_;refine lG (XK ρ _ _ x) fun M1 n1 g2 g3=>?_
 refine fM Ss @fe.eq_1 ?_;exact⟨rfl,g2.le Z,Z⟩
theorem f70 (ρ:aK) (M:Hp) (nx:Nat) (x:Int):ar am ρ 70 [.int .i64 x] M nx (fe nx M (.bool false)):=by
 refine ar.wk 6 [.tmp 2] Tryz.func70 ?_;refine fM Pt @fe.eq_1 ?_;exact⟨aq.refl _ _,Z⟩
def xD (x y:Int):Int:=if x<y then -1 else if y<x then 1 else 0
theorem f41 (ρ:aK) (M:Hp) (nx:Nat) (x y:Int):ar am ρ 41 [.int .i64 x,.int .i64 y] M nx (fe nx M (.int .i64 (xD x y))):=by
 refine ar.wk 20 [.tmp 4] Tryz.func41 ?_;refine dt Pt ?_;refine lG (f70 ρ _ _ x) fun M1 n1 g2 g3=>?_
 refine dt Pt ?_;refine lG (f70 ρ _ _ y) fun M2 n2 k2 k3=>?_
 have a2:aq nx M M2:=(g2.le Z).trans (k2.le Z);have n2:nx<=n2:=Z;by_cases h1:x<y
 ·refine jz Pt h1 @fe.eq_1 @xD.eq_1 ?_
  exact⟨a2,Z⟩
 ·by_cases h2:y<x
  ·refine lO Pt h1 h2 @fe.eq_1 @xD.eq_1 ?_
   exact⟨a2,Z⟩
  ·refine lO Pt h1 h2 @fe.eq_1 @xD.eq_1 ?_
   exact⟨a2,Z⟩
theorem yW (ρ:aK) (M:Hp) (nx:Nat) (a b:bO):ar am ρ 40 [.agg (aV a),.agg (aV b)] M nx (fe nx M (.int .i64 (xD a.wr b.wr))):=by
 refine ar.wk 10 [.tmp 4] Tryz.func40 ?_;refine fM P0 @aV.eq_1 ?_;refine lG (f41 ρ _ _ a.wr b.wr) fun M1 n1 g2 g3=>?_
 refine fM P0 @fe.eq_1 ?_;exact⟨(fun j hj=>(g2 j Z).trans J),Z⟩
end
end Go.Xs
namespace Go.Xs
open List Nat Option
variable{M M':Hp}{P:Program}{Q:bg->XS->Prop}{b i j n nx:Nat}{fs:List Fr}{s:XS}{α:Type}{ρ:aK}
noncomputable section
open Go.Proofs Go.Sort
theorem dK {x y:Nat} (h:x+y<=100000):IntKind.i64.wrap ((x:Int)+(y:Int))=((x+y:Nat):Int):=by rw[wrap_i64 Z Z];omega
theorem bu {x:Nat} (h:x<=100000):IntKind.i64.wrap ((x:Int)+1)=((x+1:Nat):Int):=by rw[wrap_i64 Z Z];omega
theorem dO {x y:Nat} (h:x<=100000) (hy:y<=x):IntKind.i64.wrap ((x:Int) - (y:Int))=((x - y:Nat):Int):=by rw[wrap_i64 Z Z];omega
theorem cN {x:Nat} (h:x<=100000) (hy:1<=x):IntKind.i64.wrap ((x:Int) - 1)=((x - 1:Nat):Int):=by rw[wrap_i64 Z Z];omega
theorem fQ {x:Nat} (h:x<=100000):IntKind.i64.wrap (((x+1:Nat):Int) - 1)=(x:Int):=by rw[wrap_i64 Z Z];omega
theorem eK {a b:bO} (h:cL a b=true):xD a.wr b.wr<0:=by
 simp only[cL,decide_eq_true_eq]at h;rw[xD,if_pos h];decide
theorem eQ {a b:bO} (h:cL a b=false):¬ xD a.wr b.wr<0:=by
 simp only[cL,decide_eq_false_iff_not]at h;rw[xD,if_neg h];split<;>decide
theorem iD [Inhabited α] {lt:α->α->Bool} (hi first root n:Nat) {d:Array α} (h:d.size=n):(siftDown lt hi first root d).size=n:=by
 induction root,d using siftDown.induct (lt:=lt) hi first with
 | case1 r d h1=>rw[siftDown,dif_pos h1];exact h
 | case2 r d h1 h2 h3=>rw[siftDown,dif_neg h1,if_pos h2,if_pos h3];exact h
 | case3 r d h1 h2 h3 h4 ih=>rw[siftDown,dif_neg h1,if_pos h2,if_neg h3,dif_pos h4];exact ih (by rw[swp_size];exact h)
 | case4 r d h1 h2 h3 h4=>rw[siftDown,dif_neg h1,if_pos h2,if_neg h3,dif_neg h4];exact h
 | case5 r d h1 h2 h3=>rw[siftDown,dif_neg h1,if_neg h2,if_pos h3];exact h
 | case6 r d h1 h2 h3 ih=>rw[siftDown,dif_neg h1,if_neg h2,if_neg h3];exact ih (by rw[swp_size];exact h)
def O2 (nx p:Nat) (M:Hp) (lo up:Nat) (r:ew):Prop:=∃(a b:Nat) (s:Int),r.1 = .tup [.int .i64 a,.int .i64 b]/\(lo<=a/\a<up/\lo<=b/\b<up)/\gG r.2.1 p=some (.row [.int .i64 s])/\bK nx p M r.2.1/\nx<=r.2.2
def O1 (nx p:Nat) (M:Hp) (lo up:Nat) (r:ew):Prop:=∃(a:Nat) (s:Int),r.1 = .int .i64 a/\(lo<=a/\a<up)/\gG r.2.1 p=some (.row [.int .i64 s])/\bK nx p M r.2.1/\nx<=r.2.2
def ot (nx:Nat) (M:Hp) (a b:Nat) (r:ew):Prop:=∃(p:Nat) (h:Int),r.1 = .tup [.int .i64 p,.int .i64 h]/\(a<=p/\p<b)/\aq nx M r.2.1/\nx<=r.2.2
theorem bK.get {p k:Nat} {o:Option bx} (h:bK nx p M M') (hk:k<nx) (hp:k<p) (e:gG M k=o):gG M' k=o:=(h k hk Z).trans e
theorem bK.below {p n0:Nat} (h:bK nx p M M') (h0:n0<=nx) (hp:n0<=p):aq n0 M M':=fun j hj=>h j Z Z
theorem bB {id:Nat} {c:Code} (I:Nat->XS->Prop) (k:Nat) (bz:XS->Prop) (h0:I k s)
 (h:∀k s',I k s'->W P ρ n c [.lp I k,.bk id] (fun e s=>e = .normal/\bz s) s') (cont:∀s,bz s->T P ρ n fs Q .normal s):W P ρ n (.loop c) (.bk id::fs) Q s:=by
 have h1:W P ρ n (.loop c) [.bk id] (fun e s=>e = .normal/\bz s) s:=aC I k h0 h;refine cC _ _ _ _ (fun e s hk=>?_) h1;have hk:Cj id e = .normal/\bz s:=hk;have:=cont s hk.2;show pK P ρ n fs Q (Cj id e) s;rw[hk.1];exact this
def Rq {α:Type} [Inhabited α] (p:α->Bool) (d:Array α) (i j i' m:Nat):Prop:=i<=i'/\i'<=j+1/\m=j+1 - i'/\scanUp p d j i'=scanUp p d j i
def Rw {α:Type} [Inhabited α] (p:α->Bool) (d:Array α) (i j j' m:Nat):Prop:=i<=j'+1/\j'<=j/\m=j'/\scanDown p d i j'=scanDown p d i j
theorem gj [Inhabited α] {p:α->Bool} {d:Array α} (h:i<=j) (hp:p d[i]! = true):scanUp p d j i=scanUp p d j (i+1):=by rw[scanUp,if_pos (by simp[h,hp])]
theorem cM [Inhabited α] {p:α->Bool} {d:Array α} (h:¬ i<=j\/p d[i]! = false):scanUp p d j i=i:=by
 rw[scanUp,if_neg];rcases h with h | h
 ·simp[h]
 ·simp[h]
theorem eG [Inhabited α] {p:α->Bool} {d:Array α} (h:i<=j+1) (hp:p d[j+1]! = true):scanDown p d i (j+1)=scanDown p d i j:=by rw[scanDown,if_pos (by simp[h,hp])]
theorem bY [Inhabited α] {p:α->Bool} {d:Array α} (h:¬ i<=j\/p d[j]! = false):scanDown p d i j=j:=by
 cases j with
 | zero=>rfl
 | succ j =>
   rw[scanDown,if_neg];rcases h with h | h
   ·simp[h]
   ·simp[h]
theorem xe [Inhabited α] {p q:α->Bool} (hq:∀x,q x = !p x) {d:Array α} {i2 j2:Nat} (h1:1<=i) (eS:i<=j+1) (bD:i2=scanUp p d j i) (f_:j2=scanDown q d i2 j) :
 i<=i2/\i2<=j+1/\j2<=j/\i2<=j2+1/\(i2<=j2->i2<j2):=by
 obtain⟨u1,u2,u3,u4⟩:=scanUp_spec p d j _ i rfl;obtain⟨v1,v2,v3,v4⟩:=scanDown_spec q d i2 j;rw[<-bD]at u1 u2 u3 u4;rw[<-f_]at v1 v2 v3 v4;have hu:=u2 eS;refine⟨u1,hu,v1,v2 hu,fun h=>?_⟩;have f1:=u4 Z;have f2:=v4 h Z;rw[hq]at f2;rcases Nat.lt_or_ge i2 j2 with h' | h'
 ·exact h'
 ·have e:i2=j2:=Z
  rw[<-e,f1]at f2;cases f2
theorem Nc {c:Code} (Pre:XS->Prop) (h0:Pre s) (h:∀s,Pre s->W P ρ n c fs Q s):W P ρ n c fs Q s:=h s h0
def ScS {α:Type} [Inhabited α] (lt:α->α->Bool) (d:Array α) (b i i' m:Nat):Prop:=i<=i'/\i'<=b/\m=b - i'/\scanSorted lt d b i'=scanSorted lt d b i
theorem iU [Inhabited α] {lt:α->α->Bool} {d:Array α} (h:i<b) (hp:lt d[i]! d[i - 1]! = false):scanSorted lt d b i=scanSorted lt d b (i+1):=by rw[scanSorted,if_pos (by simp[h,hp])]
theorem dC [Inhabited α] {lt:α->α->Bool} {d:Array α} (h:¬ i<b\/lt d[i]! d[i - 1]! = true):scanSorted lt d b i=i:=by
 rw[scanSorted,if_neg];rcases h with h | h
 ·simp[h]
 ·simp[h]
theorem oE [Inhabited α] (lt:α->α->Bool) (d:Array α) (b:Nat):∀(m i:Nat),b - i=m->i<=b->i<=scanSorted lt d b i/\scanSorted lt d b i<=b:=by
 intro m
 induction m with
 | zero=>intro i h hi;rw[dC (.inl Z)];omega
 | succ m ih =>
   intro i h hi;by_cases hp:lt d[i]! d[i - 1]! = true
   ·rw[dC (.inr hp)];omega
   ·rw[iU Z (by simpa using hp)]
    have:=ih (i+1) Z Z;omega
def Vi {α:Type} [Inhabited α] (lt:α->α->Bool) (n i:Nat) (d3:Array α) (j m:Nat) (d':Array α):Prop:=j<i/\m=j/\d'.size=n/\shiftDown lt j d'=d3
def Vj {α:Type} [Inhabited α] (lt:α->α->Bool) (n b i:Nat) (d4:Array α) (j m:Nat) (d':Array α):Prop:=i<j/\j<=b/\m=b - j/\d'.size=n/\shiftUp lt b j d'=d4
theorem jO {α:Type} [Inhabited α] (lt:α->α->Bool) {n:Nat}:∀(j:Nat) (d:Array α),d.size=n->(shiftDown lt j d).size=n
 | 0,d,h=>h
 | j+1,d,h=>by
   unfold shiftDown;split
   ·exact h
   ·exact jO lt j _ (by rw[swp_size];exact h)
theorem qf [Inhabited α] (lt:α->α->Bool) (b:Nat):∀(m j:Nat) (d:Array α),b - j=m->d.size=n->(shiftUp lt b j d).size=n:=by
 intro m
 induction m with
 | zero=>intro j d hm h;rw[shiftUp,if_neg Z];exact h
 | succ m ih =>
   intro j d hm h;rw[shiftUp,if_pos Z];split
   ·exact h
   ·exact ih _ _ Z (by rw[swp_size];exact h)
theorem jv [Inhabited α] {lt:α->α->Bool} {d:Array α} (h:j<b) (hq:lt d[j]! d[j - 1]! = true):shiftUp lt b j d=shiftUp lt b (j+1) (swp d j (j - 1)):=by
 rw[shiftUp,if_pos h,hq];rfl
end
end Go.Xs
namespace Go.Xs
open List Nat Option
variable{K Q:bg->XS->Prop}{P:Program}{fs:List Fr}{n:Nat}{s:XS}{ρ:aK}
noncomputable section
open Go.Proofs Go.Sort
def o6:List Nat:=(List.range 256).map bitsLen
theorem aan (x:Nat) (hx:x<256):nf am 9 (.str o6) (.int .u8 (x:Int))=some (.int .u8 (bitsLen x:Nat)):=by
 have hu:am.underlying 9=some .string:=U;have hl:o6.length=256:=by simp[o6]
 unfold nf;simp only[hu];rw[oY Z (by rw[hl];omega)];have:o6[(x:Int).toNat]?=some (bitsLen x):=by simp[o6,hx]
 simp only[this]
theorem t8:∀x:Nat,x<1001->bitsLen x<=10:=by
 have h:((List.range 1001).all fun x=>decide (bitsLen x<=10))=true:=U;intro x hx;rw[List.all_eq_true]at h;simpa using h x (mem_range.2 hx)
theorem su:∀x:Nat,x<1001->256<=x->bitsLen x=8+bitsLen (x / 256):=by
 have h:((List.range 1001).all fun x=>decide (x<256)||decide (bitsLen x=8+bitsLen (x / 256)))=true:=U;intro x hx h2;rw[List.all_eq_true]at h;have:=h x (mem_range.2 hx);rw[Bool.or_eq_true,decide_eq_true_eq,decide_eq_true_eq]at this;omega
theorem rZ:∀x:Nat,x<1001->1<=x->2 ^ bitsLen x<=2*x:=by
 have h:((List.range 1001).all fun x=>decide (x=0)||decide (2 ^ bitsLen x<=2*x))=true:=U;intro x hx h2;rw[List.all_eq_true]at h;have:=h x (mem_range.2 hx);rw[Bool.or_eq_true,decide_eq_true_eq,decide_eq_true_eq]at this;omega
theorem Wt (ρ:aK) (M:Hp) (nx:Nat) (x:Nat) (hx:x<1001):ar am ρ 103 [.int .u64 x] M nx (fe nx M (.int .i64 (bitsLen x:Nat))):=by
 refine ar.wk 25 [.tmp 2] Tryz.func103 ?_;have h1:¬ (4294967296:Int)<=x:=Z;have h2:¬ (65536:Int)<=x:=Z;have hb:=t8 x hx;by_cases h3:(256:Int)<=x
 ·have hs:∀k',bj .shr .u64 (x:Int) k' 8=some (.int .u64 ((x / 256:Nat):Int)):=fun k'=>by
   have e:((x:Int).fdiv (2 ^ 8))=((x / 256:Nat):Int):=by rw[Int.fdiv_eq_ediv_of_nonneg _ af];omega
   exact congrArg (fun z=>some (XV.int .u64 z)) e
  have hu:IntKind.u8.wrap ((x / 256:Nat):Int)=((x / 256:Nat):Int):=by rw[IntKind.wrap_u8];omega
  have hw:IntKind.i64.wrap ((bitsLen (x / 256):Nat):Int)=((bitsLen (x / 256):Nat):Int):=wrap_i64 Z (by have:=su x hx Z;omega);have bV:IntKind.i64.wrap (8+((bitsLen (x / 256):Nat):Int))=((bitsLen x:Nat):Int):=by
   have:=su x hx Z;rw[wrap_i64 Z Z];omega
  have h8:IntKind.i64.wrap (0+8)=8:=af;refine gw LW h1 h2 h3 hs hu h8 ?_;generalize hS:List.map (fun c:UInt8=>c.toNat) _=S;have vV:S=o6:=by rw[<-hS];kernel_rfl
  subst vV;clear hS;have bC:=aan (x / 256) Z;refine iC LW bC hw bV h8 @fe.eq_1 ?_;exact⟨aq.refl _ _,Z⟩
 ·have hu:IntKind.u8.wrap (x:Int)=(x:Int):=by rw[IntKind.wrap_u8];omega
  have hw:IntKind.i64.wrap ((bitsLen x:Nat):Int)=((bitsLen x:Nat):Int):=wrap_i64 Z Z;have bV:IntKind.i64.wrap (0+((bitsLen x:Nat):Int))=((bitsLen x:Nat):Int):=by rw[wrap_i64 Z Z];omega
  refine mY LW h1 h2 h3 hu ?_;generalize hS:List.map (fun c:UInt8=>c.toNat) _=S;have vV:S=o6:=by rw[<-hS];kernel_rfl
  subst vV;clear hS;have bC:=aan x Z;refine mY LW bC hw bV @fe.eq_1 ?_;exact⟨aq.refl _ _,Z⟩
theorem U8 (ρ:aK) (M:Hp) (nx:Nat) (x:Nat) (hx:x<1001):ar am ρ 69 [.int .u64 x] M nx (fe nx M (.int .i64 (bitsLen x:Nat))):=by
 refine ar.wk 8 [.tmp 2] Tryz.func69 ?_;refine bR SF ?_;refine lG (Wt ρ _ _ x hx) fun M1 n1 g2 g3=>?_
 refine mI SF @fe.eq_1 ?_;exact⟨g2.le Z,Z⟩
theorem Sz (ρ:aK) (M:Hp) (nx:Nat) (x:Nat) (hx:x<1001):ar am ρ 139 [.int .i64 x] M nx (fe nx M (.int .u64 (2 ^ bitsLen x:Nat))):=by
 have hu:IntKind.u64.wrap (x:Int)=(x:Int):=wrap_u64 Z Z;have hb:=t8 x hx;have hp:2 ^ bitsLen x<=2 ^ 10:=Nat.pow_le_pow_right af hb;have hs:∀k',bj .shl .u64 1 k' ((bitsLen x:Nat):Int)=some (.int .u64 ((2 ^ bitsLen x:Nat):Int)):=fun k'=>by
  have e:IntKind.u64.wrap (1*2 ^ (min ((bitsLen x:Nat):Int).toNat IntKind.u64.bits))=((2 ^ bitsLen x:Nat):Int):=by
   rw[show min ((bitsLen x:Nat):Int).toNat IntKind.u64.bits=bitsLen x by show min _ 64=_;omega,Int.one_mul];have:(2:Int) ^ bitsLen x=((2 ^ bitsLen x:Nat):Int):=ae;rw[this];generalize 2 ^ bitsLen x=q at hp;exact wrap_u64 Z Z
  have n0:decide (((bitsLen x:Nat):Int)<0)=false:=ae;simp only[bj,n0,e]
 refine ar.wk 7 [.tmp 2] Tryz.func139 ?_;refine mI S4 hu ?_;refine lG (U8 ρ _ _ x hx) fun M1 n1 g2 g3=>?_
 refine Ao S4 hs @fe.eq_1 ?_;exact⟨g2.le Z,Z⟩
def Nw (nx p:Nat) (M:Hp) (o:ew):Prop:=∃r',o.1 = .int .u64 r'/\gG o.2.1 p=some (.row [.int .u64 r'])/\bK nx p M o.2.1/\nx<=o.2.2
theorem Su (ρ:aK) {M:Hp} {nx p:Nat} {r:Int} (hp:gG M p=some (.row [.int .u64 r])):ar am ρ 140 [.mp p 0] M nx (Nw nx p M):=by
 have s1:∀(a:Int) k',bj .shl .u64 a k' 13=some (.int .u64 (IntKind.u64.wrap (a*2 ^ 13))):=fun a k'=>rfl
 have s2:∀(a:Int) k',bj .shr .u64 a k' 7=some (.int .u64 (a.fdiv (2 ^ 7))):=fun a k'=>rfl
 have s3:∀(a:Int) k',bj .shl .u64 a k' 17=some (.int .u64 (IntKind.u64.wrap (a*2 ^ 17))):=fun a k'=>rfl
 have s4:∀(a b:Int),bj .xor .u64 a .u64 b=some (.int .u64 (uC .xor .u64 a b)):=fun a b=>rfl
 refine ar.wk 33 [.tmp 2] Tryz.func140 ?_;refine gw Xp hp s1 s2 s3 s4 @Nw.eq_1 ?_;exact⟨_,rfl,rfl,(((bK.refl _ _ _).set _).set _).set _,Z⟩
theorem Hr (x:Int) (m:Nat) (hm:m<1000000):∃o:Nat,uC .and .u64 x (m:Int)=(o:Int)/\o<=m:=by
 have hb:(BitVec.ofInt IntKind.u64.bits x &&& BitVec.ofInt IntKind.u64.bits (m:Int)).toNat<=m:=by
  rw[BitVec.toNat_and];refine Nat.le_trans and_le_right ?_;rw[BitVec.ofInt_natCast,BitVec.toNat_ofNat];exact mod_le _ _
 refine⟨_,?_,hb⟩;exact wrap_u64 Z Z
def lP (bz:XS->Prop) (K:bg->XS->Prop):bg->XS->Prop
 | .normal,s=>bz s
 | .ret,s=>K .ret s
 | .exit i,s=>K (.exit i) s
theorem bU {bz:XS->Prop}:lP bz K .normal s=bz s:=rfl
theorem cd {bz:XS->Prop}:lP bz K .ret s=K .ret s:=rfl
theorem bQ {bz:XS->Prop} {i:Nat}:lP bz K (.exit i) s=K (.exit i) s:=rfl
theorem jy {f f':XS->Prop} {K':bg->XS->Prop} (hf:∀s,f s->f' s) (hK:∀e s,e ≠ .normal->K e s->K' e s):∀e s,fx f K e s->fx f' K' e s
 | .normal,s,h=>hf s h
 | .ret,s,h=>hK _ s ae h
 | .exit i,s,h=>hK _ s ae h
theorem qr {bz f:XS->Prop} (h:∀s,bz s->f s):∀e s,lP bz K e s->fx f K e s
 | .normal,s,q=>h s q
 | .ret,_,q=>q
 | .exit _,_,q=>q
theorem lA {bz:XS->Prop}:∀e s,e ≠ .normal->lP bz K e s->K e s
 | .normal,_,q,_=>(q rfl).elim
 | .ret,_,_,h=>h
 | .exit _,_,_,h=>h
theorem yo {a rest:Code} (bz:XS->Prop) (h:W P ρ n a [] (lP bz fun e s=>T P ρ n fs Q e s) s) (cont:∀s,bz s->W P ρ n rest fs Q s) :
 W P ρ n (.seq a rest) fs Q s:=by
 have h:wx P ρ n a (lP bz (pK P ρ n fs Q)) s:=h;show wx P ρ n a (fx (wx P ρ n rest (pK P ρ n fs Q)) (pK P ρ n fs Q)) s;exact cC _ _ _ _ (qr cont) h
theorem yz {a b rest:Code} (bz:XS->Prop) (h:W P ρ n (.seq a b) [] (lP bz fun e s=>T P ρ n fs Q e s) s) (cont:∀s,bz s->W P ρ n rest fs Q s) :
 W P ρ n (.seq a (.seq b rest)) fs Q s:=by
 have h:wx P ρ n a (fx (wx P ρ n b (lP bz (pK P ρ n fs Q))) (lP bz (pK P ρ n fs Q))) s:=h;show wx P ρ n a (fx (wx P ρ n b (fx (wx P ρ n rest (pK P ρ n fs Q)) (pK P ρ n fs Q))) (pK P ρ n fs Q)) s;exact cC _ _ _ _ (jy (fun s=>cC _ _ _ _ (qr cont)) lA) h
theorem Po {a b c rest:Code} (bz:XS->Prop) (h:W P ρ n (.seq a (.seq b c)) [] (lP bz fun e s=>T P ρ n fs Q e s) s) (cont:∀s,bz s->W P ρ n rest fs Q s) :
 W P ρ n (.seq a (.seq b (.seq c rest))) fs Q s:=by
 have h:wx P ρ n a (fx (wx P ρ n b (fx (wx P ρ n c (lP bz (pK P ρ n fs Q))) (lP bz (pK P ρ n fs Q)))) (lP bz (pK P ρ n fs Q))) s:=h;show wx P ρ n a (fx (wx P ρ n b (fx (wx P ρ n c (fx (wx P ρ n rest (pK P ρ n fs Q)) (pK P ρ n fs Q))) (pK P ρ n fs Q))) (pK P ρ n fs Q)) s;exact cC _ _ _ _ (jy (fun s=>cC _ _ _ _ (jy (fun s=>cC _ _ _ _ (qr cont)) lA)) lA) h
theorem IF {a b c d rest:Code} (bz:XS->Prop) (h:W P ρ n (.seq a (.seq b (.seq c d))) [] (lP bz fun e s=>T P ρ n fs Q e s) s) (cont:∀s,bz s->W P ρ n rest fs Q s) :
 W P ρ n (.seq a (.seq b (.seq c (.seq d rest)))) fs Q s:=by
 have h:wx P ρ n a (fx (wx P ρ n b (fx (wx P ρ n c (fx (wx P ρ n d (lP bz (pK P ρ n fs Q))) (lP bz (pK P ρ n fs Q)))) (lP bz (pK P ρ n fs Q)))) (lP bz (pK P ρ n fs Q))) s:=h;show wx P ρ n a (fx (wx P ρ n b (fx (wx P ρ n c (fx (wx P ρ n d (fx (wx P ρ n rest (pK P ρ n fs Q)) (pK P ρ n fs Q))) (pK P ρ n fs Q))) (pK P ρ n fs Q))) (pK P ρ n fs Q)) s;exact cC _ _ _ _ (jy (fun s=>cC _ _ _ _ (jy (fun s=>cC _ _ _ _ (jy (fun s=>cC _ _ _ _ (qr cont)) lA)) lA)) lA) h
def Rnd {α:Type} [Inhabited α] (lt:α->α->Bool) (a b:Nat) (d:Array α) (x y:Nat) (d':Array α):Prop:=∀R,PermIn x y d' R->SortedIn lt x y R->PermIn a b d R/\SortedIn lt a b R
def RZ {α:Type} [Inhabited α] (lt:α->α->Bool) (a b n:Nat) (d:Array α) (m x y:Nat) (d':Array α):Prop:=a<=x/\x<=y/\y<=b/\m=y - x/\d'.size=n/\Below lt x y d'/\Rnd lt a b d x y d'
def PmD {α:Type} [Inhabited α] (n x y:Nat) (d d':Array α):Prop:=12<y - x/\d'.size=n/\PermIn x y d d'
def U6 {α:Type} [Inhabited α] (n x y p:Nat) (d d':Array α):Prop:=12<y - x/\(x<=p/\p<y)/\d'.size=n/\PermIn x y d d'
end
end Go.Xs
namespace Go.Xs
open List Nat Option
variable{L l:List aR}{M:Hp}{b hi i lo m nx:Nat}{cs:List XV}{ps:List (Int×Int)}{r:aR}{tag:Nat->Tg}{v:XV}
open Go.Proofs
def fA (p:Int×Int):List XV:=[.int .u64 p.1,.int .u64 p.2]
theorem nW (p:Int×Int):(fA p).length=2:=rfl
def yV (writer:Int) (_:Nat) (e:bO):Option (Int×Int):=if e.wr≠writer then some (e.w,e.n) else none
def oD (l:List bO) (writer:Int):List (Int×Int):=(0,0)::gV (yV writer) l 0
theorem bE.ver {P:Program} {l:List bO} (h:bE M b v 4 l.length (l.flatMap aV)) {e:bO} (he:l[i]?=some e) {t t' n o:Nat} (bC:∀k,br P t v (.int k (i:Int))=some (.mp n o)) (ht:es P t=some 4) (oe:sa P t'=some (2,true)) :
 ∀N,aq b M N->b_ P N t' (.mp n o)=some ⟨.agg [.int .u64 e.w,.int .u64 e.n],[n],[]⟩:=by
 have hi:=(List.getElem?_eq_some_iff.1 he).1;obtain⟨n',o',h1,h2,cs,h3,h4,h5⟩:=h.at hi ht;intro N hN;have e1:n'=n/\o'=o:=by
  have:=(h2 .i64).symm.trans (bC .i64);simpa using this
 obtain⟨rfl,rfl⟩:=e1;rw[fG (lR h3 hN h1) oe Z];rw[eT jK he]at h4;have:(cs.drop o').take 2=((cs.drop o').take 4).take 2:=by rw[take_take];rfl
 rw[this,<-h4];rfl
theorem f50 (ρ:aK) (hL:cP M b v L) (hb:b<=nx) (hl:L.length<=100000) (x writer:Int):ar am ρ 50 [v,.int .u64 x,.int .i64 writer] M nx (og nx M 2 fA (oD (gX L x) writer)):=by
 refine ar.wk 37 [.tmp 6] Tryz.func50 ?_;refine bR Fa ?_;refine gQ (Ro ρ hL Z hl x) ?_;rintro⟨u,M1,n1⟩ ⟨g1,g2,g3⟩;simp only at g1 g2 g3;obtain⟨l,qz⟩:∃l,l=gX L x:=⟨_,rfl⟩;have NW:l.length<=100000:=by rw[qz];exact Nat.le_trans (nN L x) hl
 rw[<-qz]at g1 ⊢;have a9:=g1.at (Nat.le_refl n1);have ay:=fun N=>a9.len (P:=am) (t:=121) fP.2.2.2.2.2 N
 refine bR Fa ?_;refine aC (fun m' s=>∃(i:Nat) (vv:XV),i<=l.length/\m'=l.length - i/\gG s.env 2=some (.int .i64 writer)/\gG s.env 7=some u/\gG s.env 8=some vv/\gG s.env 9=some (.int .i64 i)/\di s.M n1 s.nx vv 2 fA (oD (l.take i) writer)/\aq n1 M1 s.M/\n1<=s.nx) l.length ⟨0,.sl (n1+2) 2 0 1 1,Z,Z,?_⟩ ?_
 ·refine bR Fa ?_
  exact⟨⟨by simp[oD,gV],rfl,.inr ⟨n1+2,rfl,⟨Z,Z⟩,J⟩⟩,O,Z⟩
 ·rintro m' ⟨env,M',nx'⟩ ⟨i,vv,hi,ir,e2,e7,e8,e9,hv,ha,hn⟩
  simp only at e2 e7 e8 e9 hv ha hn;by_cases aL:(i:Int)<l.length
  ·have aP:i<l.length:=Z
   obtain⟨e,gA⟩:∃e,l[i]?=some e:=⟨l[i],by simp[aP]⟩;have bV:=eF i;have kS:=iM (yV writer) gA;have Gl:=dS (yV writer) (l.take i) 0;have FZ:(l.take i).length<=100000:=by rw[length_take];omega
   have gE:(oD (l.take i) writer).length<=100001:=by unfold oD;rw[length_cons];omega
   obtain⟨n,o,jw,bC,mi⟩:=a9.fldG (P:=am) aP (t:=121) fP.2.2.2.1;have MK:=mi 2 (.int .i64 e.wr) Z (by rw[eT jK gA];rfl) 3 1 dA.1 M' ha;have aU:=a9.ver (P:=am) gA bC fP.2.2.2.1 gq.1 M' ha;by_cases cf:e.wr=writer
   ·have h_:yV writer i e=none:=by unfold yV;rw[if_neg (fun h=>h cf)]
    rw[h_]at kS;refine dw Fa e2 e7 e8 e9 ay aL bC MK cf bV ?_;exact⟨l.length - (i+1),Z,i+1,_,Z,rfl,rfl,rfl,by unfold oD;rw[kS];simpa [oD] using hv.up (fun _ _ _=>rfl) Z,ha,Z⟩
   ·have h_:yV writer i e=some (e.w,e.n):=by unfold yV;rw[if_pos cf]
    rw[h_]at kS;have dX:=hv.push (e.w,e.n) am 129 16 [.int .u64 0,.int .u64 0] Z Z rfl (by simp only[fE];omega) rfl;simp only[fA]at dX;refine ii Fa e2 e7 e8 e9 ay aL bC MK cf aU (aI dX bV) ?_;refine⟨l.length - (i+1),Z,i+1,_,Z,rfl,rfl,rfl,?_,fun q hq=>?_,Z⟩
    ·have:oD (l.take (i+1)) writer=oD (l.take i) writer++[(e.w,e.n)]:=by unfold oD;rw[kS];rfl
     rw[this];exact hv.pushed (e.w,e.n) Z Z rfl Z
    ·rw[dG.push_old hv _ (.inl hq) Z]
     have:=ha q hq;exact J
  ·have gB:i=l.length:=Z
   refine iQ Fa e2 e7 e8 e9 ay aL @og.eq_1 ?_;rw[gB,take_length]at hv;refine⟨dG.keep hv fun k hk=>?_,(g2.le Z).trans (ha.le Z),Z⟩;obtain⟨r1,r2⟩:n1<=k/\k<nx':=hk;exact⟨rfl,Z,Z⟩
theorem f51 (ρ:aK) (hL:cP M b v L) (hb:b<=nx) (hl:L.length<=100000) (x w n:Int) :
 ar am ρ 51 [v,.int .u64 x,.agg [.int .u64 w,.int .u64 n]] M nx (fe nx M (.tup [.int .i64 (ba (gX L x) w n).1,.bool (ba (gX L x) w n).2])):=by
 refine ar.wk 36 [.tmp 6,.tmp 7] Tryz.func51 ?_;obtain⟨l,qz⟩:∃l,l=gX L x:=⟨_,rfl⟩;have NW:l.length<=100000:=by rw[qz];exact Nat.le_trans (nN L x) hl
 rw[<-qz];by_cases Yx:w=0/\n=0
 ·obtain⟨rfl,rfl⟩:=Yx
  refine mI jV @fe.eq_1 ?_;exact⟨rfl,O,Z⟩
 ·have sV:ba l w n=(eN (gi w n) l 0+1,decide (0<=eN (gi w n) l 0)):=by unfold ba;rw[if_neg (by simpa using Yx)]
  rw[sV];refine yz (fun s=>gG s.env 0=some v/\gG s.env 1=some (.int .u64 x)/\gG s.env 5=some (.mp nx 0)/\gG s.M nx=some (.row [.int .u64 w,.int .u64 n])/\aq nx M s.M/\nx+1<=s.nx) ?_ ?_
  ·by_cases hw:w=0
   ·have hn:¬ n=0:=fun h=>Yx ⟨hw,h⟩
    refine ti jV hw hn @bU ?_;exact⟨O,Z⟩
   ·refine Ao jV hw @bU ?_
    exact⟨O,Z⟩
  ·rintro⟨env,M0,n0⟩ ⟨e0,e1,e5,z5,a0,ZR⟩
   simp only at e0 e1 e5 z5 a0 ZR;refine ti jV e0 e1 e5 ?_;refine gQ (Ro ρ (hL.agr (a0.le hb)) Z hl x) ?_;rintro⟨u,M1,n1⟩ ⟨g1,g2,g3⟩;simp only at g1 g2 g3;rw[<-qz]at g1;have y5:=(g2 nx Z).trans z5;have a1:aq nx M M1:=a0.trans (g2.le Z);have a9:=g1.at (Nat.le_refl n1);have ay:=fun N=>a9.len (P:=am) (t:=121) fP.2.2.2.2.2 N
   refine mI jV e5 ?_;refine aC (fun m' s=>∃(i:Nat),i<=l.length/\m'=l.length - i/\gG s.env 5=some (.mp nx 0)/\gG s.env 8=some u/\gG s.env 9=some (.int .i64 i)/\eN (gi w n) l 0=eN (gi w n) (l.drop i) i /\
    gG s.M nx=some (.row [.int .u64 w,.int .u64 n])/\aq n1 M1 s.M/\n1<=s.nx) l.length ⟨0,Z,Z,?_⟩ ?_
   ·refine Ao jV e5 y5 ?_
    exact⟨aq.refl _ _,Z⟩
   ·rintro m' ⟨env,M',nx'⟩ ⟨i,hi,ir,e5,e8,e9,QN,z5,ha,hn⟩
    simp only at e5 e8 e9 z5 ha hn;by_cases aL:(i:Int)<l.length
    ·have aP:i<l.length:=Z
     obtain⟨e,gA⟩:∃e,l[i]?=some e:=⟨l[i],by simp[aP]⟩;have bV:=eF i;have bw:=lr (q:=gi w n) gA;obtain⟨n',o,jw,bC,mi⟩:=a9.fldG (P:=am) aP (t:=121) fP.2.2.2.1;have aU:=a9.ver (P:=am) gA bC fP.2.2.2.1 gq.1 M' ha;by_cases hq:e.w=w/\e.n=n
     ·obtain⟨q1,q2⟩:=hq
      have bD:eN (gi w n) l 0=(i:Int):=by rw[QN,bw,if_pos (by simp[gi,q1,q2])]
      rw[bD];refine ii jV e5 e8 e9 ay aL bC aU z5 q1 q2 (aI bV @fe.eq_1) ?_;exact⟨ae,fun q hq=>(ha q Z).trans (a1 q hq),Z⟩
     ·have bD:eN (gi w n) l 0=eN (gi w n) (l.drop (i+1)) (i+1):=by rw[QN,bw,if_neg (by simpa [gi] using hq)]
      by_cases q1:e.w=w
      ·have q2:¬ e.n=n:=fun h=>hq ⟨q1,h⟩
       refine ii jV e5 e8 e9 ay aL bC aU z5 q1 q2 bV ?_;exact⟨l.length - (i+1),Z,i+1,Z,rfl,rfl,bD,ha,Z⟩
      ·by_cases q2:e.n=n
       ·refine ii jV e5 e8 e9 ay aL bC aU z5 q1 q2 (aI bV @Bool.false_and) ?_
        exact⟨l.length - (i+1),Z,i+1,Z,rfl,rfl,bD,ha,Z⟩
       ·refine ii jV e5 e8 e9 ay aL bC aU z5 q1 q2 (aI bV @Bool.false_and) ?_
        exact⟨l.length - (i+1),Z,i+1,Z,rfl,rfl,bD,ha,Z⟩
    ·have gB:i=l.length:=Z
     have bD:eN (gi w n) l 0 = -1:=by rw[QN,gB,drop_length];rfl
     rw[bD];refine gw jV e5 e8 e9 ay aL @fe.eq_1 ?_;exact⟨ae,fun q hq=>(ha q Z).trans (a1 q hq),Z⟩
theorem Wn (ρ:aK) (hL:cP M b v L) (hb:b<=nx) (hl:L.length<=100000) (x i:Int) (hi:-9223372036854775808<=i) :
 ar am ρ 52 [v,.int .u64 x,.int .i64 i] M nx (fe nx M (.tup [.agg (ce (gX L x) i).1,.bool (ce (gX L x) i).2])):=by
 refine ar.wk 30 [.cell 6 110,.tmp 7] Tryz.func52 ?_;obtain⟨l,qz⟩:∃l,l=gX L x:=⟨_,rfl⟩;have NW:l.length<=100000:=by rw[qz];exact Nat.le_trans (nN L x) hl
 refine bR jV ?_;generalize rz:ci M nx _=M0;have a0:aq nx M M0:=by rw[<-rz];exact O
 have z6:gG M0 nx=some (.row [.int .u64 0,.int .u64 0]):=by rw[<-rz];exact J
 clear rz;refine gQ (Ro ρ (hL.agr (a0.le hb)) Z hl x) ?_;rintro⟨u,M1,n1⟩ ⟨g1,g2,g3⟩;simp only at g1 g2 g3;rw[<-qz]at g1 ⊢;have y6:=(g2 nx Z).trans z6;have a1:aq nx M M1:=a0.trans (g2.le Z);have a9:=g1.at (Nat.le_refl n1);have ay:=fun N=>a9.len (P:=am) (t:=121) fP.2.2.2.2.2 N
 by_cases h0:i<0
 ·have hv:ce l i=([.int .u64 0,.int .u64 0],false):=by unfold ce;rw[if_neg Z,if_pos (.inl h0)]
  rw[hv];refine mY jV ay h0 y6 @fe.eq_1 ?_;exact⟨(by(repeat (refine aq.set ?_ Z _));exact a1),Z⟩
 ·by_cases hg:(l.length:Int)<i
  ·have hv:ce l i=([.int .u64 0,.int .u64 0],false):=by unfold ce;rw[if_neg Z,if_pos (.inr hg)]
   rw[hv];refine iC jV ay h0 hg y6 @fe.eq_1 ?_;exact⟨(by(repeat (refine aq.set ?_ Z _));exact a1),Z⟩
  ·by_cases he:i=0
   ·subst he
    have hv:ce l 0=([.int .u64 0,.int .u64 0],true):=by unfold ce;rw[if_pos rfl]
    rw[hv];refine mY jV ay hg y6 @fe.eq_1 ?_;exact⟨(by(repeat (refine aq.set ?_ Z _));exact a1),Z⟩
   ·obtain⟨k,hk⟩:∃k:Nat,i=(k:Int)+1:=⟨(i - 1).toNat,Z⟩
    have ia:k<l.length:=Z;obtain⟨e,jT⟩:∃e,l[k]?=some e:=⟨l[k],by simp[ia]⟩;have hv:ce l i=([.int .u64 e.w,.int .u64 e.n],true):=by
     unfold ce;rw[if_neg he,if_neg Z,show (i - 1).toNat=k by omega,jT]
    rw[hv];have qC:IntKind.i64.wrap (i - 1)=(k:Int):=by rw[wrap_i64 Z Z];omega
    obtain⟨n,o,jw,bC,mi⟩:=a9.fldG (P:=am) ia (t:=121) fP.2.2.2.1;have aU:=a9.ver (P:=am) jT bC fP.2.2.2.1 gq.1 M1 (aq.refl _ _);refine dp jV ay h0 hg he y6 qC bC aU @fe.eq_1 ?_;exact⟨(by(repeat (refine aq.set ?_ Z _));exact a1),Z⟩
theorem f53 (ρ:aK) (hL:cP M b v L) (hb:b<=nx) (hl:L.length<=100000) (x pos:Int) :
 ar am ρ 53 [v,.int .u64 x,.int .i64 pos] M nx (fe nx M (.agg [.int .u64 (oi (gX L x) pos (0,0)).1,.int .u64 (oi (gX L x) pos (0,0)).2])):=by
 refine ar.wk 33 [.cell 6 110] Tryz.func53 ?_;obtain⟨l,qz⟩:∃l,l=gX L x:=⟨_,rfl⟩;have NW:l.length<=100000:=by rw[qz];exact Nat.le_trans (nN L x) hl
 refine bR jV ?_;generalize rz:ci M nx _=M0;have a0:aq nx M M0:=by rw[<-rz];exact O
 have z6:gG M0 nx=some (.row [.int .u64 0,.int .u64 0]):=by rw[<-rz];exact J
 clear rz;refine gQ (Ro ρ (hL.agr (a0.le hb)) Z hl x) ?_;rintro⟨u,M1,n1⟩ ⟨g1,g2,g3⟩;simp only at g1 g2 g3;rw[<-qz]at g1 ⊢;have y6:=(g2 nx Z).trans z6;have a1:aq nx M M1:=a0.trans (g2.le Z);have a9:=g1.at (Nat.le_refl n1);have ay:=fun N=>a9.len (P:=am) (t:=121) fP.2.2.2.2.2 N
 refine bR jV ?_;refine aC (fun m' s=>∃(i:Nat),i<=l.length/\m'=l.length - i/\gG s.env 2=some (.int .i64 pos)/\gG s.env 6=some (.mp nx 0)/\gG s.env 7=some u/\gG s.env 8=some (.mp (n1+2) 0)/\gG s.env 9=some (.int .i64 i) /\
  gG s.M nx=some (.row [.int .u64 0,.int .u64 0])/\gG s.M (n1+2)=some (.row [.int .u64 (oi (l.take i) pos (0,0)).1,.int .u64 (oi (l.take i) pos (0,0)).2])/\aq n1 M1 s.M/\n1+3<=s.nx) l.length ⟨0,Z,Z,?_⟩ ?_
 ·refine mI jV y6 ?_
  exact⟨rfl,O,Z⟩
 ·rintro m' ⟨env,M',nx'⟩ ⟨i,hi,ir,e2,e6,e7,e8,e9,z6,z8,ha,hn⟩
  simp only at e2 e6 e7 e8 e9 z6 z8 ha hn;by_cases aL:(i:Int)<l.length
  ·have aP:i<l.length:=Z
   obtain⟨e,gA⟩:∃e,l[i]?=some e:=⟨l[i],by simp[aP]⟩;have bV:=eF i;have bw:=wh gA pos;obtain⟨n,o,jw,bC,mi⟩:=a9.fldG (P:=am) aP (t:=121) fP.2.2.2.1;have QF:=mi 3 (.int .i64 e.en) Z (by rw[eT jK gA];rfl) 3 1 dA.1 M' ha;have aU:=a9.ver (P:=am) gA bC fP.2.2.2.1 gq.1 M' ha;obtain⟨p,hp⟩:∃p,p=oi (l.take i) pos (0,0):=⟨_,rfl⟩;rw[<-hp]at z8 bw;by_cases VG:e.en<pos
   ·rw[if_pos VG]at bw
    refine ii jV e2 e6 e7 e8 e9 ay aL bC QF aU (aI VG (aI bV z8)) ?_;exact⟨l.length - (i+1),Z,i+1,Z,rfl,rfl,z6,by rw[bw],(by(repeat (refine aq.set ?_ Z _));exact ha),Z⟩
   ·rw[if_neg VG]at bw
    refine ii jV e2 e6 e7 e8 e9 ay aL bC QF VG (aI bV z8) ?_;exact⟨l.length - (i+1),Z,i+1,Z,rfl,rfl,z6,by rw[bw],ha,Z⟩
  ·have gB:i=l.length:=Z
   rw[gB,take_length]at z8;refine dw jV e2 e6 e7 e8 e9 ay aL z6 z8 @fe.eq_1 ?_;exact⟨fun q hq=>(by have:=(ha q Z).trans (a1 q hq);exact J),Z⟩
theorem XT (ρ:aK) {k:Nat} {v0 v1 c2 c3 c4:XV} (mo:lo<=m) (hmh:m<hi) (ht:tag m = .mach) (hM:gG M m=some (.row [v0,v1,c2,c3,c4])) (h0:k8 M lo hi tag v0 ps) (h1:bS M lo hi tag .names v1 2 ps.length (ps.flatMap fj)) (hh:hi<=nx)
 (few:ps.length<=1000) (a c:Int) (hk:gG M k=some (.row [.int .u64 a,.int .u64 c])) (QP:k<nx) (hkm:hi<=k) :
 ar am ρ 211 [.mp m 0,.sl k 2 0 1 1] M nx (kh M nx lo m tag ps (a,c) c2 c3 c4):=by
 refine ar.wk 12 [.tmp 4] Tryz.func211 ?_;refine dt lK ?_;refine gQ (WP ρ (nx:=nx+7) mo hmh ht hM h0 h1 Z few a c hk Z hkm) ?_;rintro⟨u,M2,n2⟩ ⟨i,tag',RX,RY,g1,g2,g3,g4,g5,g6,g7,g8,g9,RG⟩;simp only at g1 g2 g3 g4 g5 g6 g7 g8 g9 RG;subst g1;refine dt lK ?_;exact⟨i,tag',RX,RY,rfl,g2,g3,g4,g5.agr (aq.refl _ _) ak,g6.agr (aq.refl _ _) ak,fun k hk=>g7 k Z,fun k hk=>g8 k Z,g9,ak⟩
theorem KK (ρ:aK) {vnum vnames vrows vend:XV} {rs:List XV} {le:List (Nat×Int×Bool)} (h:kI M lo hi m l.length l tag ps vnum vnames vrows vend rs le) (hh:hi<=nx) (few:l.length<=1000) (hr:gn r=true) :
 ar am ρ 137 [.mp m 0,.int .u64 r.t,.int .u64 r.x,.agg (et (nv r))] M nx fun o=>o.1 = .tup []/\(∃tag' ps' vnum' vnames' vrows' rs',kI o.2.1 lo o.2.2 m l.length (l++[r]) tag' ps' vnum' vnames' vrows' vend rs' le)/\aq lo M o.2.1/\nx<=o.2.2:=by
 have vY:=h.m_hi;replace h:=h.norm;obtain⟨JM,Sc⟩:∃f,f=fun k=>if k<hi then tag k else Tg.none:=⟨_,rfl⟩
 rw[<-Sc]at h;have htn:∀k,hi<=k->JM k = .none:=fun k hk=>by rw[Sc];exact if_neg Z
 clear Sc;simp only[et];refine ar.wk 49 [] Tryz.func137 ?_;refine dt Kd ?_;generalize xu:ci (ci M _ _) _ _=M1;have a1:aq nx M M1:=by rw[<-xu];exact O
 have m1:gG M1 nx=some (.row [.int .u64 (nv r).v,.bool (nv r).dead]):=by rw[<-xu];exact J
 have m2:gG M1 (nx+7)=some (.row [.int .u64 r.t,.int .u64 r.x]):=by rw[<-xu];exact J
 clear xu;have aW:=(a1 m Z).trans h.row;refine gQ (XT ρ h.lo_m h.m_hi h.tg aW (h.num.agr (a1.le hh) (Nat.le_refl _)) (h.names.agr (a1.le hh) (Nat.le_refl _)) Z (by have:=h.few;omega) r.t r.x m2 Z Z) ?_;rintro⟨u,M2,n2⟩ ⟨i,tag',RX,RY,g1,g2,g3,g4,g5,g6,g7,g8,g9,RG⟩;simp only at g1 g2 g3 g4 g5 g6 g7 g8 g9 RG;subst g1;have k2:∀k,k<nx+8->k≠m->JM k ≠ .num->JM k ≠ .names->gG M2 k=gG M1 k:=g8;have t2:∀k,k<nx->tag' k=JM k:=fun k hk=>g7 k Z
 have y0:gG M2 nx=some (.row [.int .u64 (nv r).v,.bool (nv r).dead]):=(g8 nx Z Z (by rw[htn nx hh];simp) (by rw[htn nx hh];simp)).trans m1;obtain⟨hz,je,Od⟩:=h.rows;rcases Classical.em ((r.t,r.x) ∈ ps) with pB | pB
 ·have hA:fH ps (r.t,r.x)=ps:=if_pos pB
  rw[hA]at g2 g3 g5 g6;have uT:i<ps.length:=(List.getElem?_eq_some_iff.1 g2).1;rcases Od with ⟨_,e0⟩ | ⟨hl,rk,rfl,r1,r2,r3,r4⟩
  ·omega
  obtain⟨cf,v,hv,wz,wl,⟨_,e0⟩ | ⟨Gn,sk,rfl,s1,s2,s3,s4⟩⟩:=h.all i r.t r.x g2
  ·exact(cf (length_eq_zero_iff.1 e0)).elim
  have n1:=aZ h.tg r3 ae;have V2:=aZ h.tg s3 ae;have n3:=aZ r3 s3 ae;have hd:aw m rk=False/\aw rk m=False/\aw m sk=False/\aw sk m=False/\aw rk sk=False/\aw sk rk=False:=by simp only[aw,eq_iff_iff,iff_false];exact⟨n1,n1.symm,V2,V2.symm,n3,n3.symm⟩
  have yr:gG M2 rk=some (.row rs):=((g8 rk Z n1.symm (by rw[r3];simp) (by rw[r3];simp)).trans (a1 rk Z)).trans r4;have ys:gG M2 sk=some (.row ((bd l r.t r.x).flatMap et)):=((g8 sk Z V2.symm (by rw[s3];simp) (by rw[s3];simp)).trans (a1 sk Z)).trans s4;have Jw:List.drop i rs = .sl sk 2 0 (bd l r.t r.x).length (bd l r.t r.x).length::List.drop (i+1) rs:=by
   obtain⟨q1,q2⟩:=List.getElem?_eq_some_iff.1 hv;rw[<-q2];exact drop_eq_getElem_cons q1
  have c1:¬ (i:Int)=ps.length:=Z;have ip:(bd l r.t r.x).length<=1000:=by
   unfold bd;rw[length_map];exact Nat.le_trans (length_filter_le _ _) few
  refine zQ Kd g4 yr ys y0 c1 Jw je wl hd @Int.toNat_natCast ?_;refine⟨?_,⟨fun k=>if k=n2+22 then .row i else tag' k,ps,RX,RY,.sl rk 1 0 ps.length ps.length,rs.set i (.sl (n2+22) 2 0 ((bd l r.t r.x).length+1) ((bd l r.t r.x).length+1)),?_⟩,?_,Z⟩
  ·(repeat' apply an)<;>exact yj
  ·rw[X_ rs i Z]
   generalize oM:ci (ci (vO _ _) _ _) _ _=M3;have x1:∀k,k<n2->k≠rk->k≠sk->gG M3 k=gG M2 k:=fun k h1 h2 h3=>by rw[<-oM];exact J
   have x2:gG M3 rk=some (.row (rs.set i (.sl (n2+22) 2 0 ((bd l r.t r.x).length+1) ((bd l r.t r.x).length+1)))):=by rw[<-oM];exact J
   have x3:gG M3 (n2+22)=some (.row ((bd l r.t r.x++[nv r]).flatMap et)):=by
    rw[flatMap_append,<-oM];have:List.take ((bd l r.t r.x).length*2) ((bd l r.t r.x).flatMap et)=(bd l r.t r.x).flatMap et:=by rw[<-wl,take_length]
    rw[this];exact J
   clear oM;have kk:∀(k:Nat) (tg:Tg),k<hi->JM k=tg->tg ≠ .rows->tg ≠ .row i->tg ≠ .mach->tg ≠ .num->tg ≠ .names->gG M3 k=gG M k:=fun k tg h1 h2 h3 h4 h5 h6 h7=>by
    rw[x1 k Z (fun e=>h3 (by rw[<-h2,e];exact r3)) (fun e=>h4 (by rw[<-h2,e];exact s3)),g8 k Z (fun e=>h5 (by rw[<-h2,e];exact h.tg)) (by rw[h2];exact h6) (by rw[h2];exact h7)];exact a1 k Z
   have tt:∀(k:Nat) (tg:Tg),k<n2->tag' k=tg->tg ≠ .rows->tg ≠ .row i->gG M3 k=gG M2 k/\(if k=n2+22 then Tg.row i else tag' k)=tg:=fun k tg h1 h2 h3 h4=>by
    refine⟨x1 k h1 (fun e=>h3 (by rw[<-h2,e,t2 rk Z];exact r3)) (fun e=>h4 (by rw[<-h2,e,t2 sk Z];exact s3)),?_⟩;rw[if_neg Z];exact h2
   have:=h.put (M3:=M3) (n3:=n2+25) (i:=i) (tag3:=fun k=>if k=n2+22 then Tg.row i else tag' k) (v0:=RX) (v1:=RY) (vrows':=.sl rk 1 0 ps.length ps.length) (rs':=rs.set i (.sl (n2+22) 2 0 ((bd l r.t r.x).length+1) ((bd l r.t r.x).length+1))) hr
    (fun k hk=>by rw[if_neg Z];exact t2 k Z) (by rw[x1 m Z n1 V2];exact g4)
    (by rw[hA];exact g5.keep (fun k h1 h2=>tt k _ h1 h2 ae ae) Z) (by rw[hA];exact g6.keep (fun k h1 h2=>tt k _ h1 h2 ae ae) Z)
    (by rw[hA];exact⟨hz,by rw[length_set];exact je,.inr ⟨hl,rk,rfl,r1,Z,by simp only;rw[if_neg Z,t2 rk Z];exact r3,x2⟩⟩) (by rw[hA];exact g2)
    ⟨.sl (n2+22) 2 0 ((bd l r.t r.x).length+1) ((bd l r.t r.x).length+1),by rw[getElem?_set_self Z],aj,by rw[flatMap_append,length_append,wl];simp[et];omega,.inr ⟨ae,n2+22,ae,by have:=h.lo_m;omega,Z,ae,x3⟩⟩
    (fun j hj kX=>by rw[getElem?_set_ne (fun e=>kX e.symm)]) (fun k j hk hg kX=>kk k _ hk hg ae (by simp;exact kX) ae ae ae) (fun k hk hg=>kk k _ hk hg ae ae ae ae ae) Z
   rw[hA]at this;exact this
  ·intro k hk
   have q1:=h.lo_m;have e0:gG M2 k=gG M k:=(g9 k hk).trans (a1 k Z);exact J
 ·have hA:fH ps (r.t,r.x)=ps++[(r.t,r.x)]:=if_neg pB
  rw[hA]at g2 g3 g5 g6;have bA:bd l r.t r.x=[]:=Classical.byContradiction fun cf=>pB (h.whole _ _ cf)
  have AW:i=ps.length:=by
   rw[qZ,qN.2 pB]at g3;simp only[if_true,Option.some.injEq]at g3;omega
  subst AW;have ip:ps.length<=1000:=by have:=h.few;omega
  have MF:rs.length=ps.length:=by rw[je,Nat.mul_one]
  have fin:∀(M3:Hp) (R S n3:Nat),n2<=R->R<n3->n2<=S->S<n3->R≠S->gG M3 m=some (.row [RX,RY,.sl R 1 0 (ps.length+1) (ps.length+1),.int .i64 l.length,vend])->gG M3 R=some (.row (rs++[.sl S 2 0 1 1])) ->
   gG M3 S=some (.row [.int .u64 (nv r).v,.bool (nv r).dead])->(∀k,k<n2->k≠m->tag' k ≠ .rows->gG M3 k=gG M2 k) ->
   ∃tag' ps' vnum' vnames' vrows' rs',kI M3 lo n3 m l.length (l++[r]) tag' ps' vnum' vnames' vrows' vend rs' le:=by
   intro M3 R S n3 hR1 Gj hS1 hS2 hRS x0 x2 x3 x1;have kk:∀(k:Nat) (tg:Tg),k<hi->JM k=tg->tg ≠ .rows->tg ≠ .mach->tg ≠ .num->tg ≠ .names->gG M3 k=gG M k:=fun k tg h1 h2 h3 h5 h6 h7=>by
    rw[x1 k Z (fun e=>h5 (by rw[<-h2,e];exact h.tg)) (by rw[t2 k Z,h2];exact h3),g8 k Z (fun e=>h5 (by rw[<-h2,e];exact h.tg)) (by rw[h2];exact h6) (by rw[h2];exact h7)];exact a1 k Z
   have tt:∀(k:Nat) (tg:Tg),k<n2->tag' k=tg->tg ≠ .rows->tg ≠ .mach->gG M3 k=gG M2 k/\(if k=S then Tg.row ps.length else if k=R then .rows else tag' k)=tg:=fun k tg h1 h2 h3 h4=>by
    refine⟨x1 k h1 (fun e=>h4 (by rw[<-h2,e,t2 m Z];exact h.tg)) (by rw[h2];exact h3),?_⟩;rw[if_neg Z,if_neg Z];exact h2
   have q1:=h.lo_m;refine⟨fun k=>if k=S then .row ps.length else if k=R then .rows else tag' k,fH ps (r.t,r.x),RX,RY,.sl R 1 0 (ps.length+1) (ps.length+1),rs++[.sl S 2 0 1 1],?_⟩;exact h.put (M3:=M3) (n3:=n3) (i:=ps.length) (tag3:=fun k=>if k=S then .row ps.length else if k=R then .rows else tag' k) hr
    (fun k hk=>by rw[if_neg Z,if_neg Z];exact t2 k Z) x0
    (by rw[hA];exact g5.keep (fun k h1 h2=>tt k _ h1 h2 ae ae) Z) (by rw[hA];exact g6.keep (fun k h1 h2=>tt k _ h1 h2 ae ae) Z)
    (by rw[hA];exact⟨aj,by simp[MF],.inr ⟨ae,R,ae,Z,Z,by simp[hRS],x2⟩⟩) (by rw[hA];exact g2)
    ⟨.sl S 2 0 1 1,by rw[<-MF,getElem?_concat_length],by rw[bA];simp,by rw[bA];simp[et],.inr ⟨by rw[bA];simp,S,by rw[bA];rfl,Z,Z,ae,by rw[bA];exact x3⟩⟩
    (fun j hj kX=>by rw[getElem?_append_left Z]) (fun k j hk hg kX=>kk k _ hk hg ae ae ae ae) (fun k hk hg=>kk k _ hk hg ae ae ae ae) Z
  have Vl:∀k,k<lo->gG M2 k=gG M k:=fun k hk=>(g9 k hk).trans (a1 k (by have:=h.lo_m;omega))
  have q1:=h.lo_m;rcases Od with ⟨rfl,e0⟩ | ⟨hl,rk,rfl,r1,r2,r3,r4⟩
  ·rw[e0]at je
   have jd:ps=[]:=length_eq_zero_iff.1 e0;have hrs:rs=[]:=length_eq_zero_iff.1 Z;refine lO Kd g4 y0 e0 @Int.toNat_natCast ?_;refine⟨?_,fin _ (n2+14) (n2+32) _ Z Z Z Z Z ?_ ?_ ?_ ?_,?_,Z⟩
   ·(repeat' apply an)<;>exact yj
   ·rw[e0];exact J
   ·rw[hrs];exact J
   ·exact J
   ·intro k h1 h2 h3;exact J
   ·intro k hk
    have:=Vl k hk;exact J
  ·have n1:=aZ h.tg r3 ae
   have hd:aw m rk=False/\aw rk m=False:=by simp only[aw,eq_iff_iff,iff_false];exact⟨n1,n1.symm⟩
   have yr:gG M2 rk=some (.row rs):=((g8 rk Z n1.symm (by rw[r3];simp) (by rw[r3];simp)).trans (a1 rk Z)).trans r4;have kB:List.take ps.length rs=rs:=take_of_length_le Z;have Jw:List.drop ps.length (rs++[XV.nils])=[XV.nils]:=by rw[drop_append_of_le_length Z,drop_eq_nil_of_le Z];rfl
   refine wT Kd g4 yr y0 MF hd kB Jw @Int.toNat_natCast ?_;have gE:=fun v=>uJ (a:=.nils) (v:=v) rs
   rw[MF]at gE;rw[gE];refine⟨?_,fin _ (n2+14) (n2+32) _ Z Z Z Z Z ?_ ?_ ?_ ?_,?_,Z⟩
   ·(repeat' apply an)<;>exact yj
   ·exact J
   ·exact J
   ·exact J
   ·intro k h1 h2 h3
    have e1:k≠rk:=fun e=>h3 (by rw[e,t2 rk Z];exact r3)
    exact J
   ·intro k hk
    have:=Vl k hk;exact J
def Pp (M:Hp) (nx lo m:Nat) (l:List aR) (o:ew):Prop:=o.1 = .tup []/\cZ o.2.1 lo o.2.2 m l/\aq lo M o.2.1/\nx<=o.2.2
theorem f92 (ρ:aK) (hr:b8 M b r cs) (h:cZ M lo hi m l) (hh:hi<=nx) (few:l.length<=1000):ar am ρ 92 [.mp m 0,.agg cs] M nx (Pp M nx lo m (l++[r])):=by
 obtain⟨pk,pa,pb,pv,ve,rfl,⟨p1,p2⟩,⟨q1,q2⟩,_,_⟩:=hr.cells;obtain⟨tag,ps,vnum,vnames,vrows,vend,rs,le,h⟩:=h;replace h:=h.norm;obtain⟨JM,Sc⟩:∃f,f=fun k=>if k<hi then tag k else Tg.none:=⟨_,rfl⟩
 rw[<-Sc]at h;have htn:∀k,hi<=k->JM k = .none:=fun k hk=>by rw[Sc];exact if_neg Z
 clear Sc;have vY:=h.m_hi;have mo:=h.lo_m;have hM:=h.row;have hw:IntKind.i64.wrap ((l.length:Int)+1)=((l.length+1:Nat):Int):=by rw[wrap_i64 Z Z];omega
 have ay:(l++[r]).length=l.length+1:=ae;have hU:∀(M:Hp) (n:Nat) (k:Int) (b:Bool),Nt am M 162 n k (.bool b) (.i 23 (.bool false)) (some (.map [] 0))=some ⟨.udf,[n],[(n,some (.map (cx vB (dD [] 0 k b)) (l8 [] 0 k)))]⟩:=fun M n k b=>MZ (P:=am) (M:=M) 162 n 23 0 k b (.bool false) []
 rcases h.ends with ⟨rfl,rfl⟩ | ⟨ek,ec,rfl,e1,e2,e3,e4⟩
 ·have jc:∀t,aH ([]:List (Nat×Int×Bool)) t=bH l t:=h.ended
  have fin:∀(M':Hp) (n' c':Nat) (le':List (Nat×Int×Bool)),(nx+7)<n'->hi<=n'->gG M' m=some (.row [vnum,vnames,vrows,.int .i64 ((l.length+1:Nat):Int),.mm (nx+7)])->gG M' (nx+7)=some (.map (cx vB le') c')->(∀k,k<hi->k≠m->k≠(nx+7)->gG M' k=gG M k)->gn r=false->(∀t,aH le' t=bH (l++[r]) t)->cZ M' lo n' m (l++[r]):=fun M' n' c' le' g1 g2 g3 g4 g5 g6 g7=>by
   obtain⟨tag',vd⟩:=h.doEnd (l':=l++[r]) (mn':=l.length+1) (.inr Z) g1 g3 g4 g5 g2 (fun t x=>ss g6) g7 ae;rw[<-ay]at vd;exact⟨tag',ps,vnum,vnames,vrows,_,rs,le',vd⟩
  by_cases k1:r.kind=1
  ·refine ar.wk 63 [] Tryz.func92 ?_
   refine wT lq p1 p2 q1 q2 hM k1 hw hU ?_;refine⟨rfl,fin _ _ (l8 [] 0 r.t) (dD [] 0 r.t false) ak ak J J (fun k h1 h2 h3=>J) (rL Z Z) fun t=>?_,fun k hk=>J,ak⟩;rw[cQ,rU k1,jc]
  by_cases k3:r.kind=3
  ·have JF:nv r=⟨r.v,false⟩:=if_pos k3
   have vZ:gn r=true:=by simp[gn,k3]
   refine ar.wk 63 [] Tryz.func92 ?_;refine rf lq p1 p2 q1 q2 hM k1 k3 hw hU ?_;generalize xu:ci (ci (ci M _ _) _ _) _ _=M1;have x0:gG M1 m=some (.row [vnum,vnames,vrows,.int .i64 l.length,.mm (nx+7)]):=by rw[<-xu];exact J
   have x1:gG M1 (nx+7)=some (.map (cx vB []) 0):=by rw[<-xu];exact J
   have x2:∀k,k<hi->k≠m->k≠(nx+7)->gG M1 k=gG M k:=fun k h1 h2 h3=>by rw[<-xu];exact J
   have x3:aq lo M M1:=fun k hk=>by rw[<-xu];exact J
   clear xu;obtain⟨MV,oO⟩:=h.doEnd (n':=nx+8) (l':=l) (mn':=l.length) (.inr Z) Z x0 x1 x2 Z (fun _ _=>rfl) jc (Nat.le_refl _);have kT:=fun nx' (hn:nx+8<=nx')=>KK ρ (nx:=nx') oO hn few vZ
   rw[JF]at kT;simp only[et]at kT;refine lL (kT _ Z) af ?_ ?_
   ·refine dt lq ?_;try exact⟨⟩
   ·rintro⟨u,M2,n2⟩ ⟨g1,⟨CS,Re,w0,w1,w2,Rg,h2⟩,g3,g4⟩
    simp only at g1 g3 g4;subst g1;have aW:=h2.row;have JE:=h2.m_hi;simp only at aW JE;refine gk lq aW hw ?_;refine⟨rfl,⟨CS,Re,w0,w1,w2,.mm (nx+7),Rg,[],?_⟩,(x3.trans g3).set Z _,ak⟩;rw[ay];exact h2.many J (fun k h1 h2=>J) ak
  by_cases k4:r.kind=4
  ·have JF:nv r=⟨0,true⟩:=if_neg k3
   have vZ:gn r=true:=by simp[gn,k4]
   refine ar.wk 63 [] Tryz.func92 ?_;refine zQ lq p1 p2 q1 q2 hM k1 k3 k4 hw hU ?_;generalize xu:ci (ci (ci M _ _) _ _) _ _=M1;have x0:gG M1 m=some (.row [vnum,vnames,vrows,.int .i64 l.length,.mm (nx+7)]):=by rw[<-xu];exact J
   have x1:gG M1 (nx+7)=some (.map (cx vB []) 0):=by rw[<-xu];exact J
   have x2:∀k,k<hi->k≠m->k≠(nx+7)->gG M1 k=gG M k:=fun k h1 h2 h3=>by rw[<-xu];exact J
   have x3:aq lo M M1:=fun k hk=>by rw[<-xu];exact J
   clear xu;obtain⟨MV,oO⟩:=h.doEnd (n':=nx+8) (l':=l) (mn':=l.length) (.inr Z) Z x0 x1 x2 Z (fun _ _=>rfl) jc (Nat.le_refl _);have kT:=fun nx' (hn:nx+8<=nx')=>KK ρ (nx:=nx') oO hn few vZ
   rw[JF]at kT;simp only[et]at kT;refine lL (kT _ Z) af ?_ ?_
   ·refine dt lq ?_;try exact⟨⟩
   ·rintro⟨u,M2,n2⟩ ⟨g1,⟨CS,Re,w0,w1,w2,Rg,h2⟩,g3,g4⟩
    simp only at g1 g3 g4;subst g1;have aW:=h2.row;have JE:=h2.m_hi;simp only at aW JE;refine gk lq aW hw ?_;refine⟨rfl,⟨CS,Re,w0,w1,w2,.mm (nx+7),Rg,[],?_⟩,(x3.trans g3).set Z _,ak⟩;rw[ay];exact h2.many J (fun k h1 h2=>J) ak
  by_cases k6:r.kind=6
  ·refine ar.wk 63 [] Tryz.func92 ?_
   refine yq lq p1 p2 q1 q2 hM k1 k3 k4 k6 hw hU ?_;refine⟨rfl,fin _ _ (l8 [] 0 r.t) (dD [] 0 r.t true) ak ak J J (fun k h1 h2 h3=>J) (rL Z Z) fun t=>?_,fun k hk=>J,ak⟩;rw[cQ,n_ (.inl k6),jc]
  by_cases k7:r.kind=7
  ·refine ar.wk 63 [] Tryz.func92 ?_
   refine yq lq p1 p2 q1 q2 hM k1 k3 k4 k6 k7 (aI hw hU) ?_;refine⟨rfl,fin _ _ (l8 [] 0 r.t) (dD [] 0 r.t true) ak ak J J (fun k h1 h2 h3=>J) (rL Z Z) fun t=>?_,fun k hk=>J,ak⟩;rw[cQ,n_ (.inr k7),jc]
  ·refine ar.wk 63 [] Tryz.func92 ?_
   refine yq lq p1 p2 q1 q2 hM k1 k3 k4 k6 k7 (aI hw hU) ?_;refine⟨rfl,fin _ _ 0 [] ak ak J J (fun k h1 h2 h3=>J) (rL Z Z) fun t=>?_,fun k hk=>J,ak⟩;rw[tI k1 k6 k7,jc]
 ·have n1:=aZ h.tg e3 ae
  have hd:aw m ek=False/\aw ek m=False:=by simp only[aw,eq_iff_iff,iff_false];exact⟨n1,n1.symm⟩
  have jc:∀t,aH (le:List (Nat×Int×Bool)) t=bH l t:=h.ended;have fin:∀(M':Hp) (n' c':Nat) (le':List (Nat×Int×Bool)),ek<n'->hi<=n'->gG M' m=some (.row [vnum,vnames,vrows,.int .i64 ((l.length+1:Nat):Int),.mm ek])->gG M' ek=some (.map (cx vB le') c')->(∀k,k<hi->k≠m->k≠ek->gG M' k=gG M k)->gn r=false->(∀t,aH le' t=bH (l++[r]) t)->cZ M' lo n' m (l++[r]):=fun M' n' c' le' g1 g2 g3 g4 g5 g6 g7=>by
   obtain⟨tag',vd⟩:=h.doEnd (l':=l++[r]) (mn':=l.length+1) (.inl ⟨e1,e2,e3⟩) g1 g3 g4 g5 g2 (fun t x=>ss g6) g7 ae;rw[<-ay]at vd;exact⟨tag',ps,vnum,vnames,vrows,_,rs,le',vd⟩
  by_cases k1:r.kind=1
  ·refine ar.wk 63 [] Tryz.func92 ?_
   refine rf lq p1 p2 q1 q2 hM k1 hw hd e4 ?_;refine⟨rfl,fin _ _ (l8 le ec r.t) (dD le ec r.t false) ak ak J J (fun k h1 h2 h3=>J) (rL Z Z) fun t=>?_,fun k hk=>J,ak⟩;rw[cQ,rU k1,jc]
  by_cases k3:r.kind=3
  ·have JF:nv r=⟨r.v,false⟩:=if_pos k3
   have vZ:gn r=true:=by simp[gn,k3]
   refine ar.wk 63 [] Tryz.func92 ?_;refine zQ lq p1 p2 q1 q2 hM k1 k3 hw hd e4 ?_;generalize xu:ci M _ _=M1;have x0:gG M1 m=some (.row [vnum,vnames,vrows,.int .i64 l.length,.mm ek]):=by rw[<-xu];exact J
   have x1:gG M1 ek=some (.map (cx vB le) ec):=by rw[<-xu];exact J
   have x2:∀k,k<hi->k≠m->k≠ek->gG M1 k=gG M k:=fun k h1 h2 h3=>by rw[<-xu];exact J
   have x3:aq lo M M1:=fun k hk=>by rw[<-xu];exact J
   clear xu;obtain⟨MV,oO⟩:=h.doEnd (n':=nx+8) (l':=l) (mn':=l.length) (.inl ⟨e1,e2,e3⟩) Z x0 x1 x2 Z (fun _ _=>rfl) jc (Nat.le_refl _);have kT:=fun nx' (hn:nx+8<=nx')=>KK ρ (nx:=nx') oO hn few vZ
   rw[JF]at kT;simp only[et]at kT;refine lL (kT _ Z) af ?_ ?_
   ·refine dt lq ?_;try exact⟨⟩
   ·rintro⟨u,M2,n2⟩ ⟨g1,⟨CS,Re,w0,w1,w2,Rg,h2⟩,g3,g4⟩
    simp only at g1 g3 g4;subst g1;have aW:=h2.row;have JE:=h2.m_hi;simp only at aW JE;refine gk lq aW hw ?_;refine⟨rfl,⟨CS,Re,w0,w1,w2,.mm ek,Rg,le,?_⟩,(x3.trans g3).set Z _,ak⟩;rw[ay];exact h2.many J (fun k h1 h2=>J) ak
  by_cases k4:r.kind=4
  ·have JF:nv r=⟨0,true⟩:=if_neg k3
   have vZ:gn r=true:=by simp[gn,k4]
   refine ar.wk 63 [] Tryz.func92 ?_;refine yq lq p1 p2 q1 q2 hM k1 k3 k4 hw hd e4 ?_;generalize xu:ci M _ _=M1;have x0:gG M1 m=some (.row [vnum,vnames,vrows,.int .i64 l.length,.mm ek]):=by rw[<-xu];exact J
   have x1:gG M1 ek=some (.map (cx vB le) ec):=by rw[<-xu];exact J
   have x2:∀k,k<hi->k≠m->k≠ek->gG M1 k=gG M k:=fun k h1 h2 h3=>by rw[<-xu];exact J
   have x3:aq lo M M1:=fun k hk=>by rw[<-xu];exact J
   clear xu;obtain⟨MV,oO⟩:=h.doEnd (n':=nx+8) (l':=l) (mn':=l.length) (.inl ⟨e1,e2,e3⟩) Z x0 x1 x2 Z (fun _ _=>rfl) jc (Nat.le_refl _);have kT:=fun nx' (hn:nx+8<=nx')=>KK ρ (nx:=nx') oO hn few vZ
   rw[JF]at kT;simp only[et]at kT;refine lL (kT _ Z) af ?_ ?_
   ·refine dt lq ?_;try exact⟨⟩
   ·rintro⟨u,M2,n2⟩ ⟨g1,⟨CS,Re,w0,w1,w2,Rg,h2⟩,g3,g4⟩
    simp only at g1 g3 g4;subst g1;have aW:=h2.row;have JE:=h2.m_hi;simp only at aW JE;refine gk lq aW hw ?_;refine⟨rfl,⟨CS,Re,w0,w1,w2,.mm ek,Rg,le,?_⟩,(x3.trans g3).set Z _,ak⟩;rw[ay];exact h2.many J (fun k h1 h2=>J) ak
  by_cases k6:r.kind=6
  ·refine ar.wk 63 [] Tryz.func92 ?_
   refine yq lq p1 p2 q1 q2 hM k1 k3 k4 k6 hw (aI hd e4) ?_;refine⟨rfl,fin _ _ (l8 le ec r.t) (dD le ec r.t true) ak ak J J (fun k h1 h2 h3=>J) (rL Z Z) fun t=>?_,fun k hk=>J,ak⟩;rw[cQ,n_ (.inl k6),jc]
  by_cases k7:r.kind=7
  ·refine ar.wk 63 [] Tryz.func92 ?_
   refine yq lq p1 p2 q1 q2 hM k1 k3 k4 k6 k7 (aI hw (aI hd e4)) ?_;refine⟨rfl,fin _ _ (l8 le ec r.t) (dD le ec r.t true) ak ak J J (fun k h1 h2 h3=>J) (rL Z Z) fun t=>?_,fun k hk=>J,ak⟩;rw[cQ,n_ (.inr k7),jc]
  ·refine ar.wk 63 [] Tryz.func92 ?_
   refine yq lq p1 p2 q1 q2 hM k1 k3 k4 k6 k7 (aI hw (aI hd e4)) ?_;refine⟨rfl,fin _ _ ec le ak ak J J (fun k h1 h2 h3=>J) (rL Z Z) fun t=>?_,fun k hk=>J,ak⟩;rw[tI k1 k6 k7,jc]
def mc (i:Nat):Int:=if i=0 then 4 else if i=1 then 5 else 9+i
def kM (i:Nat) (l:List aR) (r:aR):Bool:=match i with
 | 0=>decide (1<=r.kind)&&decide (r.kind<=7)
 | 1=>fL r
 | 2=>!(decide (r.t=0))
 | 3=>!(decide (r.kind=1)) || !(bH l r.t).isSome
 | 4=>decide (r.kind=1)||(bH l r.t).isSome
 | 5=>!((bH l r.t).getD false)
 | 6=>CT l r
 | 7=>FB l r
 | 8=>tQ r.es
 | 9=>tN l r
 | 10=>ka l r
 | _=>uu l r
def oW (l:List aR) (r:aR):Nat->Nat->Int
 | 0,_=>0
 | n+1,i=>if kM i l r then oW l r n (i+1) else mc i
def eA (l:List aR) (r:aR):Int:=oW l r 12 0
def yt:List XV:=(List.range 12).flatMap fun i=>[.int .i64 (mc i),.fn (.func (125+i)) [] []]
theorem EQ:∀i,i<12->(yt.drop (i*2)).take 2=[.int .i64 (mc i),.fn (.func (125+i)) [] []]:=by
 intro i hi;have:i=0\/i=1\/i=2\/i=3\/i=4\/i=5\/i=6\/i=7\/i=8\/i=9\/i=10\/i=11:=Z;rcases this with rfl | rfl | rfl | rfl | rfl | rfl | rfl | rfl | rfl | rfl | rfl | rfl<;>rfl
theorem f91 (ρ:aK) (M:Hp) (nx:Nat):ar am ρ 91 [] M nx fun r=>∃k,r.1 = .sl k 2 0 12 12/\nx<=k/\k<r.2.2/\gG r.2.1 k=some (.row yt)/\aq nx M r.2.1/\nx<=r.2.2:=by
 refine ar.wk 14 [.tmp 0] Tryz.func91 ?_;refine dt X5 ?_;refine⟨nx+13,rfl,Z,Z,?_,O,Z⟩;rw[if_pos (show aw (nx+13) (nx+13) from rfl)];rfl
theorem TJ (hS:kL) (hN:kJ) (ρ:aK) (hr:b8 M b r cs) (hb:b<=nx) (hc:dV r.p<=1000) (iu:gI r.p) (h:cZ M lo hi m l) (hh:hi<=nx) (few:l.length<=1000) (hi':i<12) :
 ar am ρ (125+i) [.mp m 0,.agg cs] M nx (fe nx M (.bool (kM i l r))):=by
 have hE:∃le,L5 M nx m le/\∀t,aH le t=bH l t:=by
  obtain⟨tag,ps,vnum,vnames,vrows,vend,rs,le,h⟩:=h;refine⟨le,⟨Nat.lt_of_lt_of_le h.m_hi hh,_,_,_,_,_,h.row,?_⟩,h.ended⟩;rcases h.ends with q | ⟨k,c,q1,q2,q3,q4,q5⟩
  ·exact .inl q
  ·exact .inr ⟨k,c,q1,Z,q5⟩
 obtain⟨le,hE,jc⟩:=hE;have:i=0\/i=1\/i=2\/i=3\/i=4\/i=5\/i=6\/i=7\/i=8\/i=9\/i=10\/i=11:=Z;rcases this with rfl | rfl | rfl | rfl | rfl | rfl | rfl | rfl | rfl | rfl | rfl | rfl
 ·exact XN ρ hr
 ·exact Wz ρ hr hb hc
 ·exact WK ρ hr
 ·have:=WA ρ (hr.wk hb) hE (Nat.le_refl _)
  rw[jc]at this;exact this
 ·have:=XQ ρ (hr.wk hb) hE (Nat.le_refl _)
  rw[jc]at this;exact this
 ·have:=W4 ρ (hr.wk hb) hE (Nat.le_refl _)
  rw[jc]at this;exact this
 ·exact WI ρ hr h hh
 ·exact Wo ρ hr h hh
 ·exact X2 ρ hr hb
 ·exact Yb ρ hr hb h hh
 ·exact Wm hS hN ρ hr hb h hh few
 ·exact Xk ρ hr hb hc iu h hh
theorem Ah (hi:i<12):oW l r (12 - i) i=if kM i l r then oW l r (12 - (i+1)) (i+1) else mc i:=by
 rw[show 12 - i=(12 - (i+1))+1 by omega];rfl
theorem f63 (hS:kL) (hN:kJ) (ρ:aK) (hr:b8 M b r cs) (hb:b<=nx) (hc:dV r.p<=1000) (iu:gI r.p) (h:cZ M lo hi m l) (hh:hi<=nx) (few:l.length<=1000) :
 ar am ρ 63 [.mp m 0,.agg cs] M nx fun o=>o.1 = .int .i64 (eA l r)/\cZ o.2.1 lo o.2.2 m (if eA l r=0 then l++[r] else l)/\aq lo M o.2.1/\nx<=o.2.2:=by
 have mo:lo<=m/\m<hi:=by obtain⟨_,_,_,_,_,_,_,_,h⟩:=h;exact⟨h.lo_m,h.m_hi⟩
 have mP:=hr;obtain⟨pk,pa,pb,pv,ve,rfl,⟨p1,p2⟩,⟨q1,q2⟩,_,_⟩:=hr.cells;refine ar.wk 27 [.tmp 4] Tryz.func63 ?_;refine lO An p1 p2 q1 q2 ?_;refine gQ (f91 ρ _ _) ?_;rintro⟨u,M1,n1⟩ ⟨k,g1,g2,g3,g4,g5,g6⟩;simp only at g1 g2 g3 g4 g5 g6;subst g1;have Qw:aq nx M M1:=((aq.refl nx M).set (Nat.le_refl _) _).trans (g5.le Z);have sQ:=g5 nx Z;rw[ao,if_pos rfl]at sQ;have a9:bE M1 n1 (.sl k 2 0 12 12) 2 12 yt:=⟨Z,.inr ⟨k,0,12,yt,rfl,g3,by unfold vR;rw[g4],af,rfl⟩⟩;refine dt An ?_;refine aC (fun m' s=>∃i:Nat,i<=12/\m'=12 - i/\oW l r (12 - i) i=eA l r/\gG s.env 0=some (.mp m 0)/\gG s.env 3=some (.mp nx 0)/\gG s.env 9=some (.sl k 2 0 12 12)/\gG s.env 10=some (.int .i64 12)/\gG s.env 11=some (.int .i64 i)/\aq n1 M1 s.M/\n1<=s.nx)
  12 ⟨0,Z,Z,rfl,?_⟩ ?_
 ·refine dt An ?_
  exact⟨O,Z⟩
 ·rintro m' ⟨env,M',nx'⟩ ⟨i,hi',ir,pA,e0,e3,e9,dx,kW,ha,hn⟩
  simp only at e0 e3 e9 dx kW ha hn;have NQ:=(ha nx Z).trans sQ;have T8:aq nx M M':=Qw.trans (ha.le Z);by_cases aL:(i:Int)<12
  ·have aP:i<12:=Z
   obtain⟨n,o,jw,bC,aU⟩:=a9.elem (P:=am) aP (t:=211) (t':=215) HO.2.2.2.1 Ii.1;have aU:=aU M' ha;rw[EQ i aP]at aU;have bV:=eF i;have bw:=Ah (l:=l) (r:=r) aP;refine rf An e0 e3 e9 dx kW aL bC aU NQ ?_;refine lG (TJ hS hN ρ (mP.agr ((((T8.set (show nx<=nx'+3 by omega) _).set (show nx<=nx'+3 by omega) _)).le hb)) Z hc iu (h.agr ((((T8.set (show nx<=nx'+3 by omega) _).set (show nx<=nx'+3 by omega) _)).le hh) (Nat.le_refl _)) Z few aP) fun M2 n2 k2 k3=>?_
   have y:=k2 (nx'+3) Z;rw[ao,if_pos rfl]at y;have jX:aq n1 M1 M2:=((ha.set (show n1<=nx'+3 by omega) _).set (show n1<=nx'+3 by omega) _).trans (k2.le Z);cases hq:kM i l r with
   | true =>
     refine oq An e0 e3 e9 dx kW hq bV ?_;exact⟨12 - (i+1),Z,i+1,Z,rfl,by rw[<-pA,bw,hq];rfl,rfl,jX,Z⟩
   | false =>
     refine oq An e0 e3 e9 dx kW hq y ?_;have hrn:eA l r=mc i:=by rw[<-pA,bw,hq];rfl
     have cf:mc i≠0:=by unfold mc;split<;>(try split)<;>omega
     have haF:aq nx M M2:=Qw.trans (jX.le Z);rw[hrn,if_neg cf];exact⟨rfl,h.agr (haF.le hh) Z,haF.le Z,Z⟩
  ·have gB:i=12:=Z
   subst gB;have Z4:eA l r=0:=pA.symm;refine oq An e0 e3 e9 dx kW aL NQ ?_;refine gQ (f92 ρ (mP.agr (T8.le hb)) (h.agr (T8.le hh) (Nat.le_refl _)) Z few) ?_;rintro⟨u,M2,n2⟩ ⟨k1,k2,k3,k4⟩;simp only at k1 k2 k3 k4;subst k1;refine dt An ?_;rw[Z4,if_pos rfl];exact⟨rfl,k2.agr (aq.refl _ _) Z,(T8.le Z).trans k3,Z⟩
def R2 (r:aR):Prop:=dV r.p<=1000/\gI r.p
def Id (L:List aR) (n:Nat) (rl:Int):Prop :=
 (∀j r,j<n->L[j]?=some r->eA (L.take j) r=0)/\((n=L.length/\rl=0)\/∃r,L[n]?=some r/\eA (L.take n) r=rl/\rl≠0)
theorem Jd (hm:nx<=m) (hM:gG M m=some (.row [.nilm,.nils,.nils,.int .i64 0,.nilm])):cZ M nx (m+1) m [] :=
 ⟨fun _=>.mach,[],.nilm,.nils,.nils,.nilm,[],[],hm,Z,rfl,hM,.inl ⟨rfl,rfl⟩,⟨ae,rfl,.inl ⟨rfl,rfl⟩⟩,⟨ae,rfl,.inl ⟨rfl,rfl⟩⟩,fun i t x h=>by simp at h,fun t x h=>(h rfl).elim,.nil,.inl ⟨rfl,rfl⟩,fun t=>rfl,Nat.le_refl _⟩
theorem f36 (hS:kL) (hN:kJ) (ρ:aK) (hL:cP M b v L) (hb:b<=nx) (few:L.length<=1000) (fit:∀r ∈ L,R2 r) :
 ar am ρ 36 [v] M nx fun o=>(∃n rl,o.1 = .tup [.int .i64 (n:Nat),.int .i64 rl]/\Id L n rl)/\aq nx M o.2.1/\nx<=o.2.2:=by
 obtain⟨row,a9,gS⟩:=hL;have ay:=fun N=>a9.len (P:=am) (t:=22) jp.2.2.2.2.2 N
 have Zf:=a9.cell;refine ar.wk 24 [.tmp 2,.tmp 3] Tryz.func36 ?_;refine fM Eh ay ?_;refine aC (fun m' s=>∃i:Nat,i<=L.length/\m'=L.length - i/\(∀j r,j<i->L[j]?=some r->eA (L.take j) r=0)/\gG s.env 0=some v/\gG s.env 4=some (.mp (nx+2) 0)/\gG s.env 8=some v/\gG s.env 9=some (.int .i64 L.length)/\gG s.env 10=some (.int .i64 i) /\
  cZ s.M nx s.nx (nx+2) (L.take i)/\aq nx M s.M/\nx+3<=s.nx)
  L.length ⟨0,Z,Z,?_⟩ ?_
 ·refine dt Eh ?_
  refine⟨fun j r hj=>Z,?_,O,Z⟩;exact(Jd Z J).agr (aq.refl _ _) Z
 ·rintro m' ⟨env,M',nx'⟩ ⟨i,hi,ir,Gs,e0,e4,e8,e9,dx,oO,ha,hn⟩
  simp only at e0 e4 e8 e9 dx oO ha hn;by_cases aL:(i:Int)<L.length
  ·have aP:i<L.length:=Z
   obtain⟨r,D_⟩:∃r,L[i]?=some r:=⟨L[i],by simp[aP]⟩;obtain⟨n,o,jw,bC,aU⟩:=a9.elem (P:=am) aP (t:=22) (t':=43) jp.2.2.2.1 iY.1;have aU:=aU M' (ha.le hb);have mP:=(gS i r D_).agr (ha.le hb);obtain⟨pk,pa,pb,pv,ve,dI,⟨p1,p2⟩,⟨q1,q2⟩,_,_⟩:=mP.cells;rw[dI]at aU mP;have bV:=eF i;obtain⟨f1,f2⟩:=fit r (mem_of_getElem? D_);have kB:L.take (i+1)=L.take i++[r]:=by rw[take_add_one,D_];rfl
   refine yq Eh e0 e4 e8 e9 dx aL bC aU p1 p2 (aI q1 q2) ?_;generalize xu:ci (ci M' _ _) _ _=M1;have a1:aq nx' M' M1:=by rw[<-xu];exact O
   clear xu;refine gQ (f63 hS hN ρ (mP.agr (a1.le Z)) Z f1 f2 (oO.agr a1 (Nat.le_refl _)) Z (by rw[length_take];omega)) ?_;rintro⟨u,M2,n2⟩ ⟨k1,k2,k3,k4⟩;simp only at k1 k2 k3 k4;subst k1;have jX:aq nx M M2:=(ha.trans (a1.le Z)).trans k3;by_cases hq:eA (L.take i) r=0
   ·rw[if_pos hq,<-kB]at k2
    refine oq Eh e0 e4 e8 e9 dx hq bV ?_;refine⟨L.length - (i+1),Z,i+1,Z,rfl,fun j r' hj sA=>?_,rfl,k2.agr (aq.refl _ _) Z,jX,Z⟩;by_cases kX:j=i
    ·subst kX
     rw[D_]at sA;cases sA;exact hq
    ·exact Gs j r' Z sA
   ·refine ky Eh e0 e4 e8 e9 dx hq ?_
    exact⟨⟨i,_,rfl,Gs,.inr ⟨r,D_,rfl,hq⟩⟩,jX,Z⟩
  ·have gB:i=L.length:=Z
   refine oq Eh e0 e4 e8 e9 dx aL ay ?_;subst gB;exact⟨⟨_,_,rfl,Gs,.inl ⟨rfl,rfl⟩⟩,ha,Z⟩
end Go.Xs
namespace Go.Xs
open List Nat Option
variable{S:HS}{r:aR}
noncomputable section
open Go.Proofs
def dL (L:List aR):Nat->HS
 | 0=>vF
 | n+1=>match L[n]? with | some r=>(dL L n).take n r | none=>dL L n
theorem zt (S:HS) (n:Nat) (cr:List XV) (i:Int) (r:aR):∀k,(S.wr n cr).preds i r k=(S.preds i r k).wr n cr
 | 0=>rfl
 | k+1=>by
   unfold HS.preds;rw[zt S n cr i r k];cases r.es[k]? <;> rfl
theorem Dw (S:HS) (n:Nat) (cr:List XV) (i:Nat) (r:aR):(S.wr n cr).take i r=(S.take i r).wr n cr:=by
 unfold HS.take;by_cases h1:r.kind=1
 ·rw[if_pos h1,if_pos h1];rfl
 rw[if_neg h1,if_neg h1];by_cases h2:r.kind=2
 ·rw[if_pos h2,if_pos h2];rfl
 rw[if_neg h2,if_neg h2];by_cases h3:r.kind=3\/r.kind=4
 ·rw[if_pos h3,if_pos h3];rfl
 rw[if_neg h3,if_neg h3];by_cases h5:r.kind=5
 ·rw[if_pos h5,if_pos h5];exact zt ..
 rw[if_neg h5,if_neg h5];by_cases h6:r.kind=6
 ·rw[if_pos h6,if_pos h6]
  show (match S.txs[((S.num r.t).getD 0).toNat]? with | some a=>_ | none=>_)=_;cases S.txs[((S.num r.t).getD 0).toNat]? <;> rfl
 rw[if_neg h6,if_neg h6];show (match S.txs[((S.num r.t).getD 0).toNat]? with | some a=>_ | none=>_)=_;cases S.txs[((S.num r.t).getD 0).toNat]? <;> rfl
theorem kK.wr (h:kK S r) (n:Nat) (cr:List XV):kK (S.wr n cr) r:=⟨h.kind,h.tx,h.txs,h.mods,h.com,h.looks,h.cnt⟩
theorem kK.addr (h:kK S r) (cs:List XV):kK (S.addr cs) r:=⟨h.kind,h.tx,h.txs,h.mods,h.com,h.looks,h.cnt⟩
structure pS (S:HS):Prop where
 here:∀(k:Nat) (x j:Int),j ∈ S.places k x->0<=j/\j<S.mods.length
 few:S.txs.length<=100000/\S.mods.length<=100000/\∀k x,(S.places k x).length<=100000
def dl (S:HS) (k:Nat) (j:Nat):Prop:=∃x,(S.places k x).getLast?=some (j:Int)
def jN (L:List aR):HS:=(dL L L.length).done L.length (dL L L.length).txs.length fun j=>∃k,k<(dL L L.length).txs.length/\dl (dL L L.length) k j
def Ti (r:aR):Prop:=R2 r/\r.es.length<=1000
theorem wo {α β:Type} {f:α->β}:∀{l:List α},(l.map f).Nodup->∀{a b:α},a ∈ l->b ∈ l->f a=f b->a=b
 | [],_,a,b,ha,_,_=>by cases ha
 | c::l,hn,a,b,ha,hb,h=>by
   rw[map_cons,nodup_cons]at hn;rcases mem_cons.1 ha with e1 | Jo <;> rcases mem_cons.1 hb with e2 | rA
   ·rw[e1,e2]
   ·exact(hn.1 (by rw[<-e1,h];exact mem_map.2 ⟨b,rA,rfl⟩)).elim
   ·exact(hn.1 (by rw[<-e2,<-h];exact mem_map.2 ⟨a,Jo,rfl⟩)).elim
   ·exact wo hn.2 Jo rA h
theorem DH {α:Type} {f:α->Nat} {seen:List Nat} {b:Nat}:∀(l:List α),(l.filter fun e=>decide (f e ∉ seen++[b])).length<=(l.filter fun e=>decide (f e ∉ seen)).length
 | []=>Nat.le_refl _
 | a::l=>by
   have ih:=DH (f:=f) (seen:=seen) (b:=b) l;rw[filter_cons,filter_cons];by_cases h:f a ∈ seen
   ·have h':f a ∈ seen++[b]:=mem_append_left _ h
    simp only[h,h',not_true_eq_false,decide_false];simpa using ih
   ·by_cases h':f a ∈ seen++[b]
    ·simp only[h,h',not_true_eq_false,not_false_eq_true,decide_false,decide_true,if_true,length_cons]
     simp only[Bool.false_eq_true,if_false];omega
    ·simp only[h,h',not_false_eq_true,decide_true,if_true,length_cons]
     omega
theorem Dp {α:Type} {f:α->Nat} {seen:List Nat}:∀{l:List α} {e:α},f e ∉ seen->e ∈ l->(l.filter fun a=>decide (f a ∉ seen++[f e])).length<(l.filter fun a=>decide (f a ∉ seen)).length
 | [],e,_,he=>by cases he
 | a::l,e,y7,he=>by
   rw[filter_cons,filter_cons];rcases mem_cons.1 he with rfl | he
   ·have h':f e ∈ seen++[f e]:=ae
    have:=DH (f:=f) (seen:=seen) (b:=f e) l;simp only[y7,h',not_true_eq_false,not_false_eq_true,decide_false,decide_true,if_true,length_cons];simp only[Bool.false_eq_true,if_false];omega
   ·have ih:=Dp (f:=f) y7 he
    by_cases h:f a ∈ seen
    ·have h':f a ∈ seen++[f e]:=mem_append_left _ h
     simp only[h,h',not_true_eq_false,decide_false];simpa using ih
    ·by_cases h':f a ∈ seen++[f e]
     ·simp only[h,h',not_true_eq_false,not_false_eq_true,decide_false,decide_true,if_true,length_cons]
      simp only[Bool.false_eq_true,if_false];omega
     ·simp only[h,h',not_false_eq_true,decide_true,if_true,length_cons]
      omega
structure KM (L:List aR) (M:Hp) (nx b:Nat) (o:ew):Prop where
 post:∃n rl,Id L n rl/\nx<=o.2.2/\((rl≠0/\o.1 = .tup [.nilp,.int .i64 (n:Nat),.int .i64 rl]/\aq nx M o.2.1) \/
  (rl=0/\∃h N cr,o.1 = .tup [.mp h 0,.int .i64 (n:Nat),.int .i64 0]/\HF o.2.1 o.2.2 N nx h ((jN L).wr L.length cr)/\aq nx M o.2.1 /\
    ∀j r,L[j]?=some r->eL o.2.1 (iJ o.2.2 N) r ((cr.drop (j*11)).take 11)))
theorem jU (hS:kL) (hN:kJ) (ρ:aK) (j9:ρ.det=false) {M:Hp} {nx b:Nat} {v:XV} {L:List aR} (hL:cP M b v L) (hb:b<=nx) (few:L.length<=1000) (fit:∀r ∈ L,Ti r)
 (hT:(∀j r,L[j]?=some r->eA (L.take j) r=0)->(∀i r,L[i]?=some r->kK (dL L i) r)/\pS (dL L L.length)) :
 ar am ρ 10 [v] M nx (KM L M nx b):=by
 have Zf:dY v=[v]/\ax v=true:=by
  obtain⟨row,a9,_⟩:=hL;exact a9.cell
 refine ar.wk 97 [.tmp 2,.tmp 3,.tmp 4] Tryz.func10 ?_;refine dt mK ?_;refine gQ (f36 hS hN ρ (hL.agr (aq.refl _ _)) Z few fun r hr=>(fit r hr).1) ?_;rintro⟨u,M1,n1⟩ ⟨⟨n,rl,k1,k2⟩,k3,k4⟩;simp only at k1 k3 k4;subst k1;have NK:aq nx M M1:=k3.le Z;by_cases je:rl=0
 ·subst je
  have ay:∀N,kZ am N 22 v=some ⟨.int .i64 L.length,[],[]⟩:=fun N=>by
   obtain⟨row,a9,_⟩:=hL;exact a9.len (P:=am) (t:=22) jp.2.2.2.2.2 N
  have Gs:∀j r,L[j]?=some r->eA (L.take j) r=0:=by
   obtain⟨q1,q2 | ⟨r,_,q3,q4⟩⟩:=k2
   ·intro j r hj
    have:=(List.getElem?_eq_some_iff.1 hj).1;exact q1 j r Z hj
   ·exact(q4 rfl).elim
  obtain⟨hT,Qv⟩:=hT Gs;clear Gs;refine fM mK ay ?_;generalize rz:ci (ci (ci (ci M1 (n1+7) (bx.map [] 0)) (n1+8) (bx.map [] 0)) (n1+9) (bx.map [] 0)) (n1+11) _=M0;obtain⟨N0,hF0,YN⟩:=Pj (M:=M0) (nx:=n1+12) (lo:=nx) (h:=n1+11) (a:=n1+7) (b:=n1+8) (c:=n1+9) Z Z Z Z Z Z Z Z Z Z Z Z Z Z (by rw[<-rz];exact J) (by rw[<-rz];exact J) (by rw[<-rz];exact J) (by rw[<-rz];exact J);have YC:aq nx M M0:=by rw[<-rz];exact(by(repeat (refine aq.set ?_ Z _));exact NK)
  clear rz;refine aC (fun m' s=>∃(i:Nat) (N:Hp) (cr:List XV),i<=L.length/\m'=L.length - i/\gG s.env 0=some v/\gG s.env 5=some (.int .i64 n)/\gG s.env 7=some (.mp (n1+11) 0)/\gG s.env 28=some v/\gG s.env 29=some (.int .i64 L.length)/\gG s.env 30=some (.int .i64 i) /\
   HF s.M s.nx N nx (n1+11) ((dL L i).wr i cr)/\aq nx M s.M/\(∀j r,j<i->L[j]?=some r->eL s.M (iJ s.nx N) r ((cr.drop (j*11)).take 11))/\n1+12<=s.nx)
   L.length ⟨0,N0,[],Z,Z,?_⟩ ?_
  ·refine dt mK ?_
   exact⟨hF0.agr (aq.refl _ _) Z,YC,fun j r hj=>Z,Z⟩
  ·rintro m' ⟨env,M',nx'⟩ ⟨i,N,cr,hi,ir,e0,e5,e7,NG,NH,NI,hF,Ur,RO,hn⟩
   simp only at e0 e5 e7 NG NH NI hF Ur RO hn;by_cases aL:(i:Int)<L.length
   ·have aP:i<L.length:=Z
    obtain⟨r,D_⟩:∃r,L[i]?=some r:=⟨L[i],by simp[aP]⟩;obtain⟨row,a9,gS⟩:=hL.agr (Ur.le hb);obtain⟨n,o,jw,bC,aU⟩:=a9.elem (P:=am) aP (t:=22) (t':=43) jp.2.2.2.1 iY.1;have aU:=aU M' (aq.refl _ _);have mP:=gS i r D_;obtain⟨pk,pa,pb,pv,ve,dI,⟨p1,p2⟩,⟨q1,q2⟩,_,_⟩:=mP.cells;rw[dI]at aU mP;clear gS a9 dI;have bV:=eF i;obtain⟨⟨f1,f2⟩,f3⟩:=fit r (mem_of_getElem? D_);have aQ:=hT i r D_;clear hT fit hL NK k3 YC ay;refine yq mK e0 e5 e7 NG NH NI aL bC aU p1 (aI p2 (aI q1 q2)) ?_;generalize aW:ci (ci M' (nx'+4) _) (nx'+4) _=M2;have a2:aq (nx'+4) M' M2:=by rw[<-aW];exact O
    have y2:gG M2 (nx'+4)=some (.row [.int .i64 r.kind,.int .u64 r.t,.int .u64 r.x,.int .u64 r.w,.int .u64 r.n,.int .u64 r.v,.int .i64 pk,.int .u64 pa,.int .u64 pb,pv,ve]):=by rw[<-aW];exact J
    clear aW;refine gQ (f37 ρ (mP.agr (a2.le Z)) (show b<=nx'+8 by omega) Z Z) ?_;rintro⟨u,M3,n3⟩ ⟨⟨cs',g1,g2⟩,g3,g4⟩;simp only at g1 g2 g3 g4;subst g1;obtain⟨pk',pa',pb',pv',ve',yJ,⟨MR,MS⟩,⟨MT,MU⟩,_,_⟩:=(g2.lt (b:=n3) fun k hk=>hk.2).cells;have cF:cs'.length=11:=by rw[yJ];rfl
    have a3:aq (nx'+4) M' M3:=a2.trans (g3.le Z);have y3:=(g3 (nx'+4) Z).trans y2;have hF3:HF M3 n3 N nx (n1+11) ((dL L i).wr i cr):=hF.agr (a3.le Z) Z;have hNb:gG N (nx'+4)=none:=hF.out Z;have Q2:∀q,PK b (nx'+8) n3 q->iJ n3 N q/\q≠nx'+4:=fun q hq=>by
     obtain⟨h1,h2⟩:(q<b\/nx'+8<=q)/\q<n3:=hq;refine⟨⟨h2,?_⟩,Z⟩;cases hn:gG N q with
     | none=>rfl
     | some x =>
       have:=hF.lt q x hn;have:=hF.ge q x hn;omega
    have Vt:dL L (i+1)=(dL L i).take i r:=by
     conv=>lhs;unfold dL
     rw[D_]
    obtain⟨M4,Gi⟩:∃M4,M4=ci M3 (nx'+4) (.row cs'):=⟨_,rfl⟩;have o4:∀q,q≠nx'+4->gG M4 q=gG M3 q:=fun q hq=>by rw[Gi,ao,if_neg fun e=>hq e.symm]
    have a4:aq (nx'+4) M3 M4:=fun q hq=>o4 q Z
    have y4:gG M4 (nx'+4)=some (.row cs'):=by rw[Gi,ao,if_pos rfl]
    have hF4:HF M4 n3 N nx (n1+11) ((dL L i).wr i cr):=hF3.keep (fun k x hk=>o4 k fun e=>by rw[e,hNb]at hk;cases hk) (Nat.le_refl _);have g5:eL M4 (iJ n3 N) r cs':=g2.keep fun q hq=>⟨o4 q (Q2 q hq).2,(Q2 q hq).1⟩
    have Ug:∀j r',j<i->L[j]?=some r'->eL M4 (iJ n3 N) r' ((cr.drop (j*11)).take 11):=fun j r' h1 h2=>(RO j r' h1 h2).keep fun q hq=>by
     have:=hq.1;exact⟨(o4 q Z).trans (a3 q Z),Z,hq.2⟩
    obtain⟨vrec,c1,nk,c3,c4,vm,c6,om,old,bA,hhn,AV,HV,MH⟩:=hF4.addr cF (show i<=100000 by omega);have hd:aw (n1+11) (nx'+4)=False/\aw (nx'+4) (n1+11)=False:=by simp only[aw,eq_iff_iff,iff_false];omega
    have JI:=(o4 (n1+11) Z).symm.trans bA;have yG:cr.length=i*11:=AV;clear g2 g3 y2 a2 RO hF hF3 hF4 Q2 mP;rcases HV with ⟨rfl,ZR,rfl⟩ | ⟨sk,rfl,bT,VQ,cf,aal,aaj,aai,rfl⟩
    ·rw[yJ]at Gi
     refine yq mK e0 e5 e7 NG NH NI y3 JI hd MR (aI MS (aI MT (aI MU yJ))) ?_;rw[<-Gi];refine⟨bn _ _ _ _ _ _ (fun q hq=>by simp only[mem_singleton]at hq ⊢;omega) (fun q hq=>ae) (fun q hq=>by simp at hq),?_⟩;have AW:i=0:=ZR;have Ze:cr=[]:=length_eq_zero_iff.1 Z;generalize mR:ci (ci (ci M4 (n3+7) _) (n3+8) _) (n1+11) _=M5;obtain⟨N5,NM,TW⟩:=MH M5 (n3+15) (n3+8) Z Z (fun j h1 h2 _=>by rw[<-mR];exact J) (by rw[<-mR];subst AW;exact J) (by rw[<-mR];show _=some (bx.row (cr++cs'));rw[Ze,yJ];exact J);have YI:aq (n1+11) M4 M5:=by rw[<-mR];exact O
     clear mR Gi MH;have T4:=g5.aside TW (q:=iJ (n3+15) N5) fun q hq=>⟨by have:=hq.1;omega,hq.2⟩
     rw[<-yJ];refine gQ (f38 ρ T4 NM i ((aQ.wr i cr).addr _)) ?_;rintro⟨u,M6,n6⟩ ⟨k1,MM,N6,k3,MN,k5⟩;simp only at k1 MM k3 MN k5;subst k1;rw[show (((dL L i).wr i cr).addr cs')=(dL L i).wr (i+1) (cr++cs') from rfl,Dw,<-Vt]at k3;refine oq mK e0 e5 e7 NG NH NI bV ?_;refine⟨L.length - (i+1),Z,i+1,N6,cr++cs',Z,rfl,rfl,k3.agr (aq.refl _ _) Z,((Ur.trans (a3.le Z)).trans (a4.le Z)).trans ((YI.le Z).trans (k5.le Z)),fun j r' hj sA=>?_,Z⟩;by_cases kX:j=i
     ·subst kX
      rw[D_]at sA;cases sA;rw[drop_append_of_le_length Z,drop_eq_nil_of_le Z,nil_append,take_of_length_le Z];exact T4.aside MN fun q hq=>⟨by have:=hq.1;omega,hq.2⟩
     ·have mS:j<i:=Z
      have hjm:(j+1)*11<=i*11:=mul_le_mul_right _ mS;rw[drop_append_of_le_length Z,take_append_of_le_length (by rw[length_drop];omega)];exact((Ug j r' mS sA).aside TW (q:=iJ (n3+15) N5) fun q hq=>⟨by have:=hq.1;omega,hq.2⟩).aside MN fun q hq=>⟨by have:=hq.1;omega,hq.2⟩
    ·have aak:sk≠nx'+4:=fun e=>aaj (by rw[e];exact hNb)
     have UN:gG M3 sk=some (.row cr):=(o4 sk aak).symm.trans aal;have kB:List.take (i*11) cr=cr:=take_of_length_le Z;have py:aw (n1+11) (nx'+4)=False/\aw (nx'+4) (n1+11)=False/\aw (n1+11) sk=False/\aw sk (n1+11)=False/\aw (nx'+4) sk=False/\aw sk (nx'+4)=False:=by simp only[aw,eq_iff_iff,iff_false];omega
     have hn1':1<=i:=bT;have Uq:((dL L i).wr i cr).nrec=i:=rfl;rw[Uq]at JI;rw[yJ]at Gi;refine yq mK e0 e5 e7 NG NH NI y3 JI UN yG (aI kB (aI py (aI MR (aI MS (aI MT (aI MU yJ)))))) ?_;rw[<-Gi];refine⟨bn _ _ _ _ _ _ (fun q hq=>by simp only[mem_singleton]at hq ⊢;omega) (fun q hq=>ae) (fun q hq=>by simp at hq),?_⟩;generalize mR:ci (ci (vO (ci M4 (n3+7) _) sk) (n3+8) _) (n1+11) _=M5;obtain⟨N5,NM,TW⟩:=MH M5 (n3+15) (n3+8) Z Z (fun j h1 h2 h3=>by
      have h4:j≠sk:=by simpa using h3
      rw[<-mR];exact J) (by rw[<-mR];exact J) (by rw[<-mR];show _=some (bx.row (cr++cs'));rw[yJ];exact J)
     have hskx:nx<=sk:=aai;have YI:aq nx M4 M5:=by rw[<-mR];exact fun q hq=>J
     clear mR Gi MH;have T4:=g5.aside TW (q:=iJ (n3+15) N5) fun q hq=>⟨by have:=hq.1;omega,hq.2⟩
     rw[<-yJ];refine gQ (f38 ρ T4 NM i ((aQ.wr i cr).addr _)) ?_;rintro⟨u,M6,n6⟩ ⟨k1,MM,N6,k3,MN,k5⟩;simp only at k1 MM k3 MN k5;subst k1;rw[show (((dL L i).wr i cr).addr cs')=(dL L i).wr (i+1) (cr++cs') from rfl,Dw,<-Vt]at k3;refine oq mK e0 e5 e7 NG NH NI bV ?_;refine⟨L.length - (i+1),Z,i+1,N6,cr++cs',Z,rfl,rfl,k3.agr (aq.refl _ _) Z,((Ur.trans (a3.le Z)).trans (a4.le Z)).trans (YI.trans (k5.le Z)),fun j r' hj sA=>?_,Z⟩;by_cases kX:j=i
     ·subst kX
      rw[D_]at sA;cases sA;rw[drop_append_of_le_length Z,drop_eq_nil_of_le Z,nil_append,take_of_length_le Z];exact T4.aside MN fun q hq=>⟨by have:=hq.1;omega,hq.2⟩
     ·have mS:j<i:=Z
      have hjm:(j+1)*11<=i*11:=mul_le_mul_right _ mS;rw[drop_append_of_le_length Z,take_append_of_le_length (by rw[length_drop];omega)];exact((Ug j r' mS sA).aside TW (q:=iJ (n3+15) N5) fun q hq=>⟨by have:=hq.1;omega,hq.2⟩).aside MN fun q hq=>⟨by have:=hq.1;omega,hq.2⟩
   ·have gB:i=L.length:=Z
    obtain⟨S,NO⟩:∃S,S=(dL L L.length).wr L.length cr:=⟨_,rfl⟩;rw[gB,<-NO]at hF;have Qv:pS S:=by rw[NO];exact⟨Qv.here,Qv.few⟩
    rw[gB]at RO;have Zd:∀j r,L[j]?=some r->eL M' (iJ nx' N) r ((cr.drop (j*11)).take 11):=fun j r hj=>RO j r (List.getElem?_eq_some_iff.1 hj).1 hj
    clear RO hT hF0 YN YC hL;obtain⟨mu,lt,ge,top,htop,tag,vrec,vtxs,vcom,vmods,vlook,nk,vk,ok,cn,cv,co,ptrs,lnum,lver,lobj,H⟩:=hF;have bA:gG M' (n1+11)=some (.row [vrec,vtxs,.mm nk,vcom,vmods,.mm vk,vlook,.mm ok]):=(mu _ _ H.row).1;have htl:=fun N=>(H.txs.sl).len (P:=am) (t:=86) vL.2.2.2.2.2 N
    refine rf mK e0 e5 e7 NG NH NI aL bA htl ?_;have Vl:=e0;have e5':=e5;have e7':=e7;have hTl:=Qv.few.1;clear e0 e5 e7 NG NH NI bA htl aL;refine aC (fun m2 s=>∃(k:Nat) (N2:Hp),k<=S.txs.length/\m2=S.txs.length - k/\gG s.env 0=some v/\gG s.env 5=some (.int .i64 n)/\gG s.env 7=some (.mp (n1+11) 0)/\gG s.env 55=some vtxs/\gG s.env 56=some (.int .i64 S.txs.length)/\gG s.env 57=some (.int .i64 k) /\
     Mu N2 s.M/\(∀q x,gG N2 q=some x->q<nx'/\nx<=q)/\eM N2 nx top (n1+11) (S.done L.length k fun j=>∃q,q<k/\dl S q j) tag vrec vtxs vcom vmods vlook nk vk ok cn cv co ptrs lnum lver lobj/\gM nx' N M' N2 s.M/\aq nx M s.M/\nx'<=s.nx)
     S.txs.length ⟨0,N,Z,Z,?_⟩ ?_
    ·refine dt mK ?_
     refine⟨by rw[Vl],by rw[e5'],by rw[e7'],mu,fun q x hq=>⟨lt q x hq,ge q x hq⟩,?_,fun q x h1 h2 h3=>⟨h3,h2⟩,Ur,Z⟩;have:(S.done L.length 0 fun j=>∃q,q<0/\dl S q j)=S:=by
      unfold HS.done;rw[BS,ki (Q:=fun _=>False) (fun j=>ae),Br]
     rw[this];exact H
    ·rintro m2 ⟨env,M2,n2⟩ ⟨k,N2,hk,JE,e0,e5,e7,RC,RE,RF,Rc,RW,H2,Qs,T0,fq⟩
     simp only at e0 e5 e7 RC RE RF Rc H2 Qs T0 fq;by_cases aL:(k:Int)<S.txs.length
     ·have aP:k<S.txs.length:=Z
      obtain⟨a,Y6⟩:∃a,S.txs[k]?=some a:=⟨S.txs[k],by simp[aP]⟩;have Qy:(S.done L.length k fun j=>∃q,q<k/\dl S q j).txs[k]?=some a:=by
       show (xx _ _ _)[k]?=_;rw[fw,Y6];simp
      obtain⟨w,Q3,QP⟩:=H2.known k a Qy;obtain⟨rk,mk,cm,lm,rfl,r1,r2,r3,r4,m1,MO,m3,m4,⟨FX,l0⟩,l1⟩:=QP;have ms2:xQ N2 M2:=fun q x h _=>(Rc q x h).1
      have Y3:=H2.txs;rw[show (S.done L.length k fun j=>∃q,q<k/\dl S q j).txs.length=S.txs.length from rp ..]at Y3;obtain⟨q,o,Oc,bC,aU⟩:=(Y3.sub ms2).sl.fldG (P:=am) aP (t:=86) vL.2.2.2.1;have aU:=aU 0 (.mp rk 0) Z (by rw[Nat.mul_one,getElem?_take,if_pos Z,getElem?_drop,Nat.add_zero];exact Q3) 91 1 Ki.1 M2 (aq.refl _ _);rw[Nat.add_zero]at aU;have Gr:=(Rc _ _ r4).1;have Uw:=(Rc _ _ m4).1;have m4x:=m4;have g0:=e0;have g5:=e5;have g7:=e7;have g55:=RC;have g56:=RE;have g57:=RF;simp only[d_,cons_append,nil_append]at Gr;have dmr:mk≠rk:=aZ m3 r3 ae;have j8:aw rk mk=False/\aw mk rk=False:=by simp only[aw,eq_iff_iff,iff_false];omega
      have bV:=eF k;have NZ:∀N,kZ am N 22 v=some ⟨.int .i64 L.length,[],[]⟩:=fun N=>ay N
      have UG:=Q3;clear Y3 Q3;have QQ:∀q,q<top->tag q ≠ .known k->q≠rk:=fun q _ h e=>h (by rw[e];exact r3)
      by_cases oN:a.s=3
      case' pos =>
       refine yq mK e0 e5 e7 RC RE RF aL bC aU Gr (aI Uw (aI oN (aI NZ (aI j8 (aI @qv (aI @s6 (aI @pP (aI @tf FS.2.2.2.2)))))))) ?_;obtain⟨it,JV⟩:∃it,it=n2+21:=⟨_,rfl⟩;rw[<-JV];generalize oM:ci M2 rk _=M3;have Z7:gG M3 rk=some (.row (d_ { a with e:=L.length } ++ [.mm mk])):=by rw[<-oM];simp only[d_,cons_append,nil_append,oN];exact J
       have o3:∀q,q≠rk->gG M3 q=gG M2 q:=fun q hq=>by rw[<-oM];exact J
       have Zu:nx'<=it/\it+1<=n2+22:=Z;clear oM JV;obtain⟨N3,AP⟩:∃N3,N3=ci N2 rk (.row (d_ { a with e:=L.length } ++ [.mm mk])):=⟨_,rfl⟩;obtain⟨mu3,lt3',A3⟩:=zl Rc (fun q x h=>(RW q x h).1) (show rk<nx' by omega) (by rw[r4];simp) (x:=.row (d_ { a with e:=L.length } ++ [.mm mk])) rfl Z7 (fun q _ hq=>o3 q hq);rw[<-AP]at mu3 lt3' A3;have K3:∀q,q<top->tag q ≠ .known k->gG N3 q=gG N2 q:=fun q h1 h2=>by rw[AP,ao,if_neg fun e=>QQ q h1 h2 e.symm]
       have lt3:∀q x,gG N3 q=some x->q<nx'/\nx<=q:=fun q x h=>by
        rw[AP,ao]at h;split at h
        ·rename_i e;subst e;omega
        ·exact RW q x h
       have G3:aq nx M M3:=fun q hq=>(o3 q Z).trans (T0 q hq)
       have A3':gM nx' N M' N3 M3:=Qs.trans A3 (Nat.le_refl _);have H3:eM N3 nx top (n1+11) (S.done L.length (k+1) fun j=>∃q,q<k/\dl S q j) tag vrec vtxs vcom vmods vlook nk vk ok cn cv co ptrs lnum lver lobj:=by
        refine H2.setTx (ts:=xx L.length (k+1) S.txs) (i:=k) (a:=a) (a':={ a with e:=L.length }) (by rw[rp];exact(rp ..).symm) (fun j hj=>?_) ?_ r3 UG Qy r4 (fun q h1 h2=>by rw[AP,ao,if_neg fun e=>h2 e.symm]) (by rw[AP,ao,if_pos rfl])
        ·show _=(xx _ _ _)[j]?
         rw[tU,getElem?_modify];have:¬ k=j:=fun e=>hj e.symm
         cases (xx (L.length:Int) k S.txs)[j]? <;> simp[this]
        ·rw[fw,Y6]
         simp[oN]
       have ZP:gG M3 mk=some (.map (cx vX lm) cm):=(o3 mk dmr).trans Uw;have oN:=True.intro
      case' neg =>
       refine yq mK e0 e5 e7 RC RE RF aL bC aU Gr (aI Uw (aI oN (aI NZ (aI j8 (aI @qv (aI @s6 (aI @pP (aI @tf FS.2.2.2.2)))))))) ?_;obtain⟨it,JV⟩:∃it,it=n2+14:=⟨_,rfl⟩;rw[<-JV];obtain⟨M3,oM⟩:∃M3,M3=M2:=⟨_,rfl⟩;obtain⟨N3,AP⟩:∃N3,N3=N2:=⟨_,rfl⟩;have Zu:nx'<=it/\it+1<=n2+15:=Z;rw[<-oM];have mu3:Mu N3 M3:=by rw[AP,oM];exact Rc
       have K3:∀q,q<top->tag q ≠ .known k->gG N3 q=gG N2 q:=fun q h1 h2=>by rw[AP]
       have lt3:∀q x,gG N3 q=some x->q<nx'/\nx<=q:=by rw[AP];exact RW
       have G3:aq nx M M3:=by rw[oM];exact T0
       have A3':gM nx' N M' N3 M3:=by rw[oM,AP];exact Qs
       have H3:eM N3 nx top (n1+11) (S.done L.length (k+1) fun j=>∃q,q<k/\dl S q j) tag vrec vtxs vcom vmods vlook nk vk ok cn cv co ptrs lnum lver lobj:=by
        have:xx (L.length:Int) (k+1) S.txs=xx L.length k S.txs:=by
         refine ext_getElem? fun j=>?_
         rw[tU,getElem?_modify];by_cases hj:k=j
         ·subst hj
          rw[fw,Y6];simp[oN]
         ·cases (xx (L.length:Int) k S.txs)[j]? <;> simp[hj]
        rw[AP];unfold HS.done at H2 ⊢;rw[this];exact H2
       have ZP:gG M3 mk=some (.map (cx vX lm) cm):=by rw[oM];exact Uw
       clear oM AP JV;have oN:=True.intro
      all_goals
       clear Qy bC aU Gr j8 H2 Qs T0 RW UG oN e0 e5 e7 RC RE RF Uw;refine aC (fun m4 s=>∃(seen:List Nat) (st:Nat) (N4:Hp),m4=(lm.filter fun e=>decide (e.1 ∉ seen)).length/\gG s.env 0=some v/\gG s.env 5=some (.int .i64 n)/\gG s.env 7=some (.mp (n1+11) 0)/\gG s.env 55=some vtxs/\gG s.env 56=some (.int .i64 S.txs.length)/\gG s.env 57=some (.int .i64 k)/\gG s.env 77=some (.mp it 0) /\
        gG s.M it=some (.iter (some mk) cm seen st)/\cm<=st/\Mu N4 s.M/\(∀q x,gG N4 q=some x->q<nx'/\nx<=q) /\
        eM N4 nx top (n1+11) (S.done L.length (k+1) fun j=>(∃q,q<k/\dl S q j)\/∃e ∈ lm,e.1 ∈ seen/\(S.places k e.2.1).getLast?=some (j:Int)) tag vrec vtxs vcom vmods vlook nk vk ok cn cv co ptrs lnum lver lobj /\
        (∀q,q<top->tag q ≠ .mods->gG N4 q=gG N3 q)/\gM nx' N M' N4 s.M/\aq nx M s.M/\it<s.nx)
        _ ⟨[],cm,N3,rfl,?_⟩ ?_
       ·refine dt mK ?_
        refine⟨g0,g5,g7,g55,g56,g57,Nat.le_refl _,fun q x hq=>?_,lt3,?_,fun _ _ _=>trivial,fun q x h1 h2 h3=>?_,fun q hq=>?_,Z⟩
        ·obtain⟨q1,q2⟩:=mu3 q x hq
         have:=(lt3 q x hq).1;exact⟨by rw[ao,if_neg Z];exact q1,q2⟩
        ·have:(S.done L.length (k+1) fun j=>(∃q,q<k/\dl S q j)\/∃e ∈ lm,e.1 ∈ ([]:List Nat)/\(S.places k e.2.1).getLast?=some (j:Int))=S.done L.length (k+1) fun j=>∃q,q<k/\dl S q j:=by
          unfold HS.done;rw[ki (Q:=fun j=>∃q,q<k/\dl S q j) fun j=>by simp]
         rw[this];exact H3
        ·obtain⟨q1,q2⟩:=A3' q x h1 h2 h3
         exact⟨by rw[ao,if_neg Z];exact q1,q2⟩
        ·rw[ao,if_neg Z];exact G3 q hq
       ·rintro m4 ⟨Yq,M4,n4⟩ ⟨seen,st,N4,VH,f0,f5,f7,Nl,RB,TB,SQ,JB,bw,Oj,V1,H4,K4,A4,G4,QX⟩
        simp only at f0 f5 f7 Nl RB TB SQ JB Oj H4 A4 G4 QX;have ZQ:gG M4 mk=some (.map (cx vX lm) cm):=(Oj mk _ (by rw[K4 mk MO (by rw[m3];simp),K3 mk MO (by rw[m3];simp)];exact m4x)).1;refine gk mK @SQ @qv ?_;refine Cf j9 JB ZQ FX.lt bw (Nat.le_refl _) ?_ ?_
        ·intro dy
         have hP:eM N4 nx top (n1+11) (S.done L.length (k+1) fun j=>∃q,q<k+1/\dl S q j) tag vrec vtxs vcom vmods vlook nk vk ok cn cv co ptrs lnum lver lobj:=by
          have:(S.done L.length (k+1) fun j=>(∃q,q<k/\dl S q j)\/∃e ∈ lm,e.1 ∈ seen/\(S.places k e.2.1).getLast?=some (j:Int))=S.done L.length (k+1) fun j=>∃q,q<k+1/\dl S q j:=by
           unfold HS.done;rw[ki (Q:=fun j=>∃q,q<k+1/\dl S q j) fun j=>?_];constructor
           ·rintro(⟨q,h1,h2⟩ | ⟨e,h1,h2,h3⟩)
            ·exact⟨q,Z,h2⟩
            ·exact⟨k,Z,e.2.1,h3⟩
           ·rintro⟨q,h1,h2⟩
            by_cases hq:q=k
            ·subst hq
             obtain⟨x,hx⟩:=h2;right;cases hl:aH lm x with
             | none =>
               rw[show S.places q x=[] from l0 x hl]at hx;cases hx
             | some u =>
               obtain⟨b',rA⟩:=ju hl;exact⟨(b',x,u),rA,dy _ rA,hx⟩
            ·exact .inl ⟨q,Z,h2⟩
          rw[<-this];exact H4
         clear K4 K3 dy;refine iQ mK f0 @f5 @f7 @Nl @RB @TB bV ?_;exact⟨S.txs.length - (k+1),Z,k+1,N4,Z,rfl,rfl,Oj,V1,hP,A4,G4,Z⟩
        ·intro e he y7
         have jc:=gH FX.kd e he;obtain⟨cf,Bd⟩:=l1 e.2.1 e.2.2 jc;have ms4:xQ N4 M4:=fun q x h _=>(Oj q x h).1
         have a9:=((Bd.keep (M':=N4) (tag':=tag) (fun q h1 h2=>⟨by rw[K4 q h1 (by rw[h2];simp),K3 q h1 (by rw[h2];simp)],h2⟩) (Nat.le_refl _)).sub ms4).sl;have ZV:0<(S.places k e.2.1).length:=length_pos_iff.2 cf;have hpf:=Qv.few.2.2 k e.2.1;obtain⟨j0,hj0,Zy,D4⟩:∃j0:Nat,(S.places k e.2.1)[(S.places k e.2.1).length - 1]?=some (j0:Int)/\j0<S.mods.length/\(S.places k e.2.1).getLast?=some (j0:Int):=by
          obtain⟨z,hz⟩:∃z,(S.places k e.2.1)[(S.places k e.2.1).length - 1]?=some z:=⟨(S.places k e.2.1)[(S.places k e.2.1).length - 1],by simp[ZV]⟩;obtain⟨h1,h2⟩:=Qv.here k e.2.1 z (mem_of_getElem? hz);refine⟨z.toNat,by rw[hz];congr 1;omega,Z,?_⟩;rw[getLast?_eq_getElem?,hz];congr 1;omega
         obtain⟨q,o,Oc,bC,aU⟩:=a9.fldG (P:=am) (i:=(S.places k e.2.1).length - 1) (by show _<(S.places k e.2.1).length;omega) (t:=58) zp.2.2.2.1;have hlx:∀N,kZ am N 58 e.2.2=some ⟨.int .i64 ((S.places k e.2.1).length:Nat),[],[]⟩:=fun N=>a9.len (P:=am) (t:=58) zp.2.2.2.2.2 N
         have aU:=aU 0 (.int .i64 j0) Z (by
          rw[Nat.mul_one,getElem?_take,if_pos Z,getElem?_drop,Nat.add_zero,getElem?_map];show Option.map _ (S.places k e.2.1)[_]?=_;rw[hj0];rfl) 3 1 dA.1
         rw[Nat.add_zero]at aU;obtain⟨z1,z2,z3⟩:=H4.mods;obtain⟨P4,hP4⟩:∃P4:Nat->Prop,P4=fun j=>(∃q,q<k/\dl S q j)\/∃e ∈ lm,e.1 ∈ seen/\(S.places k e.2.1).getLast?=some (j:Int):=⟨_,rfl⟩
         rw[<-hP4]at H4 z1 z2 z3;have F2:(S.done L.length (k+1) P4).mods.length=S.mods.length:=im ..;rw[F2]at z1 z2 z3;obtain⟨crow,NS⟩:∃crow,crow=(S.done L.length (k+1) P4).mods.flatMap cO:=⟨_,rfl⟩;rw[<-NS]at z2 z3;rcases z3 with ⟨_,z0⟩ | ⟨_,mkey,Ec,y1,y2,y3,y4⟩
         ·omega
         have VI:=Qv.few.2.1;have Zx:∀κ,br am 64 vmods (.int κ (j0:Int))=some (.mp mkey (j0*8)):=fun κ=>by
          rw[Ec,cy,qP.2.2.2.1,ev _ _ _ _ _ Z Z];simp
         have F_:IntKind.i64.wrap (((S.places k e.2.1).length:Int) - 1)=(((S.places k e.2.1).length - 1:Nat):Int):=by rw[wrap_i64 Z Z];omega
         have xm:((S.done L.length (k+1) fun j=>∃q,q<k/\dl S q j).places k e.2.1).length=(S.places k e.2.1).length:=rfl;have hrow4:=(Oj _ _ H4.row).1;have hmr4:=(Oj _ _ y4).1;have hhh:=H4.h_hi;generalize mR:ci M4 it _=M5;have Jx:i7 M5 (.mp it 0)=some ⟨.tup [.int .u64 e.2.1,e.2.2],[it,mk],[]⟩:=rj (vf:=vX) (l:=lm) (by rw[<-mR];exact J) (by rw[<-mR];exact J) FX.nd he;have w1:gG M5 (n1+11)=some (.row [vrec,vtxs,.mm nk,vcom,vmods,.mm vk,vlook,.mm ok]):=by rw[<-mR];exact J
         have w2:gG M5 mkey=some (.row crow):=by rw[<-mR];exact J
         have w3:gG M5 it=some (.iter (some mk) cm (seen++[e.1]) cm):=by rw[<-mR];exact J
         have ZH:=aU M5 (by rw[<-mR];exact(aq.refl _ _).set Z _);have G5:aq nx M M5:=by rw[<-mR];exact(by(repeat (refine aq.set ?_ Z _));exact G4)
         have mu5:Mu N4 M5:=fun q x hq=>by
          obtain⟨q1,q2⟩:=Oj q x hq;have:=(V1 q x hq).1;exact⟨by rw[<-mR,ao,if_neg Z];exact q1,q2⟩
         have A5:gM nx' N M' N4 M5:=fun q x h1 h2 h3=>by
          obtain⟨q1,q2⟩:=A4 q x h1 h2 h3;exact⟨by rw[<-mR,ao,if_neg Z];exact q1,q2⟩
         clear mR aU A4 G4 Oj Bd a9;clear K3 xm;refine ii mK f0 @f5 @f7 @Nl @RB @TB @SQ @yA Jx w1 (aI w2 (aI hlx (aI bC (aI ZH (aI Zx (aI F_ z2)))))) ?_;generalize NU:bp crow (j0*8+7) [XV.bool true]=crow';have Ui:crow'=(fJ (fun j=>P4 j\/j=j0) S.mods).flatMap cO:=by
          rw[<-NU,NS];exact(KO P4 S.mods Zy).symm
         obtain⟨mu6,lt6,A6⟩:=zl mu5 (fun q x h=>(V1 q x h).1) (show mkey<nx' by omega) (by rw[y4];simp) (x:=.row crow') rfl (M':=ci M5 mkey (.row crow')) (by rw[ao,if_pos rfl]) (fun q _ hq=>by rw[ao,if_neg fun e=>hq e.symm]);have lt7:∀q x,gG (ci N4 mkey (.row crow')) q=some x->q<nx'/\nx<=q:=fun q x h=>by
          rw[ao]at h;split at h
          ·rename_i e1;subst e1;omega
          ·exact V1 q x h
         have hH6:=H4.setMods (ms:=fJ (fun j=>P4 j\/j=j0) S.mods) (M':=ci N4 mkey (.row crow')) (fun q h1 h2=>by rw[ao,if_neg fun e1=>h2 (by rw[<-e1];exact y3)])
          ⟨by rw[im];exact z1,by rw[<-Ui,im,<-NU,ib _ _ _ (by simp only[length_cons,length_nil];omega)];exact z2,.inr ⟨by rw[im];omega,mkey,by rw[im];exact Ec,y1,y2,y3,by rw[ao,if_pos rfl,Ui]⟩⟩
         have hH7:eM (ci N4 mkey (.row crow')) nx top (n1+11) (S.done L.length (k+1) fun j=>(∃q,q<k/\dl S q j)\/∃e' ∈ lm,e'.1 ∈ seen++[e.1]/\(S.places k e'.2.1).getLast?=some (j:Int)) tag vrec vtxs vcom vmods vlook nk vk ok cn cv co ptrs lnum lver lobj:=by
          have:fJ (fun j=>(∃q,q<k/\dl S q j)\/∃e' ∈ lm,e'.1 ∈ seen++[e.1]/\(S.places k e'.2.1).getLast?=some (j:Int)) S.mods=fJ (fun j=>P4 j\/j=j0) S.mods:=by
           refine ki (fun j=>?_) _;rw[hP4];constructor
           ·rintro(h | ⟨e',h1,h2,h3⟩)
            ·exact .inl (.inl h)
            ·rcases mem_append.1 h2 with h2 | h2
             ·exact .inl (.inr ⟨e',h1,h2,h3⟩)
             ·rw[mem_singleton]at h2
              have:e'=e:=wo FX.nd h1 he h2;subst this;rw[D4]at h3;right;simp only[Option.some.injEq]at h3;omega
           ·rintro((h | ⟨e',h1,h2,h3⟩) | h)
            ·exact .inl h
            ·exact .inr ⟨e',h1,mem_append_left _ h2,h3⟩
            ·subst h
             exact .inr ⟨e,he,ae,D4⟩
          unfold HS.done;rw[this];exact hH6
         refine⟨_,?_,seen++[e.1],cm,ci N4 mkey (.row crow'),rfl,J,Nat.le_refl _,mu6,lt7,hH7,fun q h1 h2=>?_,A5.trans A6 (Nat.le_refl _),(by(repeat (refine aq.set ?_ Z _));exact G5),Z⟩
         ·rw[VH]
          exact Dp y7 he
         ·rw[ao,if_neg fun e1=>h2 (by rw[<-e1];exact y3)]
          exact K4 q h1 h2
     ·have F0:k=S.txs.length:=Z
      refine oq mK e0 e5 e7 RC RE RF aL ?_;refine⟨n,0,k2,ak,.inr ⟨rfl,n1+11,N2,cr,rfl,⟨Rc,fun q x hq=>by have:=(RW q x hq).1;simp only;omega,fun q x hq=>(RW q x hq).2,top,ak,tag,vrec,vtxs,vcom,vmods,vlook,nk,vk,ok,cn,cv,co,ptrs,lnum,lver,lobj,?_⟩,T0,fun j r hj=>(Zd j r hj).aside Qs fun q hq=>⟨by have:=hq.1;simp only;omega,hq.2⟩⟩⟩;rw[F0,NO]at H2;exact H2
 ·refine fM mK je ?_
  exact⟨n,rl,k2,ak,.inl ⟨je,rfl,NK⟩⟩
end
end Go.Xs
namespace Go.Xs
open List Nat Option
variable{k:Nat}{l:List aR}{r:aR}
noncomputable section
theorem Fi (i:Nat):mc i≠0:=by
 unfold mc;split
 ·decide
 ·split
  ·decide
  ·omega
theorem qn {l:List aR} {r:aR}:∀(n i:Nat),oW l r n i=0->∀j,i<=j->j<i+n->kM j l r=true
 | 0,i,_,j,h1,h2=>Z
 | n+1,i,h,j,h1,h2=>by
   unfold oW at h;split at h
   ·rename_i hk
    by_cases e:j=i
    ·subst e;exact hk
    ·exact qn n (i+1) h j Z Z
   ·exact(Fi i h).elim
theorem lY (h:eA l r=0) (j:Nat) (hj:j<12):kM j l r=true:=qn 12 0 h j Z Z
theorem ru (h:eA l r=0):1<=r.kind/\r.kind<=7:=by
 have:=lY h 0 Z;simp only[kM,Bool.and_eq_true,decide_eq_true_eq]at this;exact this
theorem jH (h:eA l r=0) (h1:r.kind=1):bH l r.t=none:=by
 have:=lY h 3 Z;simp only[kM,h1,decide_true,Bool.not_true,Bool.false_or,Bool.not_eq_true']at this;cases he:bH l r.t with
 | none=>rfl
 | some b=>rw[he]at this;cases this
theorem pd (h:eA l r=0) (h1:r.kind≠1):∃b,bH l r.t=some b:=by
 have:=lY h 4 Z;simp only[kM,h1,decide_false,Bool.false_or]at this;exact isSome_iff_exists.1 this
structure qV (S:HS) (l:List aR):Prop where
 num:∀t k,S.num t=some k->∃(j:Nat) (a:ku),k=(j:Int)/\S.txs[j]?=some a/\a.t=t
 txs:∀(j:Nat) a,S.txs[j]?=some a->S.num a.t=some (j:Int)
 fresh:∀t,bH l t=none->S.num t=none
 begun:∀t b,bH l t=some b->S.num t≠none
 com:∀(j j':Nat) a b,S.txs[j]?=some a->S.txs[j']?=some b->a.s=1->b.s=1->j=j'\/(a.n<b.n/\a.e<b.e)\/(b.n<a.n/\b.e<a.e)
 comb:∀(j:Nat) a,S.txs[j]?=some a->a.s=1->a.n<S.com.length/\0<=a.e/\a.e<l.length
 com0:∀(j:Nat) a,S.txs[j]?=some a->a.s=1->0<=a.n
 mods:∀(j:Nat) m,S.mods[j]?=some m->∃k:Nat,S.num m.t=some (k:Int)/\(j:Int) ∈ S.places k m.x/\m.w=m.t/\1<=m.n/\m.n<=((S.places k m.x).length:Int)/\S.ver m.x m.w m.n=some (j:Int)/\m.fin=false
 places:∀(k:Nat) x z,z ∈ S.places k x->∃(j:Nat) (m:fS),z=(j:Int)/\S.mods[j]?=some m/\m.x=x/\S.num m.t=some (k:Int)
 vers:∀x w n z,S.ver x w n=some z->∃(j:Nat) (m:fS),z=(j:Int)/\S.mods[j]?=some m/\m.x=x/\m.w=w/\m.n=n
 ntx:S.txs.length<=l.length
 nmod:S.mods.length<=l.length
 ncom:S.com.length<=l.length
 npl:∀k x,(S.places k x).length<=l.length
 nlook:S.looks.length<=1001*l.length
 nobj:∀x,0<=(S.obj x).getD 0/\(S.obj x).getD 0<=1001*(l.length:Int)
theorem eJ {t:Int} {o:Option Bool} (h:r.kind≠1) (h6:r.kind≠6) (h7:r.kind≠7):de t o r=o:=by
 unfold de;by_cases e:r.t=t
 ·rw[if_pos e,if_neg h,if_neg (by rintro(q | q)<;>contradiction)]
 ·rw[if_neg e]
theorem qV.start:qV vF []:=by
 exact⟨(fun t k h=>by cases h),(fun j a h=>by simp[vF]at h),(fun t _=>rfl),(fun t b h=>by cases h),(fun j j' a b h=>by simp[vF]at h),(fun j a h=>by simp[vF]at h),(fun j a h=>by simp[vF]at h),(fun j m h=>by simp[vF]at h),(fun k x z h=>by simp[vF]at h),(fun x w n z h=>by cases h),by simp[vF],by simp[vF],by simp[vF],by simp[vF],by simp[vF],by simp[vF]⟩
variable {S:HS} {l:List aR} {r:aR}
theorem qV.looks {S':HS} (h:qV S l) (he:∀t,bH (l++[r]) t=bH l t) (e1:S'.num=S.num) (e2:S'.txs=S.txs) (e3:S'.com=S.com) (e4:S'.mods=S.mods) (e5:S'.places=S.places) (e6:S'.ver=S.ver)
 (h1:S'.looks.length<=S.looks.length+1001) (h2:∀x,0<=(S'.obj x).getD 0/\(S'.obj x).getD 0<=(S.obj x).getD 0+1001):qV S' (l++[r]):=by
 refine⟨?_,?_,?_,?_,?_,?_,?_,?_,?_,?_,?_,?_,?_,?_,?_,?_⟩
 ·rw[e1,e2];exact h.num
 ·rw[e1,e2];exact h.txs
 ·intro t ht;rw[he]at ht;rw[e1];exact h.fresh t ht
 ·intro t b ht;rw[he]at ht;rw[e1];exact h.begun t b ht
 ·rw[e2];exact h.com
 ·intro j a h1 h2
  rw[e2]at h1;have:=h.comb j a h1 h2;rw[e3,length_append];simp only[length_cons,length_nil];omega
 ·rw[e2];exact h.com0
 ·rw[e1,e4,e5,e6];exact h.mods
 ·rw[e1,e4,e5];exact h.places
 ·rw[e4,e6];exact h.vers
 ·rw[e2,length_append];have:=h.ntx;omega
 ·rw[e4,length_append];have:=h.nmod;omega
 ·rw[e3,length_append];have:=h.ncom;omega
 ·intro k x;rw[e5,length_append];have:=h.npl k x;omega
 ·rw[length_append];have:=h.nlook;simp only[length_cons,length_nil];omega
 ·intro x
  have:=h.nobj x;have:=h2 x;rw[length_append];simp only[length_cons,length_nil];omega
theorem qV.begin (h:qV S l) (h1:r.kind=1) (hf:bH l r.t=none) (i:Int):qV (S.begin i r) (l++[r]):=by
 have Bc:=h.fresh _ hf;have qy:∀t,bH (l++[r]) t=if r.t=t then some false else bH l t:=fun t=>by
  rw[bL];unfold de;rw[if_pos h1]
 have Q0:∀t (k:Nat),S.num t=some (k:Int)->k<S.txs.length:=fun t k hk=>by
  obtain⟨j,a,e,h2,_⟩:=h.num t _ hk;have:=(List.getElem?_eq_some_iff.1 h2).1;omega
 have ow:∀(j:Nat) a,(S.txs++[(⟨r.t,i,0,3,-1⟩:ku)])[j]?=some a->S.txs[j]?=some a\/(j=S.txs.length/\a=⟨r.t,i,0,3,-1⟩):=fun j a hj=>by
  by_cases hl:j<S.txs.length
  ·rw[getElem?_append_left hl]at hj;exact .inl hj
  ·have:=(List.getElem?_eq_some_iff.1 hj).1
   simp only[length_append,length_cons,length_nil]at this;have e:j=S.txs.length:=Z;subst e;rw[getElem?_concat_length]at hj;cases hj;exact .inr ⟨rfl,rfl⟩
 have gE:∀(k:Nat) t x,S.num t=some (k:Int)->(S.begin i r).places k x=S.places k x:=fun k t x hk=>by
  have:=Q0 t k hk;exact if_neg Z
 have hplN:∀x,S.places S.txs.length x=[]\/True:=fun _=>.inr trivial
 refine⟨fun t k hk=>?_,fun j a hj=>?_,fun t ht=>?_,fun t b ht=>?_,fun j j' a b hj mS ha hb=>?_,fun j a hj ha=>?_,fun j a hj ha=>?_,fun j m hm=>?_,fun k x z hz=>?_,h.vers,?_,?_,?_,fun k x=>?_,?_,fun x=>?_⟩
 ·have ia:(if t=r.t then some (S.txs.length:Int) else S.num t)=some k:=hk
  split at ia
  ·rename_i e
   cases ia;exact⟨S.txs.length,⟨r.t,i,0,3,-1⟩,rfl,by show (S.txs++[_])[S.txs.length]?=_;rw[getElem?_concat_length],e.symm⟩
  ·obtain⟨j,a,e,h2,h3⟩:=h.num t k ia
   have:=(List.getElem?_eq_some_iff.1 h2).1;exact⟨j,a,e,by show (S.txs++[_])[j]?=_;rw[getElem?_append_left this];exact h2,h3⟩
 ·show (if a.t=r.t then some (S.txs.length:Int) else S.num a.t)=_
  rcases ow j a hj with hj | ⟨e,rfl⟩
  ·have:=h.txs j a hj
   rw[if_neg fun e=>by rw[e,Bc]at this;cases this];exact this
  ·rw[if_pos rfl,e]
 ·rw[qy]at ht
  split at ht
  ·cases ht
  ·rename_i e
   show (if t=r.t then some (S.txs.length:Int) else S.num t)=_;rw[if_neg fun q=>e q.symm];exact h.fresh t ht
 ·rw[qy]at ht
  show (if t=r.t then some (S.txs.length:Int) else S.num t)≠_;split at ht
  ·rename_i e;rw[if_pos e.symm];simp
  ·rename_i e
   rw[if_neg fun q=>e q.symm];exact h.begun t b ht
 ·rcases ow j a hj with hj | ⟨_,rfl⟩
  ·rcases ow j' b mS with mS | ⟨_,rfl⟩
   ·exact h.com j j' a b hj mS ha hb
   ·cases hb
  ·cases ha
 ·rcases ow j a hj with hj | ⟨_,rfl⟩
  ·have:=h.comb j a hj ha
   rw[length_append];simp only[length_cons,length_nil];show a.n<S.com.length/\_;omega
  ·cases ha
 ·rcases ow j a hj with hj | ⟨_,rfl⟩
  ·exact h.com0 j a hj ha
  ·cases ha
 ·obtain⟨k,h2,h3,h4,h5,h6,h7,h8⟩:=h.mods j m hm
  have cf:m.t≠r.t:=fun e=>by rw[e,Bc]at h2;cases h2
  refine⟨k,?_,?_,h4,h5,?_,h7,h8⟩
  ·show (if m.t=r.t then some (S.txs.length:Int) else S.num m.t)=_
   rw[if_neg cf];exact h2
  ·rw[gE k _ _ h2];exact h3
  ·rw[gE k _ _ h2];exact h6
 ·have Rb:z ∈ (if k=S.txs.length then [] else S.places k x):=hz
  split at Rb
  ·cases Rb
  ·obtain⟨j,m,e1,e2,e3,e4⟩:=h.places k x z Rb
   refine⟨j,m,e1,e2,e3,?_⟩;show (if m.t=r.t then some (S.txs.length:Int) else S.num m.t)=_;rw[if_neg fun e=>by rw[e,Bc]at e4;cases e4];exact e4
 ·show (S.txs++[_]).length<=_
  have:=h.ntx;simp only[length_append,length_cons,length_nil];omega
 ·rw[length_append];have:=h.nmod;show S.mods.length<=_;omega
 ·rw[length_append];have:=h.ncom;show S.com.length<=_;omega
 ·show (if k=S.txs.length then [] else S.places k x).length<=_
  have:=h.npl k x;rw[length_append];split
  ·simp
  ·omega
 ·rw[length_append];have:=h.nlook;show S.looks.length<=_;omega
 ·have:=h.nobj x
  rw[length_append];simp only[length_cons,length_nil];show 0<=(S.obj x).getD 0/\(S.obj x).getD 0<=_;omega
theorem qV.modify (h:qV S l) (Vq:r.kind=3\/r.kind=4) (hk:S.num r.t=some (k:Int)) (i:Int):qV (S.modify i r k) (l++[r]):=by
 have he:∀t,bH (l++[r]) t=bH l t:=fun t=>by rw[bL,eJ Z Z Z]
 obtain⟨nm,F6⟩:∃nm:fS,nm=⟨i,r.t,r.x,r.t,(((S.places k r.x).length+1:Nat):Int),r.v,decide (r.kind=4),false⟩:=⟨_,rfl⟩;have F3:(S.modify i r k).mods=S.mods++[nm]:=by rw[F6];rfl
 have ow:∀(j:Nat) m,(S.mods++[nm])[j]?=some m->S.mods[j]?=some m\/(j=S.mods.length/\m=nm):=fun j m hj=>by
  by_cases hl:j<S.mods.length
  ·rw[getElem?_append_left hl]at hj;exact .inl hj
  ·have:=(List.getElem?_eq_some_iff.1 hj).1
   simp only[length_append,length_cons,length_nil]at this;have e:j=S.mods.length:=Z;subst e;rw[getElem?_concat_length]at hj;cases hj;exact .inr ⟨rfl,rfl⟩
 have dz:∀(j:Nat) m,S.mods[j]?=some m->(S.mods++[nm])[j]?=some m:=fun j m hj=>by
  rw[getElem?_append_left (List.getElem?_eq_some_iff.1 hj).1];exact hj
 have gE:∀(j:Nat) x,(S.modify i r k).places j x=if j=k/\x=r.x then S.places k r.x++[(S.mods.length:Int)] else S.places j x:=fun _ _=>rfl
 have Q5:∀x w n,(S.modify i r k).ver x w n=if x=r.x/\w=r.t/\n=(((S.places k r.x).length+1:Nat):Int) then some (S.mods.length:Int) else S.ver x w n:=fun _ _ _=>rfl
 refine⟨h.num,h.txs,fun t ht=>h.fresh t (by rw[he]at ht;exact ht),fun t b ht=>h.begun t b (by rw[he]at ht;exact ht),h.com,fun j a hj ha=>?_,h.com0,fun j m hm=>?_,fun k' x z hz=>?_,fun x w n z hz=>?_,?_,?_,?_,fun k' x=>?_,?_,fun x=>?_⟩
 ·have:=h.comb j a hj ha
  rw[length_append];simp only[length_cons,length_nil];show a.n<S.com.length/\_;omega
 ·rw[F3]at hm
  rcases ow j m hm with hm | ⟨e,rfl⟩
  ·obtain⟨k',h2,h3,h4,h5,h6,h7,h8⟩:=h.mods j m hm
   refine⟨k',h2,?_,h4,h5,?_,?_,h8⟩
   ·rw[gE]
    split
    ·rename_i e;obtain⟨e1,e2⟩:=e;subst e1;rw[e2]at h3;exact mem_append_left _ h3
    ·exact h3
   ·rw[gE]
    split
    ·rename_i e;obtain⟨e1,e2⟩:=e;subst e1;rw[e2]at h6
     rw[length_append];simp only[length_cons,length_nil];omega
    ·exact h6
   ·rw[Q5,if_neg]
    ·exact h7
    ·rintro⟨e1,e2,e3⟩
     rw[h4]at e2;rw[e2,hk]at h2;cases h2;rw[e1,e3]at h6;omega
  ·subst F6
   refine⟨k,hk,?_,rfl,?_,?_,?_,rfl⟩
   ·rw[gE,if_pos ⟨rfl,rfl⟩,e];simp
   ·simp only;omega
   ·rw[gE,if_pos ⟨rfl,rfl⟩,length_append]
    simp only[length_cons,length_nil];omega
   ·rw[Q5,if_pos ⟨rfl,rfl,rfl⟩,e]
 ·rw[gE]at hz
  rw[F3];split at hz
  ·rename_i e
   obtain⟨rfl,rfl⟩:=e;rcases mem_append.1 hz with hz | hz
   ·obtain⟨j,m,e1,e2,e3,e4⟩:=h.places _ _ z hz
    exact⟨j,m,e1,dz j m e2,e3,e4⟩
   ·rw[mem_singleton]at hz
    exact⟨S.mods.length,nm,hz,getElem?_concat_length,by rw[F6],by rw[F6];exact hk⟩
  ·obtain⟨j,m,e1,e2,e3,e4⟩:=h.places _ _ z hz
   exact⟨j,m,e1,dz j m e2,e3,e4⟩
 ·rw[Q5]at hz
  rw[F3];split at hz
  ·rename_i e
   cases hz;exact⟨S.mods.length,nm,rfl,getElem?_concat_length,by rw[F6];exact e.1.symm,by rw[F6];exact e.2.1.symm,by rw[F6];exact e.2.2.symm⟩
  ·obtain⟨j,m,e1,e2,e3⟩:=h.vers x w n z hz
   exact⟨j,m,e1,dz j m e2,e3⟩
 ·rw[length_append];have:=h.ntx;show S.txs.length<=_;omega
 ·rw[F3];have:=h.nmod;simp only[length_append,length_cons,length_nil];omega
 ·rw[length_append];have:=h.ncom;show S.com.length<=_;omega
 ·rw[gE,length_append]
  have:=h.npl k' x;have:=h.npl k r.x;split
  ·simp only[length_append,length_cons,length_nil];omega
  ·omega
 ·rw[length_append];have:=h.nlook;show S.looks.length<=_;omega
 ·have:=h.nobj x
  rw[length_append];simp only[length_cons,length_nil];show 0<=(if x=r.x then some ((S.obj r.x).getD 0+1) else S.obj x).getD 0/\(if x=r.x then some ((S.obj r.x).getD 0+1) else S.obj x).getD 0<=_;split
  ·rename_i e;subst e;simp only[getD_some];omega
  ·omega
theorem qV.endTx (h:qV S l) (Vr:r.kind=6\/r.kind=7) {a a':ku} (hk:S.num r.t=some (k:Int)) (ha:S.txs[k]?=some a) (ht:a'.t=r.t) {com':List Int} (hc:S.com.length<=com'.length/\com'.length<=l.length+1)
 (hs:a'.s=1->a'.n=(S.com.length:Int)/\S.com.length<com'.length/\a'.e=(l.length:Int)):qV (S.endTx k a' com') (l++[r]):=by
 have kA:=(List.getElem?_eq_some_iff.1 ha).1;have qL:a.t=r.t:=by
  obtain⟨j,b,e,h2,h3⟩:=h.num _ _ hk;have:j=k:=Z;subst this;rw[ha]at h2;cases h2;exact h3
 have ow:∀(j:Nat),(S.txs.set k a')[j]?=if j=k then some a' else S.txs[j]?:=fun j=>by
  by_cases e:j=k
  ·subst e;rw[getElem?_set_self kA,if_pos rfl]
  ·rw[getElem?_set_ne fun q=>e q.symm,if_neg e]
 have qy:∀t,bH (l++[r]) t=if r.t=t then some true else bH l t:=fun t=>by
  rw[bL];unfold de;by_cases e:r.t=t
  ·rw[if_pos e,if_pos e,if_neg Z,if_pos Vr]
  ·rw[if_neg e,if_neg e]
 refine⟨fun t k' ia=>?_,fun j b hj=>?_,fun t oe=>?_,fun t b oe=>?_,fun j j' b c hj mS hb jY=>?_,fun j b hj hb=>?_,fun j b hj hb=>?_,h.mods,h.places,h.vers,?_,?_,?_,fun k x=>?_,?_,fun x=>?_⟩
 ·obtain⟨j,b,e,h2,h3⟩:=h.num t k' ia
  by_cases ej:j=k
  ·subst ej
   rw[ha]at h2;cases h2;exact⟨j,a',e,by show (S.txs.set j a')[j]?=_;rw[ow,if_pos rfl],by rw[ht,<-qL];exact h3⟩
  ·exact⟨j,b,e,by show (S.txs.set k a')[j]?=_;rw[ow,if_neg ej];exact h2,h3⟩
 ·have mS:(S.txs.set k a')[j]?=some b:=hj
  rw[ow]at mS;split at mS
  ·rename_i e
   cases mS;rw[ht,e];exact hk
  ·exact h.txs j b mS
 ·rw[qy]at oe
  split at oe
  ·cases oe
  ·exact h.fresh t oe
 ·rw[qy]at oe
  split at oe
  ·rename_i e
   rw[<-e];show S.num r.t≠none;rw[hk];simp
  ·exact h.begun t b oe
 ·have mj:(S.txs.set k a')[j]?=some b:=hj
  have f_:(S.txs.set k a')[j']?=some c:=mS;rw[ow]at mj f_;split at mj
  ·rename_i e
   cases mj;split at f_
   ·rename_i e';left;omega
   ·have h1:=h.comb j' c f_ jY
    obtain⟨h2,h3,h4⟩:=hs hb;right;right;omega
  ·split at f_
   ·cases f_
    have h1:=h.comb j b mj hb;obtain⟨h2,h3,h4⟩:=hs jY;right;left;omega
   ·exact h.com j j' b c mj f_ hb jY
 ·have mj:(S.txs.set k a')[j]?=some b:=hj
  rw[ow]at mj;rw[length_append];simp only[length_cons,length_nil];show b.n<com'.length/\_;split at mj
  ·cases mj
   obtain⟨h2,h3,h4⟩:=hs hb;omega
  ·have h1:=h.comb j b mj hb
   omega
 ·have mj:(S.txs.set k a')[j]?=some b:=hj
  rw[ow]at mj;split at mj
  ·cases mj
   obtain⟨h2,h3,h4⟩:=hs hb;omega
  ·exact h.com0 j b mj hb
 ·show (S.txs.set k a').length<=_
  have:=h.ntx;simp only[length_set,length_append,length_cons,length_nil];omega
 ·rw[length_append];have:=h.nmod;show S.mods.length<=_;omega
 ·rw[length_append]
  simp only[length_cons,length_nil];exact hc.2
 ·rw[length_append];have:=h.npl k x;show (S.places k x).length<=_;omega
 ·rw[length_append];have:=h.nlook;show S.looks.length<=_;omega
 ·have:=h.nobj x
  rw[length_append];simp only[length_cons,length_nil];show 0<=(S.obj x).getD 0/\(S.obj x).getD 0<=_;omega
theorem oR (S:HS) (i:Int) (r:aR):∀n,(S.preds i r n).num=S.num/\(S.preds i r n).txs=S.txs/\(S.preds i r n).com=S.com/\(S.preds i r n).mods=S.mods/\(S.preds i r n).places=S.places/\(S.preds i r n).ver=S.ver
 | 0=>⟨rfl,rfl,rfl,rfl,rfl,rfl⟩
 | n+1=>by
   have ih:=oR S i r n;unfold HS.preds;cases r.es[n]? with
   | none=>exact ih
   | some e=>exact ih
theorem qV.take (h:qV S l) (hr:eA l r=0) (he:r.es.length<=1000):qV (S.take l.length r) (l++[r]):=by
 obtain⟨k1,k2⟩:=ru hr;by_cases e1:r.kind=1
 ·have:S.take l.length r=S.begin l.length r:=by simp only[HS.take,if_pos e1]
  rw[this];exact h.begin e1 (jH hr e1) _
 obtain⟨b,hb⟩:=pd hr e1;have cf:=h.begun _ _ hb;obtain⟨kk,sT⟩:=ne_none_iff_exists'.1 cf;obtain⟨k,a,rfl,ha,qL⟩:=h.num _ _ sT;have hk:((S.num r.t).getD 0).toNat=k:=by rw[sT];rfl
 by_cases e2:r.kind=2
 ·have:S.take l.length r=S.look ⟨l.length,0,r.t,r.x,r.w,r.n,false,false⟩:=by simp[HS.take,e2]
  rw[this];refine h.looks (fun t=>by rw[bL,eJ Z Z Z]) rfl rfl rfl rfl rfl rfl (by simp[HS.look]) fun x=>?_
  have:=h.nobj x;have:=h.nobj r.x;show 0<=(if x=r.x then some ((S.obj r.x).getD 0+1) else S.obj x).getD 0/\(if x=r.x then some ((S.obj r.x).getD 0+1) else S.obj x).getD 0<=_;split
  ·rename_i e;subst e;simp only[getD_some];omega
  ·omega
 by_cases DW:r.kind=3\/r.kind=4
 ·have:S.take l.length r=S.modify l.length r k:=by simp only[HS.take,if_neg e1,if_neg e2,if_pos DW,hk]
  rw[this];exact h.modify DW sT _
 by_cases e5:r.kind=5
 ·have:S.take l.length r=S.preds l.length r r.es.length:=by simp[HS.take,e5]
  rw[this];obtain⟨q1,q2,q3,q4,q5,q6⟩:=oR S l.length r r.es.length;obtain⟨b1,b2⟩:=nr (S:=S) (i:=l.length) (r:=r) r.es.length;refine h.looks (fun t=>by rw[bL,eJ Z Z Z]) q1 q2 q3 q4 q5 q6 Z fun x=>?_
  have h1:=h.nobj x;have h2:=b2 x;omega
 by_cases e6:r.kind=6
 ·have:S.take l.length r=S.endTx k ⟨r.t,a.b,l.length,1,(S.com.length:Int)⟩ (S.com++[r.t]):=by simp only[HS.take,if_neg e1,if_neg e2,if_neg DW,if_neg e5,if_pos e6,hk,ha]
  rw[this];have:=h.ncom;exact h.endTx (.inl e6) sT ha rfl (by simp only[length_append,length_cons,length_nil];omega) fun _=>⟨rfl,by simp only[length_append,length_cons,length_nil];omega,rfl⟩
 ·have:S.take l.length r=S.endTx k ⟨r.t,a.b,l.length,2,a.n⟩ S.com:=by simp only[HS.take,if_neg e1,if_neg e2,if_neg DW,if_neg e5,if_neg e6,hk,ha]
  rw[this];have:=h.ncom;exact h.endTx (.inr Z) sT ha rfl Z fun q=>by cases q
theorem oc {L:List aR} (hw:∀j r,L[j]?=some r->eA (L.take j) r=0) (he:∀r ∈ L,r.es.length<=1000):∀i,i<=L.length->qV (dL L i) (L.take i)
 | 0,_=>by rw[take_zero];exact qV.start
 | i+1,hi=>by
   have ih:=oc hw he i Z;obtain⟨r,hr⟩:∃r,L[i]?=some r:=⟨L[i],ae⟩;have kB:L.take (i+1)=L.take i++[r]:=by rw[take_add_one,hr];rfl
   have hl:(L.take i).length=i:=by rw[length_take];omega
   have:=ih.take (hw i r hr) (he r (mem_of_getElem? hr));rw[hl]at this;rw[kB];unfold dL;rw[hr];exact this
theorem qV.takeOk (h:qV S l) (hl:l.length<=60) (hr:eA l r=0) (he:r.es.length<=1000):kK S r:=by
 have h1:=h.ntx;have h2:=h.nmod;have h3:=h.ncom;have h4:=h.nlook
 refine⟨ru hr,fun e1=>?_,Z,Z,Z,Z,fun x=>?_⟩
 ·obtain⟨b,hb⟩:=pd hr e1
  obtain⟨kk,sT⟩:=ne_none_iff_exists'.1 (h.begun _ _ hb);obtain⟨k,a,rfl,ha,qL⟩:=h.num _ _ sT;exact⟨k,a,sT,ha,qL,by have:=h.npl k r.x;omega⟩
 ·have:=h.nobj x;omega
theorem qV.placesOk (h:qV S l) (hl:l.length<=60):pS S:=by
 have h1:=h.ntx;have h2:=h.nmod
 refine⟨fun k x j hj=>?_,Z,Z,fun k x=>by have:=h.npl k x;omega⟩;obtain⟨j',m,e1,e2,_⟩:=h.places k x j hj;have:=(List.getElem?_eq_some_iff.1 e2).1;omega
theorem B4 {L:List aR} (hl:L.length<=60) (he:∀r ∈ L,r.es.length<=1000) (hw:∀j r,L[j]?=some r->eA (L.take j) r=0):(∀i r,L[i]?=some r->kK (dL L i) r)/\pS (dL L L.length):=by
 refine⟨fun i r hr=>?_,?_⟩
 ·have hi:=(List.getElem?_eq_some_iff.1 hr).1
  exact(oc hw he i Z).takeOk (by rw[length_take];omega) (hw i r hr) (he r (mem_of_getElem? hr))
 ·have:=oc hw he L.length (Nat.le_refl _)
  rw[take_length]at this;exact this.placesOk hl
end
end Go.Xs
namespace Go.Xs
open List Nat Option
noncomputable section
open Classical
structure sC (S:HS):Prop where
 nums:∀t k,S.num t=some k->∃(j:Nat) (a:ku),k=(j:Int)/\S.txs[j]?=some a/\a.t=t
 vers:∀x w n z,S.ver x w n=some z->∃(j:Nat) (m:fS),z=(j:Int)/\S.mods[j]?=some m
 mods:∀(j:Nat) m,S.mods[j]?=some m->S.ver m.x m.w m.n=some (j:Int)/\m.w=m.t/\1<=m.n/\∃(k:Nat) (a:ku),S.num m.t=some (k:Int)/\S.txs[k]?=some a/\a.t=m.t
 com:∀(j j':Nat) a b,S.txs[j]?=some a->S.txs[j']?=some b->a.s=1->b.s=1->j=j'\/(a.n<b.n/\a.e<b.e)\/(b.n<a.n/\b.e<a.e)
 comb:∀(j:Nat) a,S.txs[j]?=some a->a.s=1->0<=a.n/\0<=a.e/\a.e<=1000
 fin1:∀(j j':Nat) m m',S.mods[j]?=some m->S.mods[j']?=some m'->m.fin=true->m'.fin=true->m.t=m'.t->m.x=m'.x->j=j'
 nmod:S.mods.length<=60
theorem zT {L:List aR} (hl:L.length<=60) (he:∀r ∈ L,r.es.length<=1000) (hw:∀j r,L[j]?=some r->eA (L.take j) r=0):sC (jN L):=by
 have h:=oc hw he L.length (Nat.le_refl _);rw[take_length]at h;obtain⟨S,hS⟩:∃S,S=dL L L.length:=⟨_,rfl⟩;have hH:jN L=S.done L.length S.txs.length fun j=>∃k,k<S.txs.length/\dl S k j:=by rw[hS];rfl
 rw[<-hS]at h;rw[hH];have gt:∀(j:Nat) a,(xx (L.length:Int) S.txs.length S.txs)[j]?=some a->∃a0,S.txs[j]?=some a0/\a.t=a0.t/\a.s=a0.s/\a.n=a0.n/\(a.s=1->a.e=a0.e):=fun j a hj=>by
  rw[fw]at hj;cases h0:S.txs[j]? with
  | none=>rw[h0]at hj;cases hj
  | some a0 =>
    rw[h0]at hj;simp only[map_some,Option.some.injEq]at hj;subst hj;refine⟨a0,rfl,?_⟩;split
    ·rename_i e;exact⟨rfl,rfl,rfl,fun q=>by simp only at q;omega⟩
    ·exact⟨rfl,rfl,rfl,fun _=>rfl⟩
 have tg:∀(j:Nat) a0,S.txs[j]?=some a0->∃a,(xx (L.length:Int) S.txs.length S.txs)[j]?=some a/\a.t=a0.t:=fun j a0 h0=>by
  rw[fw,h0];refine⟨_,rfl,?_⟩;simp only;split<;>rfl
 obtain⟨P,hP⟩:∃P:Nat->Prop,P=fun j=>∃k,k<S.txs.length/\dl S k j:=⟨_,rfl⟩
 rw[<-hP];have gm:∀(j:Nat) m,(fJ P S.mods)[j]?=some m->∃m0,S.mods[j]?=some m0/\m = { m0 with fin:=m0.fin||decide (P j) }:=fun j m hj=>by
  rw[ie]at hj;cases h0:S.mods[j]? with
  | none=>rw[h0]at hj;cases hj
  | some m0 =>
    rw[h0]at hj;simp only[map_some,Option.some.injEq]at hj;exact⟨m0,rfl,hj.symm⟩
 have mg:∀(j:Nat) m0,S.mods[j]?=some m0->∃m,(fJ P S.mods)[j]?=some m:=fun j m0 h0=>by
  rw[ie,h0];exact⟨_,rfl⟩
 refine⟨fun t k hk=>?_,fun x w n z hz=>?_,fun j m hj=>?_,fun j j' a b hj mS ha hb=>?_,fun j a hj ha=>?_,fun j j' m m' hj mS hf Zl ht hx=>?_,?_⟩
 ·obtain⟨j,a0,e,h1,h2⟩:=h.num t k hk
  obtain⟨a,h3,h4⟩:=tg j a0 h1;exact⟨j,a,e,h3,by rw[h4];exact h2⟩
 ·obtain⟨j,m0,e,h1,_⟩:=h.vers x w n z hz
  obtain⟨m,h2⟩:=mg j m0 h1;exact⟨j,m,e,h2⟩
 ·obtain⟨m0,h1,rfl⟩:=gm j m hj
  obtain⟨k,h2,h3,h4,h5,h6,h7,h8⟩:=h.mods j m0 h1;obtain⟨k',a0,e,h9,Gf⟩:=h.num _ _ h2;obtain⟨a,RJ,uO⟩:=tg k' a0 h9;exact⟨h7,h4,h5,k',a,by rw[<-e];exact h2,RJ,by rw[uO];exact Gf⟩
 ·obtain⟨a0,h1,e1,e2,e3,e4⟩:=gt j a hj
  obtain⟨b0,u9,JS,NF,TT,e4'⟩:=gt j' b mS;have:=h.com j j' a0 b0 h1 u9 (by rw[<-e2];exact ha) (by rw[<-NF];exact hb);rw[e3,TT,e4 ha,e4' hb];exact this
 ·obtain⟨a0,h1,e1,e2,e3,e4⟩:=gt j a hj
  have:=h.comb j a0 h1 (by rw[<-e2];exact ha);have h0:=h.com0 j a0 h1 (by rw[<-e2];exact ha);rw[e3,e4 ha];omega
 ·obtain⟨m0,h1,rfl⟩:=gm j m hj
  obtain⟨m0',u9,rfl⟩:=gm j' m' mS;obtain⟨k,h2,h3,h4,h5,h6,h7,h8⟩:=h.mods j m0 h1;obtain⟨k',DY,RK,Yz,h5',h6',h7',h8'⟩:=h.mods j' m0' u9;simp only[h8,h8',Bool.false_or,decide_eq_true_eq]at hf Zl;rw[hP]at hf Zl;obtain⟨q,_,x,hq⟩:=hf;obtain⟨q',_,x',nP⟩:=Zl;obtain⟨i1,n1,f1,f2,f3,f4⟩:=h.places q x _ (mem_of_getLast? hq);obtain⟨i2,n2,g1,g2,g3,g4⟩:=h.places q' x' _ (mem_of_getLast? nP);have z1:i1=j:=Z;have z2:i2=j':=Z;subst z1;subst z2;rw[h1]at f2;rw[u9]at g2;cases f2;cases g2;have oe:m0.t=m0'.t:=ht;have Gt:m0.x=m0'.x:=hx;rw[oe,g4]at f4;have eq:q'=q:=by
   simp only[Option.some.injEq]at f4;omega
  rw[<-f3,Gt,g3,<-eq,nP]at hq;simp only[Option.some.injEq]at hq;omega
 ·have:=h.nmod
  show (fJ P S.mods).length<=60;rw[im];omega
end
end Go.Xs
namespace Go.Xs
open List Nat Option
variable{S:HS}{j k:Nat}
noncomputable section
structure Je (l:List bO):Prop where
 up:l.Pairwise fun a b=>a.wr<b.wr/\a.en<b.en/\¬ (a.w=b.w/\a.n=b.n)
 born:∀e ∈ l,1<=e.n/\0<=e.en/\e.en<=1000
theorem Je.lt {l:List bO} (h:Je l) {i:Nat} {a b:bO} (hi:l[i]?=some a) (hj:l[j]?=some b) (eS:i<j):a.wr<b.wr/\a.en<b.en/\¬ (a.w=b.w/\a.n=b.n):=by
 obtain⟨h1,e1⟩:=List.getElem?_eq_some_iff.1 hi;obtain⟨h2,e2⟩:=List.getElem?_eq_some_iff.1 hj;have:=(pairwise_iff_getElem.1 h.up) i j h1 h2 eS;rw[e1,e2]at this;exact this
theorem SO {α:Type} {q:α->Bool}:∀{l:List α} {k i:Nat} {e:α},l[k]?=some e->q e=true->(∀j a,j<k->l[j]?=some a->q a=false)->eN q l i=((i+k:Nat):Int)
 | [],k,i,e,h,_,_=>by simp at h
 | a::l,0,i,e,h,hq,_=>by
   simp only[getElem?_cons_zero,Option.some.injEq]at h;subst h;exact if_pos hq
 | a::l,k+1,i,e,h,hq,hn=>by
   simp only[getElem?_cons_succ]at h;have h0:q a=false:=hn 0 a Z rfl;have h1:eN q (a::l) i=eN q l (i+1):=if_neg (by rw[h0];simp);rw[h1,SO h hq fun j b hj hb=>hn (j+1) b Z (by simpa using hb)];congr 1;omega
theorem Je.place {l:List bO} (h:Je l) {e:bO} (he:l[k]?=some e):ba l e.w e.n=(((k+1:Nat):Int),true):=by
 have hn:=(h.born e (mem_of_getElem? he)).1;have hi:eN (gi e.w e.n) l 0=(k:Int):=by
  rw[SO he (by simp[gi]) fun j a hj ha=>?_]
  ·congr 1;omega
  ·have:=(h.lt ha he hj).2.2
   simp only[gi,Bool.and_eq_false_iff,decide_eq_false_iff_not];by_cases q:a.w=e.w
   ·right;exact fun q'=>this ⟨q,q'⟩
   ·exact .inl q
 unfold ba;rw[if_neg aj,hi];have:decide (0<=(k:Int))=true:=ae;rw[this];simp
theorem place_zero (l:List bO):ba l 0 0=(0,true):=by simp[ba]
def jM (l:List bO):Nat->Int×Int
 | 0=>(0,0)
 | k+1=>match l[k]? with | some e=>(e.w,e.n) | none=>(0,0)
theorem Je.placeAt {l:List bO} (h:Je l) (hk:k<=l.length):ba l (jM l k).1 (jM l k).2=((k:Int),true):=by
 cases k with
 | zero=>exact place_zero l
 | succ k =>
   obtain⟨e,he⟩:∃e,l[k]?=some e:=⟨l[k],ae⟩;simp only[jM,he];exact h.place he
theorem Je.next {l:List bO} (h:Je l) {e:bO} (he:l[k]?=some e):jQ l (jM l k).1 (jM l k).2=(e,true):=by
 have hk:=(List.getElem?_eq_some_iff.1 he).1;unfold jQ;rw[h.placeAt Z];simp only;rw[if_neg aj];have:((k:Int)).toNat=k:=Z;rw[this,he];rfl
theorem Je.nextLast {l:List bO} (h:Je l):jQ l (jM l l.length).1 (jM l l.length).2=(Bm,false):=by
 unfold jQ;rw[h.placeAt (Nat.le_refl _)];simp
theorem qW (l:List bO) (hk:k<=l.length):ce l k=([.int .u64 (jM l k).1,.int .u64 (jM l k).2],true):=by
 cases k with
 | zero=>simp[ce,jM]
 | succ k =>
   obtain⟨e,he⟩:∃e,l[k]?=some e:=⟨l[k],ae⟩;have h1:(((k+1:Nat):Int) - 1).toNat=k:=Z;unfold ce;rw[if_neg Z,if_neg Z,h1,he];simp[jM,he]
theorem Je.ahead {l:List bO} (h:Je l) {e:bO} (he:l[k]?=some e):jF l e.w e.n=([.int .u64 (jM l k).1,.int .u64 (jM l k).2],true):=by
 have hk:=(List.getElem?_eq_some_iff.1 he).1;unfold jF;rw[h.place he];simp only[Bool.true_eq_false,if_false];have:(((k+1:Nat):Int) - 1)=(k:Int):=Z;rw[this];exact qW l Z
theorem bef_take {l:List bO} (h:Je l) (pos:Int) (h1:∀j a,j<k->l[j]?=some a->a.en<pos) (h2:∀j a,k<=j->l[j]?=some a->¬ a.en<pos) (hk:k<=l.length):oi l pos (0,0)=jM l k:=by
 have key:∀i,i<=l.length->oi (l.take i) pos (0,0)=jM l (min i k):=by
  intro i
  induction i with
  | zero=>intro _;simp[oi,jM]
  | succ i ih =>
    intro hi;obtain⟨e,he⟩:∃e,l[i]?=some e:=⟨l[i],ae⟩;rw[wh he,ih Z];by_cases hik:i<k
    ·rw[if_pos (h1 i e hik he),show min (i+1) k=i+1 by omega]
     simp[jM,he]
    ·rw[if_neg (h2 i e Z he),show min (i+1) k=min i k by omega]
 have:=key l.length (Nat.le_refl _);rw[take_length,show min l.length k=k by omega]at this;exact this
theorem Je.bef {l:List bO} (h:Je l) {e:bO} (he:l[k]?=some e):oi l e.en (0,0)=jM l k:=by
 have hk:=(List.getElem?_eq_some_iff.1 he).1;refine bef_take h e.en (fun j a hj ha=>(h.lt ha he hj).2.1) (fun j a hj ha=>?_) Z;by_cases q:j=k
 ·subst q
  rw[he]at ha;cases ha;omega
 ·have:=(h.lt he ha Z).2.1
  omega
theorem Je.bef1 {l:List bO} (h:Je l) {e:bO} (he:l[k]?=some e):oi l (e.en+1) (0,0)=jM l (k+1):=by
 have hk:=(List.getElem?_eq_some_iff.1 he).1;refine bef_take h (e.en+1) (fun j a hj ha=>?_) (fun j a hj ha=>?_) Z
 ·by_cases q:j=k
  ·subst q
   rw[he]at ha;cases ha;omega
  ·have:=(h.lt ha he Z).2.1
   omega
 ·have:=(h.lt he ha Z).2.1
  omega
theorem sC.txR (h:sC S) {m:fS} (hj:S.mods[j]?=some m):∃(k:Nat) (a:ku),S.num m.t=some (k:Int)/\S.txs[k]?=some a/\Xs.txR S m.t=(a,true):=by
 obtain⟨h1,h2,h3,k,a,h4,h5,h6⟩:=h.mods j m hj;refine⟨k,a,h4,h5,?_⟩;unfold Xs.txR Ho;rw[h4];have:((k:Int)).toNat=k:=Z;simp only[this,h5]
theorem DC {x:Int} {e:bO} (he:e ∈ dk S S.mods x):∃(j:Nat) (m:fS),S.mods[j]?=some m/\m.x=x/\mL S m=true/\e=gf S m:=by
 unfold dk at he;obtain⟨m,hm,rfl⟩:=mem_map.1 he;rw[mem_filter]at hm;obtain⟨hm,hc⟩:=hm;rw[Bool.and_eq_true,decide_eq_true_eq]at hc;obtain⟨j,hj⟩:=getElem?_of_mem hm;exact⟨j,m,hj,hc.1,hc.2,rfl⟩
theorem sC.apart (h:sC S) {j':Nat} {m m':fS} (hj:S.mods[j]?=some m) (mS:S.mods[j']?=some m') (hx:m.x=m'.x) (hc:mL S m=true) (jY:mL S m'=true) :
 j=j'\/((gf S m).wr<(gf S m').wr/\(gf S m).en<(gf S m').en)\/((gf S m').wr<(gf S m).wr/\(gf S m').en<(gf S m).en):=by
 obtain⟨k,a,h1,h2,h3⟩:=h.txR hj;obtain⟨k',a',u9,DY,RK⟩:=h.txR mS;unfold mL at hc jY;rw[Bool.and_eq_true,decide_eq_true_eq]at hc jY;rw[h3]at hc;rw[RK]at jY;simp only[gf,h3,RK];rcases h.com k k' a a' h2 DY hc.2 jY.2 with e | e | e
 ·left
  subst e;rw[h2]at DY;cases DY;have ht:m.t=m'.t:=by
   obtain⟨_,_,_,q,b,g1,g2,g3⟩:=h.mods j m hj;obtain⟨_,_,_,q',b',DX,RH,RI⟩:=h.mods j' m' mS;rw[h1]at g1;rw[u9]at DX;have e1:q=k:=by simp only[Option.some.injEq]at g1;omega
   have e2:q'=k:=by simp only[Option.some.injEq]at DX;omega
   subst e1;rw[e2,g2]at RH;cases RH;rw[<-g3,<-RI]
  exact h.fin1 j j' m m' hj mS hc.1 jY.1 ht hx
 ·exact .inr (.inl e)
 ·exact .inr (.inr e)
theorem Fm (h:sC S) (x:Int):(dk S S.mods x).Pairwise fun a b=>a.wr≠b.wr:=by
 unfold dk;rw[pairwise_map,pairwise_filter,pairwise_iff_getElem];intro i j hi hj eS h1 h2;rw[Bool.and_eq_true,decide_eq_true_eq]at h1 h2;have:=h.apart (j:=i) (j':=j) (m:=S.mods[i]) (m':=S.mods[j]) ae ae (by rw[h1.1,h2.1]) h1.2 h2.2;omega
theorem P6 (h:sC S) {x:Int} {l:List bO} (hp:l.Perm (dk S S.mods x)) (hs:l.Pairwise fun a b=>a.wr<=b.wr):Je l:=by
 have pB:∀e ∈ l,∃(j:Nat) (m:fS),S.mods[j]?=some m/\m.x=x/\mL S m=true/\e=gf S m:=fun e he=>DC (hp.mem_iff.1 he)
 have cf:l.Pairwise fun a b=>a.wr≠b.wr:=(hp.pairwise_iff (fun h=>Ne.symm h)).2 (Fm h x)
 refine⟨?_,fun e he=>?_⟩
 ·have:=hs.and cf
  refine Pairwise.imp_of_mem ?_ this;rintro a b ha hb ⟨h1,h2⟩;obtain⟨j,m,e1,e2,e3,rfl⟩:=pB a ha;obtain⟨j',m',JS,NF,TT,rfl⟩:=pB b hb;rcases h.apart e1 JS (by rw[e2,NF]) e3 TT with q | q | q
  ·subst q
   rw[e1]at JS;cases JS;exact(h2 rfl).elim
  ·refine⟨q.1,q.2,fun hv=>?_⟩
   have v1:=(h.mods j m e1).1;have v2:=(h.mods j' m' JS).1;have oP:m.w=m'.w/\m.n=m'.n:=hv;rw[e2,oP.1,oP.2]at v1;rw[NF,v1]at v2;simp only[Option.some.injEq]at v2;have:j=j':=Z;subst this;rw[e1]at JS;cases JS;exact h2 rfl
  ·omega
 ·obtain⟨j,m,e1,e2,e3,rfl⟩:=pB e he
  obtain⟨v1,v2,v3,_⟩:=h.mods j m e1;obtain⟨k,a,h1,h2,h3⟩:=h.txR e1;unfold mL at e3;rw[Bool.and_eq_true,decide_eq_true_eq,h3]at e3;have:=h.comb k a h2 e3.2;simp only[gf,h3];exact⟨v3,Z,Z⟩
theorem row_hist (h:sC S) {x:Int} {l:List bO} (hp:l.Perm (dk S S.mods x)) {e:bO} (he:e ∈ l):∃a m,txR S e.w=(a,true)/\a.n=e.wr/\a.e=e.en/\modR S x e.w e.n=(m,true)/\m.fin=true:=by
 obtain⟨j,m,e1,e2,e3,rfl⟩:=DC (hp.mem_iff.1 he);obtain⟨v1,v2,v3,_⟩:=h.mods j m e1;obtain⟨k,a,h1,h2,h3⟩:=h.txR e1;unfold mL at e3;rw[Bool.and_eq_true,decide_eq_true_eq,h3]at e3;refine⟨a,m,?_,by simp only[gf,h3],by simp only[gf,h3],?_,e3.1⟩
 ·show txR S m.w=_
  rw[v2];exact h3
 ·unfold modR
  show (match S.ver x m.w m.n with | some k=>_ | none=>_)=_;rw[<-e2,v1];have:((j:Int)).toNat=j:=Z;simp only[this,e1]
theorem inst_law (h:sC S) {F:Int->Option (List bO)} (h1:∀x,F x=none ↔ dk S S.mods x=[]) (h2:∀x l,F x=some l->l.Perm (dk S S.mods x)/\l.Pairwise fun a b=>a.wr<=b.wr) {m:fS} (hj:S.mods[j]?=some m) :
 mC ((F m.x).getD []) m.w m.n=if mL S m=true then ((txR S m.t).1.n,true) else (0,false):=by
 obtain⟨v1,v2,v3,_⟩:=h.mods j m hj;have hl:∃l,l=(F m.x).getD []/\l.Perm (dk S S.mods m.x)/\Je l:=by
  cases hF:F m.x with
  | none =>
    refine⟨[],rfl,by rw[(h1 m.x).1 hF],⟨.nil,ae⟩⟩
  | some l=>exact⟨l,rfl,(h2 _ _ hF).1,P6 h (h2 _ _ hF).1 (h2 _ _ hF).2⟩
 obtain⟨l,hl,hp,aQ⟩:=hl;rw[<-hl];by_cases hc:mL S m=true
 ·rw[if_pos hc]
  have pB:gf S m ∈ l:=hp.mem_iff.2 (by
   unfold dk;exact mem_map.2 ⟨m,mem_filter.2 ⟨mem_of_getElem? hj,by simp[hc]⟩,rfl⟩)
  obtain⟨k,hk⟩:=getElem?_of_mem pB;have:=aQ.place hk;have e1:(gf S m).w=m.w:=rfl;have e2:(gf S m).n=m.n:=rfl;rw[e1,e2]at this;unfold mC;rw[this];simp only[Bool.true_eq_false,false_or];rw[if_neg Z];have:(((k+1:Nat):Int) - 1).toNat=k:=Z;rw[this,hk];rfl
 ·rw[if_neg hc]
  have sy:∀e ∈ l,gi m.w m.n e=false:=fun e he=>by
   obtain⟨j',m',e1,e2,e3,rfl⟩:=DC (hp.mem_iff.1 he);obtain⟨RY,_⟩:=h.mods j' m' e1;cases hi:gi m.w m.n (gf S m') with
   | false=>rfl
   | true =>
     have hi:m'.w=m.w/\m'.n=m.n:=by
      unfold gi at hi;rw[Bool.and_eq_true]at hi;exact⟨of_decide_eq_true hi.1,of_decide_eq_true hi.2⟩
     rw[e2,hi.1,hi.2,v1]at RY;simp only[Option.some.injEq]at RY;have:j=j':=Z;subst this;rw[hj]at e1;cases e1;exact(hc e3).elim
  have QN:∀(l:List bO) (i:Nat),(∀e ∈ l,gi m.w m.n e=false)->eN (gi m.w m.n) l i = -1:=by
   intro l
   induction l with
   | nil=>intro i _;rfl
   | cons a l ih =>
     intro i hn;have h0:=hn a mem_cons_self;have:eN (gi m.w m.n) (a::l) i=eN (gi m.w m.n) l (i+1):=if_neg (by rw[h0];simp);rw[this];exact ih (i+1) fun e he=>hn e (mem_cons_of_mem _ he)
  have sV:ba l m.w m.n=(0,false):=by
   unfold ba;rw[if_neg aj,QN l 0 sy];simp
  unfold mC;rw[sV];simp
end
end Go.Xs
namespace Go.Xs
open List Nat Option
variable{M:Hp}{b i nx o:Nat}{f:Int->Option (List bO)}{α:Type}
open Go.Proofs
theorem rE {l:List bO} {w n:Int} (h:(ba l w n).2=false):(ba l w n).1=0:=by
 unfold ba at h ⊢;split at h
 ·cases h
 ·rename_i q
  rw[if_neg q];have:=ta (gi w n) l 0;simp only[decide_eq_false_iff_not]at h;simp only;omega
theorem TP (ρ:aK) (h:ey M b o f) (hb:b<=nx) (x:Int) (cF:Cl nx M) (ho:aO nx (.mp o 0)=true) :
 ∃(rk:Nat) (N:Hp) (hi:Nat),bN am ρ 54 [.mp o 0,.int .u64 x] M nx ⟨.mp rk 0,List.range nx,dH N nx hi⟩ hi/\kn (aY M (dH N nx hi)) hi (.mp rk 0) ((f x).getD [])/\aq nx M (aY M (dH N nx hi))/\nx<=hi/\Cl hi (aY M (dH N nx hi))/\rk<hi:=by
 obtain⟨v,N,hi,hC,hR,hA,jT,lH,Us⟩:=bN.made' (P:=am) (ρ:=ρ) (g:=54) (args:=[.mp o 0,.int .u64 x]) (M:=M) (nx:=nx) (Q:=fun r=>Hl r.2.1 b nx r.2.2 r.1 ((f x).getD [])) cF
  (by simp only[aE];rw[ho];rfl) (fun N hN=>zi { ρ with det:=true } (h.agr (hN.le hb)) hb x) (fun N hN Bh=>by
    cases hx:f x with
    | none =>
      refine⟨.mp nx 0,ci N nx (.row [.nils]),nx+1,⟨nx,.nils,rfl,.inr (Nat.le_refl _),by show nx<nx+1;omega,by show gG (ci N nx _) nx=_;rw[ao,if_pos rfl],?_⟩,(aq.refl _ _).set (Nat.le_refl _) _,Z,(Bh.le Z).set Z rfl,by simp only[aO,blt_eq];omega⟩;exact⟨ae,.inl ⟨rfl,rfl,rfl⟩⟩
    | some l =>
      obtain⟨v,bA,_⟩:=X1 ρ (h.agr (hN.le hb)) x hx;obtain⟨rk,sv,rfl,h1,h2,h3⟩:=bA;exact⟨.mp rk 0,N,nx,⟨rk,sv,rfl,.inl h1,by show rk<nx;omega,h2,h3⟩,aq.refl _ _,Z,Bh,by simp only[aO,blt_eq];omega⟩)
 obtain⟨rk,sv,e1,e0,e2,e3,e4⟩:=id hR;simp only at e1 e2 e3;subst e1;have mO:∀q,q<hi->gG (aY M (dH N nx hi)) q=gG N q:=fun q hq=>by
  by_cases h:nx<=q
  ·rw[bW,if_pos ⟨h,hq⟩]
  ·rw[bW,if_neg Z,hA q Z]
 have hRA:kn N hi (.mp rk 0) ((f x).getD []):=Hl.at hR (by show b<=hi;omega);obtain⟨rk',sv',q1,q2,q3,q4⟩:=hRA;refine⟨rk,N,hi,hC,⟨rk',sv',q1,q2,(mO rk' q2).trans q3,q4.agr mO⟩,fun q hq=>by rw[bW,if_neg Z],jT,fun q y hy=>?_,e2⟩;by_cases hq:q<hi
 ·rw[mO q hq]at hy
  exact lH q y hy
 ·rw[bW,if_neg Z]at hy
  exact cF.le jT q y hy
theorem DN (ρ:aK) (h:ey M b o f) (hb:b<=nx) (x w n:Int) :
 ar am ρ 20 [.mp o 0,.int .u64 x,.agg [.int .u64 w,.int .u64 n]] M nx (fe nx M (.tup [.int .i64 (ba ((f x).getD []) w n).1,.bool (ba ((f x).getD []) w n).2])):=by
 refine ar.closed fun cF aX=>?_
 have ho:aO nx (.mp o 0)=true:=cq aX ae;refine ar.wk 23 [.tmp 6,.tmp 7] Tryz.func20 ?_;refine bR LR ?_;generalize xu:ci M nx _=M1;have a1:aq nx M M1:=by rw[<-xu];exact O
 have z1:gG M1 nx=some (.row [.int .u64 w,.int .u64 n]):=by rw[<-xu];exact J
 have sR:Cl (nx+1) M1:=by rw[<-xu];exact(cF.le Z).set Z rfl
 clear xu;obtain⟨rk,N,hi,hC,hR,hA,jT,lH,Gr⟩:=TP ρ (nx:=nx+5) (h.agr (a1.le hb)) Z x (sR.le Z) (aO.le Z ho);obtain⟨l,hl⟩:∃l,l=(f x).getD []:=⟨_,rfl⟩;rw[<-hl]at hR ⊢;refine aT hC af ?_;have z2:=(hA nx Z).trans z1;refine Ao LR z2 @aA ?_;refine aT (bN.read (v:=.tup [.int .i64 (ba l w n).1,.bool (ba l w n).2]) (lH.le Z) ?_ rfl fun N' hN=>Nl ρ (hR.agr (hN.le Z)) Z w n) af ?_
 ·have xj:Nat.blt rk (hi+3)=true:=by rw[blt_eq];omega
  simp only[aE,aO,xj]
 have iO:=eI N (nx+5) hi;cases uW:(ba l w n).2 with
 | false =>
   have sV:=rE uW;refine ti LR uW @aA @fe.eq_1 ?_;exact⟨bn _ _ _ _ _ _ (fun q hq=>by cases hq) (fun q hq=>by cases hq) (fun q hq=>by have:=iO q hq;simp only[mem_singleton];omega),by rw[sV],fun q hq=>(by rw[hA q Z];exact a1 q hq),Z⟩
 | true =>
   refine ti LR uW @aA @fe.eq_1 ?_;exact⟨bn _ _ _ _ _ _ (fun q hq=>by cases hq) (fun q hq=>by cases hq) (fun q hq=>by have:=iO q hq;simp only[mem_singleton];omega),fun q hq=>(by rw[hA q Z];exact a1 q hq),Z⟩
theorem P3 (ρ:aK) (h:ey M b o f) (hb:b<=nx) (x writer:Int) (few:((f x).getD []).length<=100000) :
 ar am ρ 22 [.mp o 0,.int .u64 x,.int .i64 writer] M nx (og nx M 2 fA (oD ((f x).getD []) writer)):=by
 refine ar.wk 35 [.tmp 6] Tryz.func22 ?_;refine bR sO ?_;generalize xu:ci M (nx+2) _=M1;have a1:aq nx M M1:=by rw[<-xu];exact O
 have z0:gG M1 (nx+2)=some (.row [.int .u64 0,.int .u64 0]):=by rw[<-xu];exact J
 clear xu;refine gQ (zi ρ (h.agr (a1.le hb)) Z x) ?_;rintro⟨u,M2,n2⟩ ⟨g1,g2,g3⟩;simp only at g1 g2 g3;have a2:aq nx M M2:=a1.trans (g2.le Z);have z3:=(g2 (nx+2) Z).trans z0;obtain⟨l,hl⟩:∃l,l=(f x).getD []:=⟨_,rfl⟩;rw[<-hl]at g1 few ⊢;obtain⟨rk,sv,e1,e0,e2,e3,e4⟩:=g1;subst e1;clear g2 h;refine mI sO e3 ?_;have ay:=fun N=>e4.len (P:=am) (t:=100) cU.2.2.2.2.2 N
 have hz:=e4.1;have ZC:∃K0,gY M2 (fun q=>q=nx+2) (.sl (nx+2) 2 0 1 1) 2 fA (oD [] writer)/\K0=0:=⟨0,⟨by simp[oD,gV],rfl,.inr ⟨nx+2,rfl,rfl,z3⟩⟩,rfl⟩;obtain⟨_,hv0,_⟩:=ZC;refine Ao sO e3 ay ?_;refine aC (fun m' s=>∃(i:Nat) (vv:XV),i<=l.length/\m'=l.length - i/\gG s.env 2=some (.int .i64 writer)/\gG s.env 7=some vv/\gG s.env 18=some sv/\gG s.env 19=some (.int .i64 l.length)/\gG s.env 20=some (.int .i64 i) /\
  gY s.M (fun q=>q=nx+2\/(n2<=q/\q<s.nx)) vv 2 fA (oD (l.take i) writer)/\(∀q:Nat,q<n2->q≠nx+2->gG s.M q=gG M2 q)/\n2<=s.nx) l.length ⟨0,.sl (nx+2) 2 0 1 1,Z,Z,?_⟩ ?_
 ·refine bR sO ?_
  exact⟨dG.keep hv0 fun q hq=>⟨rfl,.inl hq⟩,fun q _ _=>trivial,Z⟩
 ·rintro m' ⟨env,M',nx'⟩ ⟨i,vv,hi,ir,f2,f7,sY,yU,DN,hv,ha,hn⟩
  simp only at f2 f7 sY yU DN hv ha hn;by_cases aL:(i:Int)<l.length
  ·have aP:i<l.length:=Z
   obtain⟨e,gA⟩:∃e,l[i]?=some e:=⟨l[i],by simp[aP]⟩;have bV:=eF i;have kS:=iM (yV writer) gA;have Gl:=dS (yV writer) (l.take i) 0;have FZ:(l.take i).length<=100000:=by rw[length_take];omega
   have gE:(oD (l.take i) writer).length<=100001:=by unfold oD;rw[length_cons];omega
   have Y5:aq b M2 M':=fun q hq=>ha q Z Z
   obtain⟨n,o',jw,bC,aU⟩:=e4.elem (P:=am) aP (t:=100) (t':=106) cU.2.2.2.1 gZ.1;have aU:=aU M' Y5;rw[jr l i e gA]at aU;simp only[aV]at aU;by_cases cf:e.wr=writer
   ·have h_:yV writer i e=none:=by unfold yV;rw[if_neg (fun h=>h cf)]
    rw[h_]at kS;refine dw sO f2 @f7 @sY @yU @DN aL bC aU cf bV ?_;refine⟨l.length - (i+1),Z,i+1,_,Z,rfl,rfl,rfl,?_,fun q h1 h2=>?_,Z⟩
    ·unfold oD
     rw[kS,toList_none,append_nil];exact dG.keep hv fun q hq=>(by
      have hq:q=nx+2\/(n2<=q/\q<nx'):=hq;exact⟨J,Z⟩)
    ·repeat rw[if_neg (by simp only[aw];omega)]
     exact ha q h1 h2
   ·have h_:yV writer i e=some (e.w,e.n):=by unfold yV;rw[if_pos cf]
    rw[h_]at kS;have sW:∀y z,gY (ci (ci M' (nx'+3) y) (nx'+3) z) (fun q=>q=nx+2\/(n2<=q/\q<nx')) vv 2 fA (oD (l.take i) writer):=fun y z=>dG.keep hv fun q hq=>⟨(by have hq:q=nx+2\/(n2<=q/\q<nx'):=hq;exact J),hq⟩
    have dX:=fun y z=>(sW y z).push (hi:=nx') (fun q hq=>by rcases hq with h | h<;>omega) (e.w,e.n) am 55 16 [.int .u64 0,.int .u64 0] Z Z rfl (by simp only[fE];omega) rfl
    simp only[fA]at dX;refine ii sO f2 @f7 @sY @yU @DN aL bC aU cf dX bV ?_;refine⟨l.length - (i+1),Z,i+1,_,Z,rfl,rfl,rfl,?_,fun q h1 h2=>?_,Z⟩
    ·have:oD (l.take (i+1)) writer=oD (l.take i) writer++[(e.w,e.n)]:=by unfold oD;rw[kS];rfl
     rw[this];exact(sW (.cst []) (.cst [])).pushed (e.w,e.n) (.inr ⟨Z,Z⟩) rfl Z
    ·rw[dG.push_oldP hv _ (by rintro(h | h)<;>omega) Z]
     have:=ha q h1 h2;exact J
  ·have gB:i=l.length:=Z
   refine iQ sO f2 @f7 @sY @yU @DN aL @og.eq_1 ?_;rw[gB,take_length]at hv;refine⟨dG.keep hv fun q hq=>?_,fun q hq=>(ha q Z Z).trans (a2 q hq),Z⟩;have hq:q=nx+2\/(n2<=q/\q<nx'):=hq;exact⟨rfl,show nx<=q by omega,show q<nx'+3 by omega⟩
theorem zu {l:List bO}:ce l l.length=([.int .u64 (jM l l.length).1,.int .u64 (jM l l.length).2],true):=qW l (Nat.le_refl _)
theorem XG (ρ:aK) (h:ey M b o f) (hb:b<=nx) (x:Int) :
 ar am ρ 26 [.mp o 0,.int .u64 x] M nx (fe nx M (.agg [.int .u64 (jM ((f x).getD []) ((f x).getD []).length).1,.int .u64 (jM ((f x).getD []) ((f x).getD []).length).2])):=by
 refine ar.closed fun cF aX=>?_
 have ho:aO nx (.mp o 0)=true:=cq aX ae;refine ar.wk 20 [.cell 4 25] Tryz.func26 ?_;refine bR Kn ?_;generalize xu:ci M nx _=M1;have a1:aq nx M M1:=by rw[<-xu];exact O
 have z1:gG M1 nx=some (.row [.int .u64 0,.int .u64 0]):=by rw[<-xu];exact J
 have sR:Cl (nx+1) M1:=by rw[<-xu];exact(cF.le Z).set Z rfl
 clear xu;obtain⟨rk,N,hi,hC,hR,hA,jT,lH,Gr⟩:=TP ρ (nx:=nx+3) (h.agr (a1.le hb)) Z x (sR.le Z) (aO.le Z ho);have hOA:=(h.agr (a1.le hb)).agr (hA.le Z);obtain⟨l,hl⟩:∃l,l=(f x).getD []:=⟨_,rfl⟩;rw[<-hl]at hR ⊢;have iO:=eI N (nx+3) hi;refine aT hC af ?_;have z2:=(hA nx Z).trans z1;refine mI Kn @aA ?_;refine aT (bN.read (v:=.int .i64 l.length) (lH.le Z) ?_ rfl fun N' hN=>by rw[hl];exact Rp ρ (hOA.agr (hN.le Z)) Z x) af ?_
 ·simp only[aE];rw[aO.le Z ho];rfl
 refine mI Kn @aA ?_;refine aT (bN.read (v:=.tup [.agg (ce l l.length).1,.bool (ce l l.length).2]) (lH.le Z) ?_ ?_ fun N' hN=>RB ρ (hR.agr (hN.le Z)) Z l.length Z) af ?_
 ·have xj:∀c,Nat.blt rk (hi+c)=true:=fun c=>by rw[blt_eq];omega
  simp only[aE,aO,xj]
 ·rw[zu];rfl
 rw[zu];obtain⟨va,vb⟩:=jM l l.length;refine ti Kn @aA z2 @fe.eq_1 ?_;have hh:∀q,q ∈ [hi+7]->q=hi+7:=fun q hq=>by simpa using hq
 exact⟨⟨bn _ _ _ _ _ _ (fun q hq=>by have:=hh q hq;simp only[mem_range];omega) (fun q hq=>ae) (fun q hq=>by cases hq),bn _ _ _ _ _ _ (fun q hq=>by have:=hh q hq;simp only[mem_range];omega) (fun q hq=>ae) (fun q hq=>by cases hq),
  bn _ _ _ _ _ _ (fun q hq=>by have:=hh q hq;simp only[mem_range];omega) (fun q hq nP=>by have:=hh q hq;have:=iO q nP;omega) (fun q hq=>ae)⟩,fun q hq=>(by have:=(hA q Z).trans (a1 q hq);exact J),Z⟩
theorem WV (ρ:aK) (M:Hp) (nx:Nat):ar am ρ 11 [.nilp] M nx (fe nx M .nilp):=by
 refine ar.wk 95 [.tmp 2] Tryz.func11 ?_;refine mI oZ @fe.eq_1 ?_;exact⟨aq.refl _ _,Z⟩
def WO (nx K:Nat) (M:Hp) (c:Bool) (r:ew):Prop:=r.1 = .bool c/\(∀q,q<nx->q≠K->gG r.2.1 q=gG M q)/\nx<=r.2.2
theorem Dm {A B:List α} {a b:α} (ha:A[i]?=some a) (hb:B[i]?=some b) (qJ:a≠b):A≠B:=fun e=>by
 subst e;rw[ha]at hb;cases hb;exact qJ rfl
theorem Kg {A B:List α} {a:α} (ha:A[i]?=some a) (hb:B[i]?=some a) (h:A.take i=B.take i):A.take (i+1)=B.take (i+1):=by
 rw[take_add_one,take_add_one,h,ha,hb]
theorem f49 (ρ:aK) {A B:List (Int×Int)} {K:Nat} {u w:XV} (hA:gY M (fun q=>q=K) u 2 fA A) (hK:K<nx) (hB:gY M (fun q=>q≠K/\q<nx) w 2 fA B) (Zm:A.length<=100000) :
 ar am ρ 49 [u,w] M nx (WO nx K M (decide (A=B))):=by
 refine ar.closed fun cF aX=>?_
 have JW:=fun N=>hA.len (P:=am) (t:=55) Kx.2.2.2.2.2 N
 have NW:=fun N=>hB.len (P:=am) (t:=129) De.2.2.2.2.2 N
 refine ar.wk 35 [.tmp 4] Tryz.func49 ?_;by_cases hl:(A.length:Int)=B.length
 ·refine ti uz JW NW hl ?_
  refine aC (fun m' s=>∃(i:Nat) (rw:List XV),i<=A.length/\m'=A.length - i/\gG s.env 0=some u/\gG s.env 1=some w/\gG s.env 5=some (.int .i64 i)/\A.take i=B.take i /\
   (A.length=0\/gG s.M K=some (.row rw))/\rw.length=A.length*2/\(∀j a,i<=j->A[j]?=some a->(rw.drop (j*2)).take 2=fA a)/\(∀q:Nat,q<nx->q≠K->gG s.M q=gG M q)/\nx<=s.nx/\Cl s.nx s.M) A.length ⟨0,A.flatMap fA,Z,Z,?_⟩ ?_
  ·refine bR uz ?_
   refine⟨?_,hA.2.1,fun j a _ ha=>eT nW ha,fun q _ _=>(by first | trivial | rfl),Z,cF.le Z⟩;rcases hA.2.2 with ⟨_,h⟩ | ⟨n,_,rfl,h⟩
   ·exact .inl h
   ·exact .inr h
  ·rintro m' ⟨env,M',nx'⟩ ⟨i,rw',hi,ir,e0,e1,e5,uX,bA,je,Mr,ha,hn,jZ⟩
   simp only at e0 e1 e5 bA ha hn jZ;by_cases aL:(i:Int)<A.length
   ·have aP:i<A.length:=Z
    obtain⟨a,Qx⟩:∃a,A[i]?=some a:=⟨A[i],by simp[aP]⟩;obtain⟨c,Vy⟩:∃c,B[i]?=some c:=⟨B[i]' Z,getElem?_eq_getElem Z⟩;have bV:=eF i;obtain⟨n,hu,rfl,_,bC,_,_⟩:=hA.elem nW Qx (P:=am) (t:=55) Kx.2.2.2.1;obtain⟨n',hw,⟨bT,fq⟩,_,iN,dJ,_⟩:=hB.elem nW Vy (P:=am) (t:=129) De.2.2.2.1;have bA:gG M' n=some (.row rw'):=bA.resolve_left Z;have dJ:=dJ M' (ha n' fq bT) 110 gq.1;have rC:(i+1)*2<=A.length*2:=mul_le_mul_right _ aP;have hc:=Mr i a (Nat.le_refl _) Qx;have aU:b_ am M' 25 (.mp n (i*2))=some ⟨.agg (fA a),[n],[]⟩:=by
     rw[fG (by unfold vR;rw[bA]) dc.1 Z,hc]
    have ZJ:b_ am M' 23 (.mp n (i*2+1))=some ⟨.int .u64 a.2,[n],[]⟩:=by
     refine dB (by unfold vR;rw[bA]) bi.1 ?_;have:=congrArg (·[1]?) hc;simp only[getElem?_take,getElem?_drop]at this;exact this
    clear hu hw;simp only[fA]at aU dJ;by_cases q1:a.1=c.1
    ·by_cases q2:a.2=c.2
     ·refine dp uz e0 e1 e5 JW aL bC iN aU dJ ?_
      refine aT (bN.read (v:=.agg [.int .u64 a.1,.int .u64 a.2]) (jZ.le Z) rfl rfl fun N hN=>JR ρ a.1 a.2 N _) af ?_;refine ii uz iN dJ q1 q2 @aA bC ZJ bA bV e0 (aI e1 e5) ?_;have RL:a=c:=Prod.ext q1 q2;have gE:i*2+1+[XV.int .u64 (IntKind.u64.wrap (c.2+1))].length<=rw'.length:=by simp only[length_cons,length_nil];omega
      refine⟨A.length - (i+1),Z,i+1,_,Z,rfl,rfl,Kg Qx (by rw[Vy,RL]) uX,.inr rfl,by rw[ib _ _ _ gE];exact je,fun j a' hj Jo=>?_,fun q h1 h2=>?_,Z,?_⟩
      ·rw[iH _ _ _ _ gE (by simp only[length_cons,length_nil];omega)]
       exact Mr j a' Z Jo
      ·rw[if_neg (fun e=>h2 (by have e:n=q:=e;exact e.symm))]
       exact ha q h1 h2
      ·refine(jZ.le Z).set Z ?_
       have:=(jZ n _ bA).2;simp only[cp]at this ⊢;exact rI gE (aE.le Z this) rfl
     ·refine dp uz e0 e1 e5 JW aL bC iN aU dJ ?_
      refine aT (bN.read (v:=.agg [.int .u64 a.1,.int .u64 a.2]) (jZ.le Z) rfl rfl fun N hN=>JR ρ a.1 a.2 N _) af ?_;have cf:A≠B:=Dm Qx Vy fun e=>q2 (by rw[e])
      rw[decide_eq_false cf];refine CU uz iN dJ q1 q2 @aA e0 e1 e5 ?_;exact⟨rfl,ha,by dsimp only;omega⟩
    ·refine dp uz e0 e1 e5 JW aL bC iN aU dJ ?_
     refine aT (bN.read (v:=.agg [.int .u64 a.1,.int .u64 a.2]) (jZ.le Z) rfl rfl fun N hN=>JR ρ a.1 a.2 N _) af ?_;have cf:A≠B:=Dm Qx Vy fun e=>q1 (by rw[e])
     rw[decide_eq_false cf];by_cases q2:a.2=c.2
     ·refine dp uz iN dJ q1 q2 @aA e0 e1 e5 @Bool.false_and ?_
      exact⟨rfl,ha,by dsimp only;omega⟩
     ·refine dp uz iN dJ q1 q2 @aA e0 e1 e5 @Bool.false_and ?_
      exact⟨rfl,ha,by dsimp only;omega⟩
   ·have gB:i=A.length:=Z
    rw[gB,take_length]at uX;have hAB:A=B:=by rw[uX,take_of_length_le Z]
    rw[decide_eq_true hAB];refine iC uz e0 e1 e5 JW aL ?_;exact⟨rfl,ha,by dsimp only;omega⟩
 ·have cf:A≠B:=fun e=>hl (by rw[e])
  rw[decide_eq_false cf];refine ti uz JW NW hl ?_;exact⟨rfl,fun q _ _=>rfl,by dsimp only;omega⟩
end Go.Xs
namespace Go.Xs
open List Nat Option
variable{k:Nat}
noncomputable section
theorem Ll {l:List bO} (h:∀e ∈ l,e.wr ≠ -1):[XV.int .u64 0,XV.int .u64 0]++l.flatMap BF=(oD l (-1)).flatMap fA/\(oD l (-1)).length=l.length+1:=by
 have key:∀(l:List bO) (i:Nat),(∀e ∈ l,e.wr ≠ -1)->(gV (yV (-1)) l i).flatMap fA=l.flatMap BF/\(gV (yV (-1)) l i).length=l.length:=by
  intro l
  induction l with
  | nil=>intro i _;exact⟨rfl,rfl⟩
  | cons e l ih =>
    intro i h;obtain⟨h1,h2⟩:=ih (i+1) fun e he=>h e (mem_cons_of_mem _ he)
    have hw:yV (-1) i e=some (e.w,e.n):=by unfold yV;rw[if_pos (h e mem_cons_self)]
    simp only[gV,hw,flatMap_cons,length_cons,h1,h2];exact⟨rfl,trivial⟩
 obtain⟨h1,h2⟩:=key l 0 h;exact⟨by rw[oD,flatMap_cons,h1];rfl,by rw[oD,length_cons,h2]⟩
theorem OF {l:List bO} {w n:Int} (h:(ba l w n).2=false):ba l w n=(0,false)/\jQ l w n=(Bm,false)/\jF l w n=([.int .u64 0,.int .u64 0],false)/\mC l w n=(0,false):=by
 refine⟨Prod.ext (rE h) h,?_,?_,?_⟩
 ·unfold jQ;rw[if_pos (.inl h)]
 ·unfold jF;rw[if_pos h]
 ·unfold mC;rw[if_pos (.inl h)]
theorem Hx {l:List bO} {e:bO} (h:l[k]?=some e):ce l ((k:Int)+1)=([.int .u64 e.w,.int .u64 e.n],true):=by
 have hk:=(List.getElem?_eq_some_iff.1 h).1;unfold ce;rw[if_neg Z,if_neg Z,show ((k:Int)+1 - 1).toNat=k by omega,h]
theorem wG (l:List bO):ce l (-1)=([.int .u64 0,.int .u64 0],false):=by unfold ce;rw[if_neg Z,if_pos (.inl Z)]
theorem Bt {l:List bO} {i:Int} (h:(l.length:Int)<i):ce l i=([.int .u64 0,.int .u64 0],false):=by unfold ce;rw[if_neg Z,if_pos (.inr h)]
theorem Hb {l:List bO} {w n:Int} (h:ba l w n=((k:Int),true)) (hk:k<=l.length) :
 (∃e,l[k]?=some e/\jQ l w n=(e,true)/\ce l ((k:Int)+1)=([.int .u64 e.w,.int .u64 e.n],true))\/(k=l.length/\jQ l w n=(Bm,false)/\ce l ((k:Int)+1)=([.int .u64 0,.int .u64 0],false)):=by
 by_cases q:k=l.length
 ·right
  refine⟨q,?_,Bt Z⟩;unfold jQ;rw[h,if_pos (.inr ak)]
 ·left
  obtain⟨e,he⟩:∃e,l[k]?=some e:=⟨l[k]' Z,getElem?_eq_getElem Z⟩;refine⟨e,he,?_,Hx he⟩;unfold jQ;rw[h,if_neg aj];simp only[Int.toNat_natCast,he,getD_some]
theorem xf {l:List bO} {w n:Int} (h:ba l w n=((k:Int),true)) (hk:k<=l.length) :
 (k=0/\jF l w n=([.int .u64 0,.int .u64 0],false)/\mC l w n=(0,false)/\ce l ((k:Int) - 1)=([.int .u64 0,.int .u64 0],false)) \/
 (∃(j:Nat) (e:bO) (a c:Int),k=j+1/\l[j]?=some e/\jF l w n=([.int .u64 a,.int .u64 c],true)/\mC l w n=(e.wr,true)/\ce l ((k:Int) - 1)=([.int .u64 a,.int .u64 c],true)):=by
 have ha:jF l w n=ce l ((k:Int) - 1):=by
  unfold jF;rw[h];rfl
 cases k with
 | zero =>
   left;have:ce l (((0:Nat):Int) - 1)=([.int .u64 0,.int .u64 0],false):=wG l;refine⟨rfl,by rw[ha,this],?_,this⟩;unfold mC;rw[h,if_pos (.inr rfl)]
 | succ j =>
   right;obtain⟨e,he⟩:∃e,l[j]?=some e:=⟨l[j]' Z,getElem?_eq_getElem Z⟩;have hv:ce l (((j+1:Nat):Int) - 1)=([.int .u64 (jM l j).1,.int .u64 (jM l j).2],true):=by
    rw[show ((j+1:Nat):Int) - 1=(j:Int) by omega];exact qW l Z
   refine⟨j,e,_,_,rfl,he,by rw[ha,hv],?_,hv⟩;unfold mC;rw[h,if_neg aj];simp only[show (((j+1:Nat):Int) - 1).toNat=j by omega,he,getD_some]
theorem KZ (l:List bO) (w n:Int):∃(p:Nat) (pl b1 b2 s g it:Bool) (a1 c1 a2 c2 na nc nw ne aa ac iw:Int),
 ba l w n=((p:Int),pl)/\p<=l.length/\ce l ((p:Int)+1)=([.int .u64 a1,.int .u64 c1],b1)/\ce l ((p:Int) - 1)=([.int .u64 a2,.int .u64 c2],b2) /\
 jQ l w n=(⟨na,nc,nw,ne⟩,s)/\jF l w n=([.int .u64 aa,.int .u64 ac],g)/\mC l w n=(iw,it)/\(s=true->l[p]?=some ⟨na,nc,nw,ne⟩)/\(it=true->1<=p/\∃e,l[p - 1]?=some e/\e.wr=iw)/\(0<(p:Int) ↔ it=true) /\
 ((pl=false/\b1=true/\s=false/\na=0/\nc=0/\nw=0/\b2=false/\g=false/\it=false/\aa=0/\ac=0/\iw=0) \/
  (pl=false/\b1=false/\s=false/\na=0/\nc=0/\nw=0/\b2=false/\g=false/\it=false/\aa=0/\ac=0/\iw=0) \/
  (pl=true/\b1=true/\s=true/\na=a1/\nc=c1/\b2=false/\g=false/\it=false/\aa=0/\ac=0/\iw=0) \/
  (pl=true/\b1=true/\s=true/\na=a1/\nc=c1/\b2=true/\g=true/\it=true/\aa=a2/\ac=c2) \/
  (pl=true/\b1=false/\s=false/\na=0/\nc=0/\nw=0/\b2=false/\g=false/\it=false/\aa=0/\ac=0/\iw=0) \/
  (pl=true/\b1=false/\s=false/\na=0/\nc=0/\nw=0/\b2=true/\g=true/\it=true/\aa=a2/\ac=c2)):=by
 have hb:=jt l w n;cases hp:(ba l w n).2 with
 | false =>
   obtain⟨h1,h2,h3,h4⟩:=OF hp;obtain⟨a1,c1,h5⟩:=sb l 1;refine⟨0,false,(ce l 1).2,false,false,false,false,a1,c1,0,0,0,0,0,0,0,0,0,h1,Z,Prod.ext h5 rfl,wG l,h2,h3,h4,ae,ae,ae,?_⟩;cases (ce l 1).2<;>simp
 | true =>
   obtain⟨k,hk⟩:∃k:Nat,(ba l w n).1=k:=⟨(ba l w n).1.toNat,Z⟩;have h1:ba l w n=((k:Int),true):=Prod.ext hk hp;have kA:k<=l.length:=Z;rcases Hb h1 kA with ⟨⟨na,nc,nw,ne⟩,he,h2,h3⟩ | ⟨_,h2,h3⟩
   ·rcases xf h1 kA with ⟨h0,h4,h5,h6⟩ | ⟨j,e,a,c,h0,hj,h4,h5,h6⟩
    ·exact⟨k,true,true,false,true,false,false,na,nc,0,0,na,nc,nw,ne,0,0,0,h1,kA,h3,h6,h2,h4,h5,fun _=>he,ae,aj,ae⟩
    ·exact⟨k,true,true,true,true,true,true,na,nc,a,c,na,nc,nw,ne,a,c,e.wr,h1,kA,h3,h6,h2,h4,h5,fun _=>he,fun _=>⟨Z,e,by rw[h0];exact hj,rfl⟩,aj,ae⟩
   ·rcases xf h1 kA with ⟨h0,h4,h5,h6⟩ | ⟨j,e,a,c,h0,hj,h4,h5,h6⟩
    ·exact⟨k,true,false,false,false,false,false,0,0,0,0,0,0,0,0,0,0,0,h1,kA,h3,h6,h2,h4,h5,ae,ae,aj,ae⟩
    ·exact⟨k,true,false,true,false,true,true,0,0,a,c,0,0,0,0,a,c,e.wr,h1,kA,h3,h6,h2,h4,h5,ae,fun _=>⟨Z,e,by rw[h0];exact hj,rfl⟩,aj,ae⟩
theorem gY.elems {α:Type} {M:Hp} {p:Nat->Prop} {v:XV} {sz:Nat} {enc:α->List XV} {l:List α} (h:gY M p v sz enc l) (hf:∀a,(enc a).length=sz) {P:Program} {t:Nat} (ht:es P t=some sz) :
 ∃n,∀(i:Nat) (a:α),l[i]?=some a->p n/\(∀k,br P t v (.int k (i:Int))=some (.mp n (i*sz)))/\∀N,gG N n=gG M n->∀(j:Nat) (x:XV),(enc a)[j]?=some x->∀t' m,sa P t'=some (m,false)->b_ P N t' (.mp n (i*sz+j))=some ⟨x,[n],[]⟩:=by
 have h0:=h;obtain⟨_,_,⟨_,h3⟩ | ⟨n,hv,_,_⟩⟩:=h
 ·exact⟨0,fun i a hi=>absurd (List.getElem?_eq_some_iff.1 hi).1 Z⟩
 ·refine⟨n,fun i a hi=>?_⟩
  obtain⟨n',oP,h1,_,h2,_,h4⟩:=h0.elem hf hi (P:=P) (t:=t) ht;rw[hv]at oP;cases oP;exact⟨h1,h2,h4⟩
end
end Go.Xs
namespace Go.Xs
open List Nat Option
variable{L:List aR}{M:Hp}{b nx:Nat}{v:XV}
noncomputable section
open Go.Proofs
def Jf (t a b:Int) (r:aR):Bool:=decide (r.t=t)&&(decide (r.kind=a)||decide (r.kind=b))
theorem f154 (ρ:aK) (hL:cP M b v L) (hb:b<=nx) (hl:L.length<=100000) (t k1 k2:Int):ar am ρ 154 [v,.int .u64 t,.int .i64 k1,.int .i64 k2] M nx (fe nx M (.bool (L.any (Jf t k1 k2)))):=by
 obtain⟨row,a9,gS⟩:=hL;have ay:=fun N=>a9.len (P:=am) (t:=35) jW.2.2.2.2.2 N
 refine ar.wk 41 [.tmp 8] Tryz.func154 ?_;refine bR Fl ?_;refine aC (fun m' s=>∃(i:Nat),i<=L.length/\m'=L.length - i/\gG s.env 0=some v/\gG s.env 1=some (.int .u64 t)/\gG s.env 2=some (.int .i64 k1)/\gG s.env 3=some (.int .i64 k2)/\gG s.env 9=some (.int .i64 i)/\aq nx M s.M/\nx<=s.nx/\∀j r,j<i->L[j]?=some r->Jf t k1 k2 r=false) L.length ⟨0,Z,Z,?_⟩ ?_
 ·refine bR Fl ?_
  exact⟨aq.refl _ _,Z,fun j r h=>Z⟩
 ·rintro m' ⟨env,M',nx'⟩ ⟨i,hi,ir,e0,e1,e2,e3,e9,ha,hn,sy⟩
  simp only at e0 e1 e2 e3 e9 ha hn;by_cases aL:(i:Int)<L.length
  ·have aP:i<L.length:=Z
   obtain⟨r,hr⟩:∃r,L[i]?=some r:=⟨L[i],by simp[aP]⟩;have bV:=eF i;obtain⟨n,o,jw,bC,mi⟩:=a9.fldG (P:=am) aP (t:=35) jW.2.2.2.1;obtain⟨pk,pa,pb,pv,ve,dI,_⟩:=(gS i r hr).cells;have hk:=mi 0 (.int .i64 r.kind) Z (by rw[dI];rfl) 3 1 dA.1 M' (ha.le hb);have hT:=mi 1 (.int .u64 r.t) Z (by rw[dI];rfl) 23 1 bi.1 M' (ha.le hb);rw[Nat.add_zero]at hk;clear mi;have Kh:Jf t k1 k2 r=true->L.any (Jf t k1 k2)=true:=fun h=>List.any_eq_true.2 ⟨r,mem_of_getElem? hr,h⟩
   have qB:Jf t k1 k2 r=false->∀j r,j<i+1->L[j]?=some r->Jf t k1 k2 r=false:=fun h j r' hj sA=>by
    by_cases kX:j=i
    ·rw[kX,hr]at sA;cases sA;exact h
    ·exact sy j r' Z sA
   by_cases ht:r.t=t
   ·by_cases h1:r.kind=k1
    ·have hh:=Kh (by simp[Jf,ht,h1])
     clear Kh qB sy;refine ii Fl e0 e1 e2 e3 e9 ay aL bC hk hT (aI ht (aI h1 (aI hh @fe.eq_1))) ?_;exact⟨ha,Z⟩
    ·by_cases h2:r.kind=k2
     ·have u9:¬ k2=k1:=fun e=>h1 (h2.trans e)
      have hh:=Kh (by simp[Jf,ht,h2]);clear Kh qB sy;refine ii Fl e0 e1 e2 e3 e9 ay aL bC hk hT (aI ht (aI u9 (aI h2 (aI hh @fe.eq_1)))) ?_;exact⟨ha,Z⟩
     ·have hh:=qB (by simp[Jf,h1,h2])
      clear Kh qB sy;refine ii Fl e0 e1 e2 e3 e9 ay aL bC hk hT (aI ht (aI h1 (aI h2 bV))) ?_;exact⟨L.length - (i+1),Z,i+1,Z,rfl,rfl,ha,Z,hh⟩
   ·have hh:=qB (by simp[Jf,ht])
    clear Kh qB sy;refine ii Fl e0 e1 e2 e3 e9 ay aL bC hk hT (aI ht bV) ?_;exact⟨L.length - (i+1),Z,i+1,Z,rfl,rfl,ha,Z,hh⟩
  ·have hh:L.any (Jf t k1 k2)=false:=by
    rw[List.any_eq_false];intro r hr;obtain⟨j,hj⟩:=getElem?_of_mem hr;have:=(List.getElem?_eq_some_iff.1 hj).1;simp[sy j r Z hj]
   clear sy;refine dp Fl e0 e1 e2 e3 e9 ay aL hh @fe.eq_1 ?_;exact⟨ha,Z⟩
def xE (L:List aR) (x w n:Int):Bool:=(decide (w=0)&&decide (n=0))||(decide (0<n)&&decide (n<=dq L w x))
theorem f155 (ρ:aK) (hL:cP M b v L) (hb:b<=nx) (hl:L.length<=100000) (x w n:Int):ar am ρ 155 [v,.int .u64 x,.agg [.int .u64 w,.int .u64 n]] M nx (fe nx M (.bool (xE L x w n))):=by
 refine ar.closed fun cF aX=>?_
 have hv:aO nx v=true:=cq aX ae;clear aX;refine ar.wk 28 [.tmp 6] Tryz.func155 ?_;by_cases h0:0<n
 ·have vR:∀M1 MP,Cl MP M1->aq nx M M1->nx<=MP->bN am ρ 76 [v,.int .u64 w,.int .u64 x] M1 MP ⟨.int .u64 (dq L w x),List.range MP,[]⟩ MP:=fun M1 MP h1 h2 h3 =>
   bN.read h1 (by simp only[aE];rw[aO.le h3 hv];rfl) rfl fun N hN=>f76 ρ (hL.agr ((h2.trans (hN.le h3)).le hb)) Z hl w x
  have ZR:¬ n=0:=Z;by_cases jT:n<=dq L w x
  ·have hth:xE L x w n=true:=by simp[xE,h0,jT]
   by_cases hw:w=0
   ·refine ti dj hw ZR h0 ?_
    refine bF (by(refine bR dj ?_;try exact⟨⟩)) rfl ?_;refine bR dj ?_;refine aT (hw ▸ vR _ _ ((cF.le Z).set Z rfl) O Z) af ?_;simp (maxSteps:=10000000) (zetaDelta:=true) (disch:=first|assumption|decide|omega|(simp only[qG, *];done)|(simp only[qF,fE];first|done|assumption|omega)) only [qE,cz,oj,cB,gx,vI,vB,vX,kq,kg,km,Nat.reduceLT,reduceEqDiff,Nat.reduceAdd,Nat.reduceMul,Nat.reduceSub,reduceIte,Int.reduceLT,Int.reduceLE,Int.reduceEq,Int.reduceNeg,Int.reduceToNat,dj,aA,hw ▸ jT,hth,fe];exact⟨congrArg XV.bool (hw ▸ hth).symm,O,Z⟩
   ·refine Ao dj hw h0 ?_
    refine bF (by(refine bR dj ?_;try exact⟨⟩)) rfl ?_;refine bR dj ?_;refine aT (vR _ _ ((cF.le Z).set Z rfl) O Z) af ?_;refine mY dj @aA jT hth @fe.eq_1 ?_;exact⟨O,Z⟩
  ·have hth:xE L x w n=false:=by simp[xE,h0,jT,ZR]
   by_cases hw:w=0
   ·refine ti dj hw ZR h0 ?_
    refine bF (by(refine bR dj ?_;try exact⟨⟩)) rfl ?_;refine bR dj ?_;refine aT (hw ▸ vR _ _ ((cF.le Z).set Z rfl) O Z) af ?_;simp (maxSteps:=10000000) (zetaDelta:=true) (disch:=first|assumption|decide|omega|(simp only[qG, *];done)|(simp only[qF,fE];first|done|assumption|omega)) only [qE,cz,oj,cB,gx,vI,vB,vX,kq,kg,km,Nat.reduceLT,reduceEqDiff,Nat.reduceAdd,Nat.reduceMul,Nat.reduceSub,reduceIte,Int.reduceLT,Int.reduceLE,Int.reduceEq,Int.reduceNeg,Int.reduceToNat,dj,aA,hw ▸ jT,hth,fe];exact⟨congrArg XV.bool (hw ▸ hth).symm,O,Z⟩
   ·refine Ao dj hw h0 ?_
    refine bF (by(refine bR dj ?_;try exact⟨⟩)) rfl ?_;refine bR dj ?_;refine aT (vR _ _ ((cF.le Z).set Z rfl) O Z) af ?_;refine mY dj @aA jT hth @fe.eq_1 ?_;exact⟨O,Z⟩
 ·by_cases hw:w=0
  ·by_cases hn:n=0
   ·refine ti dj hw hn @fe.eq_1 ?_
    exact⟨by simp[xE],O,Z⟩
   ·have hth:xE L x w n=false:=by simp[xE,h0,hn]
    refine ti dj hw hn h0 ?_;refine cA (by(refine bR dj ?_;try exact⟨⟩)) af ?_;refine Ao dj hth @fe.eq_1 ?_;exact⟨congrArg XV.bool (hw ▸ hth).symm,O,Z⟩
  ·have hth:xE L x w n=false:=by simp[xE,h0,hw]
   refine Ao dj hw h0 ?_;refine cA (by(refine bR dj ?_;try exact⟨⟩)) af ?_;refine Ao dj hth @fe.eq_1 ?_;exact⟨O,Z⟩
theorem f109 (ρ:aK) (hL:cP M b v L) (hb:b<=nx) (hl:L.length<=100000) (t x:Int):ar am ρ 109 [v,.int .u64 t,.int .u64 x] M nx (fe nx M (if dq L t x=0 then .tup [.agg [.int .u64 0,.int .u64 0],.bool false] else .tup [.agg [.int .u64 t,.int .u64 (dq L t x)],.bool true])):=by
 refine ar.wk 19 [.cell 6 110,.tmp 7] Tryz.func109 ?_;refine bR dj ?_;generalize xu:ci M nx _=M1;have a1:aq nx M M1:=by rw[<-xu];exact O
 have z:gG M1 nx=some (.row [.int .u64 0,.int .u64 0]):=by rw[<-xu];exact J
 clear xu;refine lG (f76 ρ (hL.agr (a1.le hb)) Z hl t x) fun M2 n2 g2 g3=>?_
 have z:=(g2 nx Z).trans z;have a2:aq nx M M2:=a1.trans (g2.le Z);clear g2 a1;by_cases h0:dq L t x=0
 ·have h0':(dq L t x:Int)=0:=Z
  refine mY dj h0' h0 z @fe.eq_1 ?_;exact⟨(by(repeat (refine aq.set ?_ Z _));exact a2),Z⟩
 ·have h0':¬ (dq L t x:Int)=0:=Z
  refine mY dj h0' h0 z @fe.eq_1 ?_;exact⟨(by(repeat (refine aq.set ?_ Z _));exact a2),Z⟩
end
end Go.Xs
namespace Go.Xs
open List Nat Option
variable{M:Hp}{P:Program}{S:HS}{b i k nx:Nat}{v:XV}
noncomputable section
open Go.Proofs
theorem sC.wr (h:sC S) (n:Nat) (cr:List XV):sC (S.wr n cr):=⟨h.nums,h.vers,h.mods,h.com,h.comb,h.fin1,h.nmod⟩
theorem sC.numsOk (h:sC S):By S:=fun t k hk=>let ⟨j,a,h1,h2,_⟩:=h.nums t k hk;⟨j,a,h1,h2⟩
theorem sC.versOk (h:sC S):VersOk S:=fun x w n k hk=>h.vers x w n k hk
theorem bE.pair {sz len:Nat} {row:List XV} (h:bE M b v sz len row) (hi:i<len) {t:Nat} (ht:es P t=some sz) :
 ∃n o,n<b/\(∀k,br P t v (.int k (i:Int))=some (.mp n o))/\(∀(j:Nat) (x:XV),j<sz->((row.drop (i*sz)).take sz)[j]?=some x->∀(t' m:Nat),sa P t'=some (m,false)->∀N,aq b M N->b_ P N t' (.mp n (o+j))=some ⟨x,[n],[]⟩) /\
  ∀(j:Nat) (x y:XV),j+1<sz->((row.drop (i*sz)).take sz)[j]?=some x->((row.drop (i*sz)).take sz)[j+1]?=some y->∀(t':Nat),sa P t'=some (2,true)->∀N,aq b M N->b_ P N t' (.mp n (o+j))=some ⟨.agg [x,y],[n],[]⟩:=by
 obtain⟨n,o,h1,h2,cs,h3,h4,h5⟩:=h.at hi ht;refine⟨n,o,h1,h2,fun j x hj hx t' m oe N hN=>?_,fun j x y hj hx hy t' oe N hN=>?_⟩
 ·refine dB (lR h3 hN h1) oe ?_
  rw[h4,getElem?_take,if_pos hj,getElem?_drop]at hx;exact hx
 ·rw[fG (lR h3 hN h1) oe Z]
  rw[h4,getElem?_take,if_pos Z,getElem?_drop]at hx hy;have e:(cs.drop (o+j)).take 2=[x,y]:=by
   refine ext_getElem? fun q=>?_
   rw[getElem?_take];by_cases q2:q<2
   ·rw[if_pos q2,getElem?_drop]
    have:q=0\/q=1:=Z;rcases this with rfl | rfl
    ·simpa using hx
    ·rw[show o+j+1=o+(j+1) by omega,hy];rfl
   ·rw[if_neg q2]
    exact(getElem?_eq_none aj).symm
  rw[e]
theorem Ai {M':Hp} {o:Nat} {F:Int->Option (List bO)} (hO:ey M b o F) (hB:Ev M o) (ha:aq b M M'):Ev M' o:=by
 obtain⟨rm,c,l,b1,b2,b3,b4⟩:=hB;obtain⟨ho,rm',c',l',c1,c2,c3,_⟩:=hO;rw[b1]at c1;simp only[Option.some.injEq,bx.row.injEq,List.cons.injEq,XV.mm.injEq,and_true]at c1;subst c1;exact⟨rm,c,l,(ha o ho).trans b1,(ha rm c2).trans b2,b3,b4⟩
def WT (l:List bO):List XV:=[.int .u64 0,.int .u64 0]++l.flatMap BF
theorem KA (l:List bO) (hk:k<=l.length):((WT l).drop (k*2)).take 2=[.int .u64 (jM l k).1,.int .u64 (jM l k).2]:=by
 cases k with
 | zero=>rfl
 | succ k =>
   obtain⟨e,he⟩:∃e,l[k]?=some e:=⟨l[k],ae⟩;have key:∀(l:List bO) (k:Nat),l[k]?=some e->((l.flatMap BF).drop (k*2)).take 2=BF e:=by
    intro l
    induction l with
    | nil=>intro k h;simp at h
    | cons a l ih =>
      intro k h;cases k with
      | zero =>
        simp only[getElem?_cons_zero,Option.some.injEq]at h;subst h;rfl
      | succ k =>
        simp only[getElem?_cons_succ]at h;rw[flatMap_cons,show (k+1)*2=(BF a).length+k*2 by simp[BF];omega,drop_length_add_append];exact ih k h
   unfold WT;rw[show (k+1)*2=([XV.int .u64 0,XV.int .u64 0]:List XV).length+k*2 by simp;omega,drop_length_add_append,key l k he];simp[jM,he,BF]
theorem writC_get {l:List bO} {e:bO} (he:l[k]?=some e):(((l.flatMap BG).drop (k*1)).take 1)[0]?=some (.int .i64 e.wr):=by
 have key:∀(l:List bO) (k:Nat),l[k]?=some e->(l.flatMap BG)[k]?=some (.int .i64 e.wr):=by
  intro l
  induction l with
  | nil=>intro k h;simp at h
  | cons a l ih =>
    intro k h;cases k with
    | zero =>
      simp only[getElem?_cons_zero,Option.some.injEq]at h;subst h;rfl
    | succ k =>
      simp only[getElem?_cons_succ]at h;simp only[flatMap_cons,BG,cons_append,nil_append,getElem?_cons_succ];exact ih k h
 rw[Nat.mul_one,getElem?_take,if_pos Z,getElem?_drop,Nat.add_zero];exact key l k he
theorem RDg_call {ρ:aK} {n:Nat} {all os:List Oper} {env:eX} {log:jg} {G:XS->jg->Prop} {d:Option Nat} {c:Call} {ty:TypeId} {pos:String} {after:Array Edge} {g:Nat×Bool} (hg:a_ all env (some g)=some true) (hp:eV (.call c)=false) (h:CD P ρ n all os i env M nx log d G (ca env c)) :
 RD P ρ n all (⟨d,.call c,ty,pos,after,some g⟩::os) i ⟨env,M,nx⟩ log G:=by
 have h0:=(Dd (ty:=ty) (pos:=pos) (after:=after) hp).mpr h;unfold RD at h0 ⊢;simp only[a_]at h0;simp only[hg];exact h0
def Oy (l:List bO):Nat->Int
 | 0=>-1
 | k+1=>match l[k]? with | some e=>e.en | none=>0
theorem f5 (hS:kL) (hN:kJ) (hI:Ci) (ρ:aK) (j9:ρ.det=false) {L:List aR} (hL:cP M b v L) (hb:b<=nx) (iu:∀r ∈ L,gI r.p)
 (hw:∀M' n',aq nx M M'->nx<=n'->ar am ρ 8 [] M' n' fun r=>r.1 = .bool true/\aq n' M' r.2.1) :
 ar am ρ 5 [v] M nx fun r=>r.1 = .bool true/\aq nx M r.2.1:=by
 refine ar.wk 304 [.tmp 2] Tryz.func5 ?_;refine dt iG ?_;refine lG (f7 ρ (hL.agr (aq.refl _ _)) Z af) fun M1 n1 g2 g3=>?_
 have a1:aq nx M M1:=g2.le Z;cases ip:AM L 60 with
 | false =>
   refine fM iG ip ?_;refine gQ (hw _ _ a1 Z) ?_;rintro⟨u,M2,n2⟩ ⟨k1,k2⟩;simp only at k1 k2;subst k1;refine dt iG ?_;exact a1.trans (k2.le Z)
 | true =>
   unfold AM at ip;rw[Bool.and_eq_true,decide_eq_true_eq]at ip;obtain⟨FY,sS⟩:=ip;have Ul:AM L 60=true:=by unfold AM;rw[FY];simpa using sS
   have xk:∀r ∈ L,r.es.length<=60/\dV r.p<=60:=fun r hr=>by
    rw[take_of_length_le Z,List.all_eq_true]at FY;have:=FY r hr;unfold vE at this;rw[Bool.and_eq_true,decide_eq_true_eq,decide_eq_true_eq]at this;exact⟨this.1,Em this.2⟩
   have uS:∀r ∈ L,Ti r:=fun r hr=>⟨⟨by have:=(xk r hr).2;omega,iu r hr⟩,by have:=(xk r hr).1;omega⟩
   have dZ:∀r ∈ L,r.es.length<=1000:=fun r hr=>by have:=(xk r hr).1;omega
   refine fM iG Ul ?_;refine gQ (jU hS hN ρ j9 (hL.agr (a1.le hb)) Z Z uS fun Gs=>B4 sS dZ Gs) ?_;rintro⟨u,M2,n2⟩ ⟨cn,rl,Y_,k2,k3⟩;simp only at k2 k3;rcases k3 with ⟨je,hu,k4⟩ | ⟨je,h,N,cr,hu,hF,k4,_⟩
   ·subst hu
    refine fM iG je ?_;refine gQ (hw _ _ (a1.trans (k4.le Z)) Z) ?_;rintro⟨u,M3,n3⟩ ⟨q1,q2⟩;simp only at q1 q2;subst q1;refine dt iG ?_;exact(a1.trans (k4.le Z)).trans (q2.le Z)
   ·subst hu
    subst je;have Gs:∀j r,L[j]?=some r->eA (L.take j) r=0:=by
     obtain⟨q1,q2 | ⟨r,_,q3,q4⟩⟩:=Y_
     ·intro j r hj
      have:=(List.getElem?_eq_some_iff.1 hj).1;exact q1 j r Z hj
     ·exact(q4 rfl).elim
    have vW:=(zT sS dZ Gs).wr L.length cr;obtain⟨S,NO⟩:∃S,S=(jN L).wr L.length cr:=⟨_,rfl⟩;rw[<-NO]at hF vW;obtain⟨hi,vg,hH⟩:=hF.hist;have a2:aq nx M M2:=a1.trans (k4.le Z);have F6:=vW.nmod;clear hF Y_ Gs xk uS dZ k4 g2 hL iu Ul FY sS NO;refine dt iG ?_;refine gQ (k9 hI ρ j9 (hH.agr (aq.refl _ _)) Z vW.numsOk Z) ?_;rintro⟨u,M3,n3⟩ ⟨o,F,q1,hO,hB,YE,YF,q2,q3⟩;simp only at q1 hO hB q2 q3;subst q1;have a3:aq n2 M2 M3:=q2.le Z;refine dt iG ?_;refine gQ (SS ρ (hH.agr (a3.le Z)) Z Z) ?_;rintro⟨mv,M4,n4⟩ ⟨r1,r2,r3⟩;simp only at r1 r2 r3;have F3:bE M4 n4 mv 8 S.mods.length (S.mods.flatMap cO):=dN.lt (r1.keep fun k hk=>⟨rfl,hk.2⟩);have a4:aq n2 M2 M4:=a3.trans (r2.le Z);have AQ:ey M4 n3 o F:=hO.agr (r2.le Z);have hB4:Ev M4 o:=Ai hO hB (r2.le Z);have hH4:=hH.agr (a4.le vg);have F2:∀N,kZ am N 64 mv=some ⟨.int .i64 (S.mods.length:Nat),[],[]⟩:=fun N=>F3.len (P:=am) (t:=64) qP.2.2.2.2.2 N
    have hA:aq nx M M4:=a2.trans (a4.le Z);clear hB hO hH r1 q2 a3 a4 a2 r2 a1;refine dt iG ?_;refine aC (fun m' s=>∃i:Nat,i<=S.mods.length/\m'=S.mods.length - i/\gG s.env 3=some (.mp h 0)/\gG s.env 6=some (.mp o 0)/\gG s.env 7=some mv/\gG s.env 8=some (.int .i64 i)/\aq n4 M4 s.M/\n4<=s.nx)
     S.mods.length ⟨0,Z,Z,?_⟩ ?_
    ·refine dt iG ?_
     exact⟨aq.refl _ _,Z⟩
    ·rintro m' ⟨env,M5,n5⟩ ⟨i,hi',ir,e3,e6,e7,e8,ha,hn⟩
     simp only at e3 e6 e7 e8 ha hn;by_cases aL:(i:Int)<S.mods.length
     ·have aP:i<S.mods.length:=Z
      obtain⟨m,hmi⟩:∃m,S.mods[i]?=some m:=⟨S.mods[i],by simp[aP]⟩;obtain⟨q,w,Oc,bC,aU,hpr⟩:=F3.pair (P:=am) aP (t:=64) qP.2.2.2.1;have bA:=As _ _ _ hmi;rw[bA]at aU hpr;have bV:=eF i;have l1:=aU 1 (.int .u64 m.t) Z rfl 23 1 bi.1 M5 ha;refine wT iG e3 e6 e7 e8 aL F2 bC l1 ?_;refine lG (Tv ρ (hH4.agr (ha.le Z)) Z vW.numsOk m.t) fun M6 n6 MM k3=>?_
      obtain⟨kt,tx,t1,t2,t3⟩:=vW.txR hmi;rw[t3];simp only[d_];have ha6:aq n4 M4 M6:=ha.trans (MM.le Z);have aset:∀o1 o2,aq n4 M4 (ci (ci M6 (n6+3) o1) (n6+3) o2):=fun o1 o2=>(by(repeat (refine aq.set ?_ Z _));exact ha6)
      have l2:=fun o1 o2=>aU 2 (.int .u64 m.x) Z rfl 23 1 bi.1 _ (aset o1 o2)
      have l3:=fun o1 o2=>hpr 3 (.int .u64 m.w) (.int .u64 m.n) Z rfl rfl 25 dc.1 _ (aset o1 o2)
      refine oq iG e3 e6 e7 e8 bC l2 l3 ?_;generalize hM7:ci (ci M6 (n6+3) _) (n6+3) _=M7;have ha7:aq n4 M4 M7:=by rw[<-hM7];exact(by(repeat (refine aq.set ?_ Z _));exact ha6)
      have z7:gG M7 (n6+3)=some (.row [.int .u64 tx.t,.int .i64 tx.b,.int .i64 tx.e,.int .i64 tx.s,.int .i64 tx.n]):=by rw[<-hM7];exact J
      clear hM7 l2 l3 aset;refine lL (yU ρ (AQ.agr (ha7.le Z)) Z m.x m.w m.n) af ?_ ?_
      ·refine dt iG ?_;try exact⟨⟩
      rintro⟨u,M8,n8⟩ ⟨j1,j2,j3⟩;simp only at j1 j2 j3;subst j1;have ha8:aq n4 M4 M8:=ha7.trans (j2.le Z);have z8:=(j2 (n6+3) Z).trans z7;have l4:=aU 7 (.bool m.fin) Z rfl 4 1 kH.1 M8 ha8;have uT:=inst_law vW YE YF hmi;rw[t3]at uT;rw[uT];have bq:((true != true)=false)/\((false != false)=false)/\((true != false)=true)/\((false != true)=true):=af;by_cases hc:mL S m=true
      ·have jY:=hc
       unfold mL at jY;rw[t3,Bool.and_eq_true,decide_eq_true_eq]at jY;obtain⟨c1,c2⟩:=jY;simp only at c2;rw[c1]at l4;rw[c2]at z8;rw[if_pos hc];refine zQ iG e3 e6 e7 e8 bC l4 z8 bV @Th bq ?_;exact⟨S.mods.length - (i+1),Z,i+1,Z,rfl,rfl,ha8,Z⟩
      ·rw[if_neg hc]
       cases QK:m.fin with
       | false =>
         rw[QK]at l4;refine zQ iG e3 e6 e7 e8 bC l4 z8 bV @Th bq ?_;exact⟨S.mods.length - (i+1),Z,i+1,Z,rfl,rfl,ha8,Z⟩
       | true =>
         rw[QK]at l4;have c2:¬ tx.s=1:=fun q=>hc (by unfold mL;rw[QK,t3];simpa using q)
         refine yq iG e3 e6 e7 e8 bC l4 z8 bV c2 @Th bq ?_;exact⟨S.mods.length - (i+1),Z,i+1,Z,rfl,rfl,ha8,Z⟩
     ·refine ky iG e3 e6 e7 e8 aL F2 ?_
      refine gQ (ni hS hN ρ j9 (AQ.agr (ha.le Z)) (show n3<=n5+5 by omega) (Ai AQ hB4 (ha.le Z))) ?_;rintro⟨xv,M6,n6⟩ ⟨⟨ys,y1,y2,y3,y4,y5⟩,MM,k3'⟩;simp only at y5 MM k3';have ha6:aq n4 M4 M6:=ha.trans (MM.le Z);have hysl:bE M6 n6 xv 1 ys.length (ys.map (XV.int .u64)):=y5.sl;have VX:∀N,kZ am N 44 xv=some ⟨.int .i64 (ys.length:Nat),[],[]⟩:=fun N=>hysl.len (P:=am) (t:=44) fu.2.2.2.2.2 N
      have hO6:ey M6 n3 o F:=AQ.agr (ha6.le Z);have hH6:=hH4.agr (ha6.le Z);have hA6:aq nx M M6:=hA.trans (ha6.le Z);have ZU:n4<=n6:=Z;clear F3 AQ hB4 hH4 F2 ha hn MM k3' y5 e7 e8 hA ha6;refine dt iG ?_;refine aC (fun m2 s=>∃i:Nat,i<=ys.length/\m2=ys.length - i/\gG s.env 3=some (.mp h 0)/\gG s.env 6=some (.mp o 0)/\gG s.env 13=some xv/\gG s.env 14=some (.int .i64 i)/\aq n6 M6 s.M/\n6<=s.nx)
       ys.length ⟨0,Z,Z,?_⟩ ?_
      ·refine dt iG ?_
       exact⟨e3,e6,aq.refl _ _,Z⟩
      ·clear e3 e6 aL
       rintro m2 ⟨env,M7,n7⟩ ⟨i,hi',JE,e3,e6,qI,pu,ha,hn⟩;simp only at e3 e6 qI pu ha hn;by_cases aL:(i:Int)<ys.length
       ·have aP:i<ys.length:=Z
        obtain⟨x,hx⟩:∃x,ys[i]?=some x:=⟨ys[i],by simp[aP]⟩;obtain⟨l,hl⟩:=isSome_iff_exists.1 ((y1 x).1 (mem_of_getElem? hx));obtain⟨hp,Ob⟩:=YF x l hl;have aQ:=P6 vW hp Ob;have hlne:l≠[]:=fun q=>by
         rw[q]at hp;have:=(YE x).2 (nil_perm.1 hp);rw[this]at hl;cases hl
        have qz:0<l.length/\l.length<=60:=⟨length_pos_iff.2 hlne,by
         rw[hp.length_eq];unfold dk;rw[length_map];exact Nat.le_trans (length_filter_le _ _) F6⟩
        have hFl:(F x).getD []=l:=by rw[hl];rfl
        obtain⟨q,w,Oc,bC,aU⟩:=hysl.fldG (P:=am) aP (t:=44) fu.2.2.2.1;have l0:=aU 0 (.int .u64 x) Z (by rw[Nat.mul_one,getElem?_take,if_pos Z,getElem?_drop,Nat.add_zero,getElem?_map,hx];rfl) 23 1 bi.1 M7 ha;rw[Nat.add_zero]at l0;have bV:=eF i;refine wT iG e3 e6 qI pu aL VX bC l0 ?_;have hv1:=KB ρ (hO6.agr (ha.le Z)) (show n3<=n7+11 by omega) x (by rw[hFl];omega);rw[hFl]at hv1;refine gQ hv1 ?_;rintro⟨vv,M8,n8⟩ ⟨⟨K,k1,MM,k3,k4⟩,k5,k6⟩;simp only at k1 k3 k4 k5 k6;subst k1;have ha8:aq n6 M6 M8:=ha.trans (k5.le Z);refine lO iG e3 e6 qI pu ?_;have qC:=SE ρ (hO6.agr (ha8.le Z)) (show n3<=n8+2 by omega) x (by rw[hFl];omega);rw[hFl]at qC;refine gQ qC ?_;rintro⟨wv,M9,n9⟩ ⟨j1,j2,j3⟩;simp only at j1 j2 j3;have ha9:aq n6 M6 M9:=ha8.trans (j2.le Z);have CR:bE M9 n9 (.sl K 2 0 (l.length+1) (l.length+1)) 2 (l.length+1) (WT l):=by
         have hc:(WT l).length=(l.length+1)*2:=by
          unfold WT;rw[length_append,fg (sz:=2) (fun a=>rfl)];simp only[length_cons,length_nil];omega
         exact⟨Z,.inr ⟨K,0,l.length+1,WT l,rfl,Z,by unfold vR;rw[j2 K Z,k4];rfl,Z,by rw[drop_zero,take_of_length_le Z]⟩⟩
        have hws:bE M9 n9 wv 1 l.length (l.flatMap BG):=j1.sl;have hwl:∀N,kZ am N 58 wv=some ⟨.int .i64 (l.length:Nat),[],[]⟩:=fun N=>hws.len (P:=am) (t:=58) zp.2.2.2.2.2 N
        clear k4 j1 k5 j2 hv1 qC bC l0 aU ha8;have hwp:IntKind.i64.wrap ((l.length:Int)+1)=((l.length+1:Nat):Int):=by rw[wrap_i64 Z Z];omega
        have h25:=Rp ρ (hO6.agr (ha9.le Z)) (show n3<=n9+13 by omega) x;rw[hFl]at h25;refine ky iG e3 e6 qI pu hwl hwp ?_;refine gQ h25 ?_;rintro⟨u,M10,n10⟩ ⟨k1,MM,k3'⟩;simp only at k1 MM k3';subst k1;obtain⟨q0,w0,hqb0,Zw,hld0,hpr0⟩:=CR.pair (P:=am) (i:=0) Z (t:=55) Kx.2.2.2.1;rw[KA l Z]at hpr0;have l0:=hpr0 0 (.int .u64 0) (.int .u64 0) Z rfl rfl 25 dc.1 M10 (MM.le Z);rw[Nat.add_zero]at l0;have hix0':∀κ,br am 55 (.sl K 2 0 (l.length+1) (l.length+1)) (.int κ 0)=some (.mp q0 w0):=Zw;have hlz:¬ l.length=0:=Z;have hlz':¬ (l.length:Int)=0:=Z;refine zQ iG e3 e6 qI pu hwl hwp hix0' l0 hlz hlz' ?_;refine lG (Ry ρ _ _ 0 0) fun M11 n11 k2 k3=>?_
        have ha11:aq n9 M9 M11:=(MM.le Z).trans (k2.le Z);have hvl:∀N,kZ am N 55 (.sl K 2 0 (l.length+1) (l.length+1))=some ⟨.int .i64 (l.length+1:Nat),[],[]⟩:=fun N=>CR.len (P:=am) (t:=55) Kx.2.2.2.2.2 N
        have hn9:n6<=n9/\n9<=n11:=Z;have aat:=ha9;clear k2 MM k3 k3' l0 Zw hix0' hld0 hpr0 hwp ha ha9 j3 k6 h25;refine lO iG e3 e6 qI pu ?_;refine aC (fun m3 s=>∃j:Nat,j<=l.length/\m3=l.length - j/\gG s.env 3=some (.mp h 0)/\gG s.env 6=some (.mp o 0)/\gG s.env 13=some xv/\gG s.env 14=some (.int .i64 i)/\gG s.env 15=some (.int .u64 x)/\gG s.env 16=some (.sl K 2 0 (l.length+1) (l.length+1))/\gG s.env 17=some wv/\gG s.env 18=some (.int .i64 (Oy l j))/\gG s.env 19=some (.int .i64 (j+1:Nat))/\aq n9 M9 s.M/\n9<=s.nx)
         l.length ⟨0,Z,Z,?_⟩ ?_
        ·refine dt iG ?_
         exact⟨e3,e6,qI,pu,rfl,ha11,Z⟩
        ·clear e3 e6 qI pu aL ha11
         rintro m3 ⟨env,M12,n12⟩ ⟨j,hj,hm3,e3,e6,qI,pu,gW,pE,CB,vT,vU,ha,hn⟩;simp only at e3 e6 qI pu gW pE CB vT vU ha hn;have ha6:aq n6 M6 M12:=aat.trans (ha.le Z);by_cases aL:((j+1:Nat):Int)<((l.length+1:Nat):Int)
         ·have aP:j<l.length:=Z
          obtain⟨e,hej⟩:∃e,l[j]?=some e:=⟨l[j],by simp[aP]⟩;obtain⟨a,mm,t1,t2,t3,t4,t5⟩:=row_hist vW hp (mem_of_getElem? hej);have hbe:=aQ.born e (mem_of_getElem? hej);obtain⟨q1,w1,hqb1,hix1,QR,aau⟩:=CR.pair (P:=am) (i:=j+1) Z (t:=55) Kx.2.2.2.1;obtain⟨q0,w0,hqb0,Zw,hld0,hpr0⟩:=CR.pair (P:=am) (i:=j) Z (t:=55) Kx.2.2.2.1;obtain⟨qw,ww,hqbw,hixw,hldw⟩:=hws.fldG (P:=am) aP (t:=58) zp.2.2.2.1;rw[KA l Z]at QR aau hld0 hpr0;have hve:jM l (j+1)=(e.w,e.n):=by simp[jM,hej]
          rw[hve]at QR aau;have hwm:IntKind.i64.wrap (((j+1:Nat):Int) - 1)=(j:Int):=by rw[wrap_i64 Z Z];omega
          have F_:IntKind.i64.wrap (((j+1:Nat):Int)+1)=((j+1+1:Nat):Int):=by rw[wrap_i64 Z Z];omega
          have v1:=QR 0 (.int .u64 e.w) Z rfl 23 1 bi.1 M12 ha;rw[Nat.add_zero]at v1;refine yq iG e3 e6 qI pu gW pE CB vT vU aL (aI hvl (aI hix1 v1)) ?_;have c1:=Tv ρ (hH6.agr (ha6.le Z)) (show hi<=n12+10 by omega) vW.numsOk e.w;rw[t1]at c1;refine gQ c1 ?_;rintro⟨u,M13,n13⟩ ⟨k1,k2,k3⟩;simp only[d_]at k1 k2 k3;subst k1;have ha13:aq n9 M9 M13:=ha.trans (k2.le Z);have v2:=fun o1 o2=>aau 0 (.int .u64 e.w) (.int .u64 e.n) Z rfl rfl 25 dc.1 (ci (ci M13 (n13+3) o1) (n13+3) o2) (by(repeat (refine aq.set ?_ Z _));exact ha13)
          simp only[Nat.add_zero]at v2;clear k2 v1;refine yq iG e3 e6 qI pu gW pE CB vT vU hix1 v2 ?_;generalize hM14:ci (ci M13 (n13+3) _) (n13+3) _=M14;have ha14:aq n9 M9 M14:=by rw[<-hM14];exact(by(repeat (refine aq.set ?_ Z _));exact ha13)
          have z14:gG M14 (n13+3)=some (.row [.int .u64 a.t,.int .i64 a.b,.int .i64 a.e,.int .i64 a.s,.int .i64 a.n]):=by rw[<-hM14];exact J
          clear hM14 v2;have c2:=Yt ρ (hH6.agr ((aat.trans (ha14.le Z)).le Z)) (show hi<=n13+12 by omega) vW.versOk Z x e.w e.n;rw[t4]at c2;refine gQ c2 ?_;rintro⟨u,M15,n15⟩ ⟨k1,k2,k3'⟩;simp only[cO]at k1 k2 k3';subst k1;have ha15:aq n9 M9 M15:=ha14.trans (k2.le Z);have z15:=(k2 (n13+3) Z).trans z14;have v3:=fun o1 o2=>hpr0 0 (.int .u64 (jM l j).1) (.int .u64 (jM l j).2) Z rfl rfl 25 dc.1 (ci (ci M15 (n15+3) o1) (n15+3) o2) (by(repeat (refine aq.set ?_ Z _));exact ha15)
          simp only[Nat.add_zero]at v3;clear k2 z14;refine yq iG e3 e6 qI pu gW pE CB vT vU Zw (aI v3 hwm) ?_;generalize hM16:ci (ci M15 (n15+3) _) (n15+3) _=M16;have ha16:aq n9 M9 M16:=by rw[<-hM16];exact(by(repeat (refine aq.set ?_ Z _));exact ha15)
          have z16:gG M16 (n13+3)=some (.row [.int .u64 a.t,.int .i64 a.b,.int .i64 a.e,.int .i64 a.s,.int .i64 a.n]):=by rw[<-hM16];exact J
          have y16:gG M16 (n15+3)=some (.row [.int .i64 mm.pos,.int .u64 mm.t,.int .u64 mm.x,.int .u64 mm.w,.int .u64 mm.n,.int .u64 mm.v,.bool mm.dead,.bool mm.fin]):=by rw[<-hM16];exact J
          clear hM16 v3 z15;have c3:=qH ρ (hO6.agr ((aat.trans (ha16.le Z)).le Z)) (show n3<=n15+13 by omega) x (jM l j).1 (jM l j).2;rw[hFl,aQ.next hej]at c3;refine gQ c3 ?_;rintro⟨u,M17,n17⟩ ⟨k1,k2,k4⟩;simp only at k1 k2 k4;subst k1;have ha17:aq n9 M9 M17:=ha16.trans (k2.le Z);have z17:=(k2 (n13+3) Z).trans z16;have y17:=(k2 (n15+3) Z).trans y16;have v4:=fun o1 o2=>aau 0 (.int .u64 e.w) (.int .u64 e.n) Z rfl rfl 25 dc.1 (ci (ci M17 (n17+4) o1) (n17+4) o2) (by(repeat (refine aq.set ?_ Z _));exact ha17)
          simp only[Nat.add_zero]at v4;clear k2 z16 y16;refine yq iG e3 e6 qI pu gW pE CB vT vU hix1 v4 ?_;generalize hM18:ci (ci M17 (n17+4) _) (n17+4) _=M18;have ha18:aq n9 M9 M18:=by rw[<-hM18];exact(by(repeat (refine aq.set ?_ Z _));exact ha17)
          have z18:gG M18 (n13+3)=some (.row [.int .u64 a.t,.int .i64 a.b,.int .i64 a.e,.int .i64 a.s,.int .i64 a.n]):=by rw[<-hM18];exact J
          have y18:gG M18 (n15+3)=some (.row [.int .i64 mm.pos,.int .u64 mm.t,.int .u64 mm.x,.int .u64 mm.w,.int .u64 mm.n,.int .u64 mm.v,.bool mm.dead,.bool mm.fin]):=by rw[<-hM18];exact J
          have Ga:gG M18 (n17+4)=some (.row [.int .u64 e.w,.int .u64 e.n]):=by rw[<-hM18];exact J
          clear hM18 v4 z17 y17;have c4:=sY ρ (hO6.agr ((aat.trans (ha18.le Z)).le Z)) (show n3<=n17+14 by omega) x e.w e.n;rw[hFl,aQ.ahead hej]at c4;refine gQ c4.out ?_;rintro⟨u,M19,n19⟩ ⟨⟨k1,k2,k5⟩,cF,_⟩;simp only at k1 k2 k5 cF;subst k1;have ha19:aq n9 M9 M19:=ha18.trans (k2.le Z);have z19:=(k2 (n13+3) Z).trans z18;have y19:=(k2 (n15+3) Z).trans y18;have JN:=(k2 (n17+4) Z).trans Ga;rw[t2,t3]at z19;rw[t5]at y19;have hE:Oy l j<e.en:=by
           cases j with
           | zero=>simp only[Oy];omega
           | succ j =>
             obtain⟨e',D1⟩:∃e',l[j]?=some e':=⟨l[j],ae⟩;simp only[Oy,D1];exact(aQ.lt D1 hej Z).2.1
          have hnle:¬ e.en<=Oy l j:=Z;have aG:∀o1 o2,aq n9 M9 (ci (ci M19 (n19+3) o1) (n19+3) o2):=fun o1 o2=>(by(repeat (refine aq.set ?_ Z _));exact ha19)
          have v5:=fun o1 o2=>aau 0 (.int .u64 e.w) (.int .u64 e.n) Z rfl rfl 25 dc.1 _ (aG o1 o2)
          have v6:=fun o1 o2=>hpr0 0 (.int .u64 (jM l j).1) (.int .u64 (jM l j).2) Z rfl rfl 25 dc.1 _ (aG o1 o2)
          have v7:=fun o1 o2=>hldw 0 (.int .i64 e.wr) Z (writC_get hej) 3 1 dA.1 _ (aG o1 o2)
          simp only[Nat.add_zero]at v5 v6 v7;clear k2 z18 y18 Ga;refine yq iG e3 e6 qI pu gW pE CB vT vU hix1 (aI Zw (aI hixw (aI v5 (aI v6 (aI v7 (aI hwm (aI z19 (aI y19 (aI JN (aI hnle @Th)))))))))) ?_;have ho3:o<n3:=hO6.1;have kA:∀n,n3<=n->aO n (.mp o 0)=true:=fun n h=>by simp only[aO,blt_eq];omega
          have c5:∀N,aq n9 M9 N->∀n',n9<=n'->ar am ρ 27 [.mp o 0,.int .u64 x,.int .i64 e.en] N n' (fe n' N (.agg [.int .u64 (jM l j).1,.int .u64 (jM l j).2])):=fun N hN n' yZ=>by
           have:=Sk ρ (hO6.agr ((aat.trans (hN.le Z)).le Z)) (show n3<=n' by omega) x e.en;rw[hFl,aQ.bef hej]at this;exact this
          have c6:∀N,aq n9 M9 N->∀n',n9<=n'->ar am ρ 27 [.mp o 0,.int .u64 x,.int .i64 (e.en+1)] N n' (fe n' N (.agg [.int .u64 e.w,.int .u64 e.n])):=fun N hN n' yZ=>by
           have:=Sk ρ (hO6.agr ((aat.trans (hN.le Z)).le Z)) (show n3<=n' by omega) x (e.en+1);rw[hFl,aQ.bef1 hej,hve]at this;exact this
          have hwe:IntKind.i64.wrap (e.en+1)=e.en+1:=wrap_i64 Z Z;generalize hM20:ci (ci M19 (n19+3) _) (n19+3) _=M20;have ha20:aq n9 M9 M20:=by rw[<-hM20];exact(by(repeat (refine aq.set ?_ Z _));exact ha19)
          have hcl20:Cl (n19+4) M20:=by rw[<-hM20];exact((cF.le Z).set Z rfl).set Z rfl
          have z20:gG M20 (n13+3)=some (.row [.int .u64 a.t,.int .i64 a.b,.int .i64 e.en,.int .i64 a.s,.int .i64 e.wr]):=by rw[<-hM20];exact J
          have u5:=aau 0 (.int .u64 e.w) (.int .u64 e.n) Z rfl rfl 25 dc.1 _ ha20;have u6:=hpr0 0 (.int .u64 (jM l j).1) (.int .u64 (jM l j).2) Z rfl rfl 25 dc.1 _ ha20;simp only[Nat.add_zero]at u5 u6;clear hM20 v5 v6 v7 aG z19 y19 JN cF;refine aT (bN.read (hcl20.le Z) ?_ rfl fun N hN=>c5 N (ha20.trans (hN.le Z)) _ Z) af ?_
          ·simp only[aE];rw[kA _ Z];rfl
          refine yq iG e3 e6 qI pu gW pE CB vT vU hix1 (aI Zw (aI u5 (aI u6 (aI hwm (aI z20 (aI hwe (aI @aA @Th))))))) ?_;refine RDg_call ?_ rfl ?_
          ·refine dt iG ?_;try exact⟨⟩
          refine dt iG ?_;refine aT (bN.read (hcl20.le Z) ?_ rfl fun N hN=>c6 N (ha20.trans (hN.le Z)) _ Z) af ?_
          ·simp only[aE];rw[kA _ Z];rfl
          refine yq iG e3 e6 qI pu gW pE CB vT vU hix1 (aI Zw (aI u5 (aI u6 (aI hwm (aI z20 (aI F_ (aI @aA @Th))))))) ?_;have QF:Oy l (j+1)=e.en:=by simp[Oy,hej]
          refine⟨l.length - (j+1),Z,j+1,Z,rfl,by rw[QF],rfl,ha20,Z⟩
         ·have yY:j=l.length:=Z
          obtain⟨e,fF⟩:∃e,l.getLast?=some e:=by
           cases hq:l.getLast? with
           | none=>exact(hlne (getLast?_eq_none_iff.1 hq)).elim
           | some e=>exact⟨e,rfl⟩
          have hve:jM l l.length=(e.w,e.n):=by
           rw[getLast?_eq_getElem?]at fF;obtain⟨z,hz⟩:∃z,l.length=z+1:=⟨l.length - 1,Z⟩;rw[hz]at fF ⊢;simp only[Nat.add_sub_cancel]at fF;simp[jM,fF]
          obtain⟨q1,w1,hqb1,hix1,QR,aau⟩:=CR.pair (P:=am) (i:=l.length) Z (t:=55) Kx.2.2.2.1;rw[KA l Z,hve]at aau;have ho3:o<n3:=hO6.1;have kA:∀n,n3<=n->aO n (.mp o 0)=true:=fun n h=>by simp only[aO,blt_eq];omega
          have c7:∀N,aq n9 M9 N->∀n',n9<=n'->ar am ρ 26 [.mp o 0,.int .u64 x] N n' (fe n' N (.agg [.int .u64 e.w,.int .u64 e.n])):=fun N hN n' yZ=>Ys ρ (hO6.agr ((aat.trans (hN.le Z)).le Z)) (show n3<=n' by omega) x hl Z fF
          have hwm:IntKind.i64.wrap (((l.length+1:Nat):Int) - 1)=(l.length:Int):=by rw[wrap_i64 Z Z];omega
          refine yq iG e3 e6 qI pu gW pE CB vT vU aL hvl ?_;refine gQ (c7 M12 ha _ Z) ?_;rintro⟨u,M13,n13⟩ ⟨k1,k2,k3⟩;simp only at k1 k2 k3;subst k1;have ha13:aq n9 M9 M13:=ha.trans (k2.le Z);have c8:∀n',n9<=n'->ar am ρ 17 [.mp o 0,.int .u64 x,.agg [.int .u64 e.w,.int .u64 e.n]] M13 n' (fe n' M13 (.tup [.agg [.int .u64 0,.int .u64 0],.int .i64 0,.bool false])):=fun n' yZ=>by
           have:=qH ρ (hO6.agr ((aat.trans (ha13.le Z)).le Z)) (show n3<=n' by omega) x (jM l l.length).1 (jM l l.length).2;rw[hFl,aQ.nextLast,hve]at this;exact this
          clear k2;refine rf iG e3 e6 qI pu gW pE CB vT vU ?_;refine gQ (c8 _ Z).out ?_;rintro⟨u,M14,n14⟩ ⟨⟨k1,k2,k5⟩,cF,_⟩;simp only at k1 k2 k5 cF;subst k1;have ha14:aq n9 M9 M14:=ha13.trans (k2.le Z);clear k2;refine rf iG e3 e6 qI pu gW pE CB vT vU ?_;generalize hM15:ci (ci M14 (n14+4) _) (n14+4) _=M15;have ha15:aq n9 M9 M15:=by rw[<-hM15];exact(by(repeat (refine aq.set ?_ Z _));exact ha14)
          have hcl15:Cl (n14+5) M15:=by rw[<-hM15];exact((cF.le Z).set Z rfl).set Z rfl
          have u5:=aau 0 (.int .u64 e.w) (.int .u64 e.n) Z rfl rfl 25 dc.1 _ ha15;simp only[Nat.add_zero]at u5;clear hM15 cF;refine RDg_call ?_ rfl ?_
          ·refine dt iG ?_;try exact⟨⟩
          refine dt iG ?_;refine aT (bN.read (hcl15.le Z) ?_ rfl fun N hN=>c7 N (ha15.trans (hN.le Z)) _ Z) af ?_
          ·simp only[aE];rw[kA _ Z];rfl
          refine yq iG e3 e6 qI pu gW pE CB vT vU hvl (aI hix1 (aI u5 (aI hwm (aI bV (aI @aA @Th))))) ?_;exact⟨ys.length - (i+1),Z,i+1,Z,rfl,rfl,aat.trans (ha15.le Z),Z⟩
       ·refine ky iG e3 e6 qI pu aL VX ?_
        refine gQ (hw _ _ (hA6.trans (ha.le Z)) Z) ?_;rintro⟨u,M8,n8⟩ ⟨k1,k2⟩;simp only at k1 k2;subst k1;refine dt iG ?_;exact(hA6.trans (ha.le Z)).trans (k2.le Z)
end
end Go.Xs
namespace Go.Xs
open List Nat Option
noncomputable section
open Go.Proofs
def yT (x w n:Int) (e:En):Bool:=decide (e.x=x)&&(decide (e.w=w)&&decide (e.n=n))
theorem f219 (ρ:aK) {r:aR} {M:Hp} {nx b:Nat} {cs:List XV} (hr:b8 M b r cs) (hb:b<=nx) (he:r.es.length<=100000) (x w n:Int):ar am ρ 219 [.agg cs,.int .u64 x,.agg [.int .u64 w,.int .u64 n]] M nx (fe nx M (.bool (r.es.any (yT x w n)))):=by
 obtain⟨pk,pa,pb,pv,ve,rfl,⟨p1,p2⟩,⟨q1,q2⟩,dZ,_⟩:=hr.cells;unfold jm at dZ;have ay:=fun N=>dZ.len (P:=am) (t:=114) oH.2.2.2.2.2 N
 clear hr;refine ar.wk 33 [.tmp 6] Tryz.func219 ?_;refine mY vM p1 p2 q1 q2 ?_;generalize xu:ci (ci M nx _) _ _=M1;have a1:aq nx M M1:=by rw[<-xu];exact O
 have z3:gG M1 nx=some (.row [.int .i64 r.kind,.int .u64 r.t,.int .u64 r.x,.int .u64 r.w,.int .u64 r.n,.int .u64 r.v,.int .i64 pk,.int .u64 pa,.int .u64 pb,pv,ve]):=by rw[<-xu];exact J
 have z5:gG M1 (nx+1)=some (.row [.int .u64 w,.int .u64 n]):=by rw[<-xu];exact J
 clear xu;refine aC (fun m' s=>∃(i:Nat),i<=r.es.length/\m'=r.es.length - i/\gG s.env 1=some (.int .u64 x)/\gG s.env 3=some (.mp nx 0)/\gG s.env 5=some (.mp (nx+1) 0)/\gG s.env 7=some (.int .i64 i)/\aq (nx+2) M1 s.M/\nx+2<=s.nx/\∀j e,j<i->r.es[j]?=some e->yT x w n e=false) r.es.length ⟨0,Z,Z,?_⟩ ?_
 ·refine bR vM ?_
  exact⟨aq.refl _ _,Z,fun j e h=>Z⟩
 ·rintro m' ⟨env,M',nx'⟩ ⟨i,hi,ir,e1,e3,e5,e7,ha,hn,sy⟩
  simp only at e1 e3 e5 e7 ha hn;have y3:=(ha nx Z).trans z3;have y5:=(ha (nx+1) Z).trans z5;have aM:aq nx M M':=a1.trans (ha.le Z);by_cases aL:(i:Int)<r.es.length
  ·have aP:i<r.es.length:=Z
   obtain⟨e,hE⟩:∃e,r.es[i]?=some e:=⟨r.es[i],by simp[aP]⟩;have bV:=eF i;obtain⟨q,o,Oc,bC,aU,hpr⟩:=dZ.pair (P:=am) aP (t:=114) oH.2.2.2.1;have bA:=iz r.es i e hE;rw[bA]at aU hpr;have l0:=aU 0 (.int .u64 e.x) Z rfl 23 1 bi.1 M' (aM.le hb);have l1:=hpr 1 (.int .u64 e.w) (.int .u64 e.n) Z rfl rfl 110 gq.1 M' (aM.le hb);rw[Nat.add_zero]at l0;clear aU hpr bA;have Kh:yT x w n e=true->r.es.any (yT x w n)=true:=fun h=>List.any_eq_true.2 ⟨e,mem_of_getElem? hE,h⟩
   have qB:yT x w n e=false->∀j e,j<i+1->r.es[j]?=some e->yT x w n e=false:=fun h j e' hj D1=>by
    by_cases kX:j=i
    ·rw[kX,hE]at D1;cases D1;exact h
    ·exact sy j e' Z D1
   by_cases hx:e.x=x
   ·by_cases hw:e.w=w
    ·by_cases F7:e.n=n
     ·have hh:=Kh (by simp[yT,hx,hw,F7])
      clear Kh qB sy;refine ii vM e1 e3 e5 e7 y3 y5 ay aL bC l0 (aI l1 (aI hx (aI hw (aI F7 (aI hh @fe.eq_1))))) ?_;exact⟨aM,Z⟩
     ·have hh:=qB (by simp[yT,F7])
      clear Kh qB sy;refine ii vM e1 e3 e5 e7 y3 y5 ay aL bC l0 (aI l1 (aI hx (aI hw (aI F7 bV)))) ?_;exact⟨r.es.length - (i+1),Z,i+1,Z,rfl,rfl,ha,Z,hh⟩
    ·have hh:=qB (by simp[yT,hw])
     have bfa:(false&&decide (e.n=n))=false:=rfl;clear Kh qB sy;refine ii vM e1 e3 e5 e7 y3 y5 ay aL bC l0 (aI l1 (aI hx (aI hw (aI bfa bV)))) ?_;exact⟨r.es.length - (i+1),Z,i+1,Z,rfl,rfl,ha,Z,hh⟩
   ·have hh:=qB (by simp[yT,hx])
    clear Kh qB sy;refine ii vM e1 e3 e5 e7 y3 y5 ay aL bC l0 (aI l1 (aI hx bV)) ?_;exact⟨r.es.length - (i+1),Z,i+1,Z,rfl,rfl,ha,Z,hh⟩
  ·have hh:r.es.any (yT x w n)=false:=by
    rw[List.any_eq_false];intro e he;obtain⟨j,hj⟩:=getElem?_of_mem he;have:=(List.getElem?_eq_some_iff.1 hj).1;simp[sy j e Z hj]
   clear sy;refine dw vM e1 e3 e5 e7 y3 y5 ay aL hh @fe.eq_1 ?_;exact⟨aM,Z⟩
end
end Go.Xs
