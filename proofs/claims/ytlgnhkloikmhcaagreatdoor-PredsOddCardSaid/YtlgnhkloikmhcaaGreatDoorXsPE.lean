/- A part of the proof: the layers and contracts it rests on. -/
import Derived.Test.YtlgnhkloikmhcaaGreatDoorXsPC
import Derived.Test.YtlgnhkloikmhcaaGreatDoorXsPD
import Derived.Sort.LotA
import Derived.Sort.LotB
import Derived.Sort.LotC
import Derived.Sort.LotD3
set_option maxRecDepth 100000
set_option maxHeartbeats 8000000
set_option linter.all false
set_option linter.deprecated false
namespace Go.Xs
open List Nat Option
noncomputable section
open Go.Proofs
def gf (S:HS) (m:fS):bO:=⟨m.w,m.n,(txR S m.t).1.n,(txR S m.t).1.e⟩
def mL (S:HS) (m:fS):Bool:=m.fin&&decide ((txR S m.t).1.s=1)
def dk (S:HS) (ms:List fS) (x:Int):List bO:=(ms.filter fun m=>decide (m.x=x)&&mL S m).map (gf S)
theorem Bx (S:HS) {ms:List fS} {i:Nat} {m:fS} (h:ms[i]?=some m) (x:Int):dk S (ms.take (i+1)) x=if x=m.x/\mL S m=true then dk S (ms.take i) x++[gf S m] else dk S (ms.take i) x:=by
 have:ms.take (i+1)=ms.take i++[m]:=by rw[take_add_one,h];rfl
 unfold dk;rw[this,filter_append,map_append];by_cases hc:x=m.x/\mL S m=true
 ·rw[if_pos hc]
  simp[hc.1,hc.2]
 ·rw[if_neg hc]
  have:(decide (m.x=x)&&mL S m)=false:=by
   rw[Bool.and_eq_false_iff];by_cases e:m.x=x
   ·right
    cases ho:mL S m with
    | false=>rfl
    | true=>exact(hc ⟨e.symm,ho⟩).elim
   ·left;simpa using e
  simp[this]
def Ci:Prop:=∀(ρ:aK) (M:Hp) (nx k:Nat) (l:List bO),l.length<=1000->0<l.length->k<nx->gG M k=some (.row (l.flatMap aV)) ->
 ar ao ρ 128 [.sl k 4 0 l.length l.length,.fn (.func 129) [] []] M nx fun r=>r.1 = .tup []/\(∃l':List bO,l'.Perm l/\l'.Pairwise (fun a b=>a.wr<=b.wr)/\gG r.2.1 k=some (.row (l'.flatMap aV)))/\(∀j,j<nx->j≠k->gG r.2.1 j=gG M j)/\nx<=r.2.2
structure IR (S:HS) (M:Hp) (nx:Nat) (r:ew):Prop where
 post:∃(o:Nat) (F:Int->Option (List bO)),r.1 = .mp o 0/\ey r.2.1 r.2.2 o F/\Ev r.2.1 o/\(∀x,F x=none ↔ dk S S.mods x=[])/\(∀x l,F x=some l->l.Perm (dk S S.mods x)/\l.Pairwise (fun a b=>a.wr<=b.wr))/\aq nx M r.2.1/\nx<=r.2.2
theorem f81 (hI:Ci) (ρ:aK) (j9:ρ.det=false) {M:Hp} {nx lo hi h:Nat} {S:HS} (H:bX M lo hi h S) (hh:hi<=nx) (hn:By S) (few:S.mods.length<=1000) :
 ar ao ρ 81 [.mp h 0] M nx (IR S M nx):=by
 refine ar.wk 95 [.tmp 2] Tryz.func81 ?_;refine dt vG ?_;generalize xu:aG (aG M _ _) _ _=M1;have a1:aq nx M M1:=by rw[<-xu];exact O
 have z1:gG M1 (nx+5)=some (.row [.mm (nx+3)]):=by rw[<-xu];exact J
 have z2:gG M1 (nx+3)=some (.map [] 0):=by rw[<-xu];exact J
 clear xu;refine gQ (WK ρ (H.agr (a1.le hh)) af af) ?_;rintro⟨mv,M2,n2⟩ ⟨g1,g2,g3⟩;simp only at g1 g2 g3;have a2:aq nx M M2:=a1.trans (g2.le af);have y1:=(g2 (nx+5) af).trans z1;have y2:=(g2 (nx+3) af).trans z2;have F2:∀N,kZ ao N 80 mv=some ⟨.int .i64 (S.mods.length:Nat),[],[]⟩:=fun N=>(dN.lt (g1.keep (q:=(· < n2)) fun k hk=>⟨rfl,hk.2⟩)).len (P:=ao) (t:=80) oi.2.2.2.2.2 N
 refine fM vG F2 ?_;clear a1 z1 z2 g2;refine aC (fun m' s=>∃(i:Nat) (l:List (Nat×Int×XV)) (c:Nat) (tag:Nat->OT),i<=S.mods.length/\m'=S.mods.length - i/\gG s.env 0=some (.mp h 0)/\gG s.env 3=some (.mp (nx+5) 0)/\gG s.env 18=some mv/\gG s.env 19=some (.int .i64 (S.mods.length:Nat))/\gG s.env 20=some (.int .i64 i) /\
  oh s.M nx s.nx (nx+5) (nx+3) c l tag (dk S (S.mods.take i))/\l.length<=i/\dN s.M (fun k=>k<n2/\tag k = .none) mv 8 S.mods.length (S.mods.flatMap cO)/\aq nx M s.M/\n2<=s.nx)
  S.mods.length ⟨0,[],0,fun k=>if k=nx+5 then .ord else if k=nx+3 then .map else .none,af,af,?_⟩ ?_
 ·refine dt vG ?_
  refine⟨?_,Nat.le_refl _,g1.keep fun k hk=>⟨rfl,hk.2,by rw[if_neg af,if_neg af]⟩,a2,af⟩;exact { olo:=af,ohi:=af,otg:=if_pos rfl,orow:=y1,rlo:=af,rhi:=af,rtg:=by rw[if_neg af,if_pos rfl],map:=y2,born:=AH 0,none:=fun x _=>by simp[dk],some:=fun x v hx=>by simp[aH]at hx }
 ·rintro m' ⟨env,M',nx'⟩ ⟨i,l,c,tag,hi',ir,e0,e3,vT,vU,FV,hO,hli,cw,ha,yZ⟩
  simp only at e0 e3 vT vU FV hO cw ha yZ;by_cases aL:(i:Int)<S.mods.length
  ·have aP:i<S.mods.length:=af
   obtain⟨m,hmi⟩:∃m,S.mods[i]?=some m:=⟨S.mods[i],by simp[aP]⟩;obtain⟨q,o,Oc,bC,aU⟩:=(dN.lt (cw.keep (q:=(· < n2)) fun k hk=>⟨rfl,hk.1⟩)).elem (P:=ao) aP (t:=80) (t':=90) oi.2.2.2.1 Gx.1;have aU:=aU M' (aq.refl _ _);rw[As _ _ _ hmi]at aU;simp only[cO]at aU;have bV:=eF i;have bw:=fun x=>Bx S hmi x
   refine wT vG e0 e3 vT vU FV aL bC aU ?_;generalize oM:aG (aG M' _ _) _ _=M3;have a3:aq nx' M' M3:=by rw[<-oM];exact O
   have z3:gG M3 (nx'+3)=some (.row [.int .i64 m.pos,.int .u64 m.t,.int .u64 m.x,.int .u64 m.w,.int .u64 m.n,.int .u64 m.v,.bool m.dead,.bool m.fin]):=by rw[<-oM];exact J
   clear oM;refine lG (mA ρ (H.agr ((ha.trans (a3.le af)).le hh)) af hn m.t) fun M4 n4 k2 k3=>?_
   have a4:aq nx' M' M4:=a3.trans (k2.le af);have z4:=(k2 (nx'+3) af).trans z3;obtain⟨tx,F9⟩:∃tx,tx=(txR S m.t).1:=⟨_,rfl⟩;simp only[<-F9,d_];have sOrd:∀{M5:Hp} {n5:Nat},mL S m=false->aq nx' M' M5->nx'<=n5->oh M5 nx n5 (nx+5) (nx+3) c l (fun k=>if k<nx' then tag k else .none) (dk S (S.mods.take (i+1))):=fun hc h1 h2=>by
    have:dk S (S.mods.take (i+1))=dk S (S.mods.take i):=funext fun x=>by rw[bw x,if_neg (by rw[hc];simp)]
    rw[this];exact(hO.agr h1).up h2 fun k hk=>if_pos hk
   by_cases DZ:mL S m=true
   ·have jY:=DZ
    unfold mL at jY;simp only[Bool.and_eq_true,decide_eq_true_eq,<-F9]at jY;obtain⟨vW,R5⟩:=jY;have yQ:=(a4 (nx+3) hO.rhi).trans hO.map;have D8:=(a4 (nx+5) hO.ohi).trans hO.orow;have UC:=hO.ohi;have Z6:=hO.rhi;cases jc:aH l m.x with
    | some v =>
      obtain⟨rk,sv,rfl,r1,r2,r3,r4,r5,o1,o2,o3⟩:=hO.some m.x v jc;rcases o3 with ⟨_,o3⟩ | ⟨o0,sk,rfl,q1,q2,q3,q4⟩
      ·exact(r5 (length_eq_zero_iff.1 o3)).elim
      have Gr:=(a4 rk r2).trans r4;have VQ:=(a4 sk q2).trans q4;have d1:=aZ r3 q3 aj;have d2:=aZ r3 hO.rtg aj;have d3:=aZ r3 hO.otg aj;have d4:=aZ q3 hO.rtg aj;have d5:=aZ q3 hO.otg aj;have hd:aw rk sk=False/\aw sk rk=False/\aw rk (nx+3)=False/\aw (nx+3) rk=False/\aw rk (nx+5)=False/\aw (nx+5) rk=False/\aw sk (nx+3)=False/\aw (nx+3) sk=False/\aw sk (nx+5)=False/\aw (nx+5) sk=False/\aw (nx+3) (nx+5)=False/\aw (nx+5) (nx+3)=False:=by simp only[aw,eq_iff_iff,iff_false];omega
      obtain⟨g,hg⟩:∃g,g=dk S (S.mods.take i) m.x:=⟨_,rfl⟩;rw[<-hg]at o0 o1 o2 Gr VQ;obtain⟨cs,dI⟩:∃cs,cs=g.flatMap aV:=⟨_,rfl⟩;rw[<-dI]at VQ;have cF:cs.length=g.length*4:=by rw[dI,hg];rw[hg]at o2;exact o2
      have kB:List.take (g.length*4) cs=cs:=take_of_length_le af;have hgl:g.length<=1000:=by
       rw[hg];unfold dk;rw[length_map];refine Nat.le_trans (length_filter_le _ _) ?_;rw[length_take];omega
      have QL:dk S (S.mods.take (i+1))=fun y=>if y=m.x then g++[gf S m] else dk S (S.mods.take i) y:=funext fun y=>by
       rw[bw y];by_cases e:y=m.x
       ·subst e;rw[if_pos ⟨rfl,DZ⟩,if_pos rfl,<-hg]
       ·rw[if_neg (fun q=>e q.1),if_neg e]
      clear bw bC aU k2;refine yq vG e0 e3 vT vU FV bV z4 vW R5 yQ (aI jc (aI D8 (aI Gr (aI VQ (aI hd (aI cF kB)))))) ?_;refine⟨by(repeat' apply ap)<;>exact yj,S.mods.length - (i+1),af,i+1,l,c,fun k=>if k=n4+42 then .sl m.x else if k<nx' then tag k else .none,af,rfl,rfl,?_,af,cw.keep fun k hk=>⟨?_,hk.1,?_⟩,fun k hk=>?_,af⟩
      ·rw[QL]
       refine hO.set jc (fun k k1 k2 k3=>?_) (fun k hk=>by rw[if_neg af,if_pos hk]) af (sv':=.sl (n4+42) 4 0 (g.length+1) (g.length+1)) J aj ⟨am,by simp[aV,fg (sz:=4) (f:=aV) (fun a=>rfl)];omega,.inr ⟨aj,n4+42,aj,af,af,if_pos rfl,?_⟩⟩
       ·have e1:k≠rk:=fun e=>k2 (by rw[e];exact r3)
        have e2:k≠sk:=fun e=>k3 (by rw[e];exact q3)
        have:=a4 k k1;exact J
       ·rw[flatMap_append,<-dI]
        simp only[flatMap_cons,flatMap_nil,append_nil,gf,aV,<-F9];exact J
      ·have e1:k≠rk:=fun e=>by have:=hk.2;rw[e,r3]at this;cases this
       have e2:k≠sk:=fun e=>by have:=hk.2;rw[e,q3]at this;cases this
       have:=a4 k af;exact J
      ·show (if k=n4+42 then OT.sl m.x else if k<nx' then tag k else .none) = .none
       rw[if_neg af,if_pos af];exact hk.2
      ·have:=(ha.trans (a4.le af)) k hk
       exact J
    | none =>
      have hd:aw (nx+3) (nx+5)=False/\aw (nx+5) (nx+3)=False:=by simp only[aw,eq_iff_iff,iff_false];omega
      have hf0:=hO.none m.x jc;have QL:dk S (S.mods.take (i+1))=fun y=>if y=m.x then [gf S m] else dk S (S.mods.take i) y:=funext fun y=>by
       rw[bw y];by_cases e:y=m.x
       ·subst e;rw[if_pos ⟨rfl,DZ⟩,if_pos rfl,hf0];rfl
       ·rw[if_neg (fun q=>e q.1),if_neg e]
      clear bw bC aU k2;refine yq vG e0 e3 vT vU FV bV z4 vW R5 yQ (aI jc (aI D8 hd)) ?_;refine⟨by(repeat' apply ap)<;>exact yj,S.mods.length - (i+1),af,i+1,dD l c m.x (.mp (n4+29) 0),lB l c m.x,fun k=>if k=n4+53 then .sl m.x else if k=n4+29 then .row m.x else if k<nx' then tag k else .none,af,rfl,rfl,?_,by rw[qo _ _ _ _ jc];simp;omega,cw.keep fun k hk=>⟨?_,hk.1,?_⟩,(by(repeat (refine aq.set ?_ af _));exact ha.trans (a4.le af)),af⟩
      ·rw[QL]
       refine hO.add jc (fun k k1 k2=>?_) (fun k hk=>by rw[if_neg af,if_neg af,if_pos hk]) af J af af (by rw[if_neg af,if_pos rfl]) (sv':=.sl (n4+53) 4 0 1 1) J aj ⟨aj,by simp[aV],.inr ⟨aj,n4+53,aj,af,af,if_pos rfl,?_⟩⟩
       ·have:=a4 k k1
        exact J
       ·simp only[flatMap_cons,flatMap_nil,append_nil,gf,aV,<-F9]
        exact J
      ·have e1:k≠nx+3:=fun e=>by have:=hk.2;rw[e,hO.rtg]at this;cases this
       have:=a4 k af;exact J
      ·show (if k=n4+53 then OT.sl m.x else if k=n4+29 then .row m.x else if k<nx' then tag k else .none) = .none
       rw[if_neg af,if_neg af,if_pos af];exact hk.2
   ·have Y9:mL S m=false:=by simpa using DZ
    have Mq:=Y9;unfold mL at Mq;rw[<-F9]at Mq;cases vW:m.fin with
    | false =>
      refine wT vG e0 e3 vT vU FV z4 vW bV ?_;refine⟨S.mods.length - (i+1),af,i+1,l,c,fun k=>if k<nx' then tag k else .none,af,rfl,rfl,sOrd Y9 (by(repeat (refine aq.set ?_ af _));exact a4) af,af,cw.keep fun k hk=>⟨?_,hk.1,?_⟩,(by(repeat (refine aq.set ?_ af _));exact ha.trans (a4.le af)),af⟩
      ·have:=a4 k af
       exact J
      ·show (if k<nx' then tag k else OT.none) = .none
       rw[if_pos af];exact hk.2
    | true =>
      have R5:¬ tx.s=1:=by rw[vW]at Mq;simpa using Mq
      refine rf vG e0 e3 vT vU FV z4 vW R5 bV ?_;refine⟨S.mods.length - (i+1),af,i+1,l,c,fun k=>if k<nx' then tag k else .none,af,rfl,rfl,sOrd Y9 (by(repeat (refine aq.set ?_ af _));exact a4) af,af,cw.keep fun k hk=>⟨?_,hk.1,?_⟩,(by(repeat (refine aq.set ?_ af _));exact ha.trans (a4.le af)),af⟩
      ·have:=a4 k af
       exact J
      ·show (if k<nx' then tag k else OT.none) = .none
       rw[if_pos af];exact hk.2
  ·have uT:S.mods.take i=S.mods:=take_of_length_le af
   rw[uT]at hO;have yQ:=hO.map;have D8:=hO.orow;have UC:=hO.ohi;have Z6:=hO.rhi;have qz:l.length<=1000:=af;have fA:=e3;clear cw hli H F2 y1 y2 g1;refine yq vG e0 e3 vT vU FV aL D8 yQ @s6 @pP (aI @tf MB.2.2.2.2) ?_;obtain⟨it,JV⟩:∃it,it=nx'+5:=⟨_,rfl⟩;rw[<-JV];refine aC (fun m4 s=>∃(seen:List Nat) (st:Nat) (g:Int->List bO),m4=(l.filter fun e=>decide (e.1 ∉ seen)).length/\gG s.env 3=some (.mp (nx+5) 0)/\gG s.env 83=some (.mp it 0)/\gG s.M it=some (.iter (some (nx+3)) c seen st)/\c<=st /\
    oh s.M nx nx' (nx+5) (nx+3) c l tag g/\(∀x,(g x).Perm (dk S S.mods x))/\(∀e ∈ l,e.1 ∈ seen->(g e.2.1).Pairwise (fun a b=>a.wr<=b.wr))/\aq nx M s.M/\it<s.nx)
    _ ⟨[],c,dk S S.mods,rfl,?_⟩ ?_
   ·refine dt vG ?_
    refine⟨fA,Nat.le_refl _,hO.agr ((aq.refl _ _).set af _),fun x=>.refl _,fun e he hs=>by simp at hs,(by(repeat (refine aq.set ?_ af _));exact ha),af⟩
   ·rintro m4 ⟨Yq,M4,n4⟩ ⟨seen,st,g,VH,uY,XH,JB,bw,AQ,RS,Ob,Y4,QX⟩
    simp only at uY XH JB AQ Y4 QX;refine gk vG XH @qv ?_;refine Cf j9 JB AQ.map AQ.born.lt bw (Nat.le_refl _) ?_ ?_
    ·intro dy
     have D9:IR S M nx (.mp (nx+5) 0,M4,n4+4):=by
      refine⟨nx+5,fun x=>if (aH l x).isSome then some (g x) else none,rfl,⟨an,nx+3,c,l,AQ.orow,an,AQ.map,fun x hx=>by simp[hx],fun x v hx=>⟨g x,by simp[hx],?_⟩⟩,⟨nx+3,c,l,AQ.orow,AQ.map,AQ.born,af⟩,fun x=>?_,fun x l' hx=>?_,Y4,an⟩
      ·obtain⟨rk,sv,h1,h2,h3,h4,h5,h6,h7⟩:=AQ.some x v hx
       exact⟨rk,sv,h1,an,h5,h7.sl.up an⟩
      ·cases hx:aH l x with
       | none =>
         have:=hO.none x hx;simp[this,hx]
       | some v =>
         obtain⟨rk,sv,h1,h2,h3,h4,h5,h6,h7⟩:=hO.some x v hx;simp[h6,hx]
      ·cases hl:aH l x with
       | none=>simp[hl]at hx
       | some v =>
         simp only[hl,isSome_some,if_true,Option.some.injEq]at hx;subst hx;obtain⟨b',rA⟩:=ju hl;exact⟨RS x,Ob _ rA (dy _ rA)⟩
     clear dy Ob RS;refine Ao vG uY XH ?_;exact D9
    ·intro e he y7
     obtain⟨rk,sv,hv,r1,r2,r3,r4,r5,r6⟩:=AQ.some e.2.1 e.2.2 (gH AQ.born.kd e he);obtain⟨o1,o2,⟨_,o3⟩ | ⟨o0,sk,rfl,q1,q2,q3,q4⟩⟩:=r6
     ·exact(r5 (length_eq_zero_iff.1 o3)).elim
     have hgl:(g e.2.1).length<=1000:=by
      rw[(RS e.2.1).length_eq];unfold dk;rw[length_map];exact Nat.le_trans (length_filter_le _ _) few
     have d1:=aZ r3 q3 aj;generalize mR:aG M4 it _=M5;have Jx:i7 M5 (.mp it 0)=some ⟨.tup [.int .u64 e.2.1,.mp rk 0],[it,nx+3],[]⟩:=by
      rw[<-hv];have hmp:=AQ.map;exact rj (vf:=vX) (l:=l) (by rw[<-mR];exact J) (by rw[<-mR];exact J) AQ.born.nd he
     have w1:gG M5 rk=some (.row [.sl sk 4 0 (g e.2.1).length (g e.2.1).length]):=by rw[<-mR];exact J
     have w2:gG M5 sk=some (.row ((g e.2.1).flatMap aV)):=by rw[<-mR];exact J
     have w3:gG M5 it=some (.iter (some (nx+3)) c (seen++[e.1]) c):=by rw[<-mR];exact J
     have a5:aq nx' M4 M5:=by rw[<-mR];exact O
     have dW:=hI ρ M5 (n4+10) sk (g e.2.1) hgl o0 af w2;have oP:=hv;clear mR hv r4 q4;refine ul vG uY XH @yA Jx w1 ?_;refine gQ dW ?_;rintro⟨u,M6,n6⟩ ⟨k1,⟨l',p1,p2,p3⟩,k2,k3⟩;simp only at k1 p3 k2 k3;subst k1;have old:∀k,k<nx'->k≠sk->gG M6 k=gG M4 k:=fun k h1 h2=>(k2 k af h2).trans (a5 k h1)
     have Ut:l'.length=(g e.2.1).length:=p1.length_eq;have cf:l'≠[]:=fun q=>by rw[q]at Ut;simp only[length_nil]at Ut;omega
     have hO6:oh M6 nx nx' (nx+5) (nx+3) c l tag (fun y=>if y=e.2.1 then l' else g y):=by
      have jc:=gH AQ.born.kd e he;rw[oP]at jc;refine AQ.set jc (fun k h1 h2 h3=>old k h1 fun q=>h3 (by rw[q];exact q3)) (fun k _=>rfl) (Nat.le_refl _) ((k2 rk af d1).trans w1) cf ⟨af,by rw[fg (sz:=4) (f:=aV) (fun a=>rfl)],.inr ⟨af,sk,by rw[Ut],q1,q2,q3,p3⟩⟩
     have hw6:=(k2 it af af).trans w3;have hG6:aq nx M M6:=fun k hk=>(old k af af).trans (Y4 k hk)
     have Z1:∀x,(if x=e.2.1 then l' else g x).Perm (dk S S.mods x):=fun x=>by
      by_cases q:x=e.2.1
      ·rw[if_pos q,q];exact p1.trans (RS _)
      ·rw[if_neg q];exact RS x
     have Z3:∀e' ∈ l,e'.1 ∈ seen++[e.1]->(if e'.2.1=e.2.1 then l' else g e'.2.1).Pairwise (fun a b=>a.wr<=b.wr):=fun e' D1 hs=>by
      by_cases q:e'.2.1=e.2.1
      ·rw[if_pos q];exact p2
      ·rw[if_neg q]
       rcases mem_append.1 hs with hs | hs
       ·exact Ob e' D1 hs
       ·rw[mem_singleton]at hs
        exact(q (by rw[o8 AQ.born.nd D1 he hs])).elim
     have F3:(l.filter fun e'=>decide (e'.1 ∉ seen++[e.1])).length<m4:=by rw[VH];exact t_ y7 he
     clear RS Ob old AQ y7 VH k2;refine Ao vG uY XH ?_;exact⟨_,F3,seen++[e.1],c,_,rfl,hw6,Nat.le_refl _,hO6,Z1,Z3,hG6,af⟩
end
end Go.Xs
namespace Go.Xs
open List Nat Option
noncomputable section
open Go.Proofs
def eO (S:HS) (e:Ex) (x w n:Int):Bool:=(xa S x w n).2&&(!(xa S x w n).1.dead&&xS e x (xa S x w n).1.v)
theorem f85 (ρ:aK) {M:Hp} {nx lo hi h b:Nat} {S:HS} (H:bX M lo hi h S) (hh:hi<=nx) (hv:oC S) (few:S.mods.length<=100000) {e:Ex} {cs:List XV} (he:bG M b e cs) (hb:b<=nx) (hc:dV e<=1000) (iu:gI e) (x w n:Int) :
 ar ao ρ 85 [.mp h 0,.agg cs,.int .u64 x,.agg [.int .u64 w,.int .u64 n]] M nx (fe nx M (.bool (eO S e x w n))):=by
 obtain⟨k,p,q,ps⟩:=e;have sx:=he;simp only[bG]at sx;obtain⟨v,row,rfl,cw,_⟩:=sx;have MI:=cw.cell;refine ar.wk 31 [.tmp 8] Tryz.func85 ?_;refine Ao GK MI.1 MI.2 ?_;generalize xu:aG (aG M nx _) (nx+1) _=M1;have a1:aq nx M M1:=by rw[<-xu];exact O
 have z0:gG M1 nx=some (.row [.int .i64 k,.int .u64 p,.int .u64 q,v]):=by rw[<-xu];exact J
 have z1:gG M1 (nx+1)=some (.row [.int .u64 w,.int .u64 n]):=by rw[<-xu];exact J
 clear xu;refine lG (Wo ρ (H.agr (a1.le hh)) af hv few x w n) fun M2 n2 g2 g3=>?_
 have z2:=(g2 nx af).trans z0;have a2:aq nx M M2:=a1.trans (g2.le af);have Uj:=he.agr (a2.le hb);unfold eO;obtain⟨⟨m1,m2,m3,m4,m5,m6,m7,m8⟩,ok⟩:=xa S x w n;simp only[cO];cases ok with
 | false =>
   refine Ao GK z2 @fe.eq_1 ?_;exact⟨rfl,(by(repeat (refine aq.set ?_ af _));exact a2),af⟩
 | true =>
   cases m7 with
   | true =>
     refine Ao GK z2 @fe.eq_1 ?_;exact⟨rfl,(by(repeat (refine aq.set ?_ af _));exact a2),af⟩
   | false =>
     refine mI GK z2 ?_;generalize oM:aG (aG M2 _ _) _ _=M3;have a3:aq n2 M2 M3:=by rw[<-oM];exact O
     clear oM;refine lG (X2 ρ (Uj.agr (a3.le af)) af hc iu x m6) fun M4 n4 g5 g6=>?_
     refine mI GK @fe.eq_1 ?_;exact⟨a2.trans ((a3.le af).trans (g5.le af)),af⟩
def gd (L:List bO) (q:Int->Int->Bool) (own:Int):List bO->Bool->List dY
 | [],_=>[]
 | e::es,was=>if e.w=own then gd L q own es was else ⟨e.w,e.n,(mC L e.w e.n).1,q e.w e.n,q e.w e.n != was⟩::gd L q own es (q e.w e.n)
def nj:dY:=⟨0,0,-1,false,false⟩
def eo (q:Int->Int->Bool) (own:Int) (l:List bO):List dY:=nj::gd l q own l false
theorem Ro (ρ:aK) (M:Hp) (nx h:Nat) (cs:List XV) (dI:∃k p q v,cs=[.int .i64 k,.int .u64 p,.int .u64 q,v]/\cellsOf v=[v]/\ax v=true) (x own:Int) :
 ar ao ρ 45 [.mp h 0,.agg cs,.int .u64 x,.int .u64 own] M nx fun r=>r.1 = .fn (.func 80) [] [.mp nx 0,.mp (nx+2) 0,.mp (nx+3) 0,.mp (nx+1) 0]/\nx+4<=r.2.2 /\
  gG r.2.1 nx=some (.row [.mp h 0])/\gG r.2.1 (nx+1)=some (.row cs)/\gG r.2.1 (nx+2)=some (.row [.int .u64 x])/\gG r.2.1 (nx+3)=some (.row [.int .u64 own])/\aq nx M r.2.1:=by
 obtain⟨k,p,q,v,rfl,v1,v2⟩:=dI;refine ar.wk 10 [.tmp 8] Tryz.func45 ?_;refine Ao S7 v1 v2 ?_;exact⟨af,O⟩
end
end Go.Xs
namespace Go.Xs
open List Nat Option
variable{M M':Hp}{b nx:Nat}
noncomputable section
open Go.Proofs
theorem kn.kp {v:XV} {l:List bO} (h:kn M b v l) (ha:Kp b M M'):kn M' b v l:=by
 obtain⟨rk,sv,h1,h2,h3,h4⟩:=h;exact⟨rk,sv,h1,h2,ha rk _ h2 h3,h4.kp ha⟩
theorem ey.kp {o:Nat} {f:Int->Option (List bO)} (h:ey M b o f) (ha:Kp b M M'):ey M' b o f:=by
 obtain⟨ho,rm,c,l,h1,h2,h3,h4,h5⟩:=h;exact⟨ho,rm,c,l,ha o _ ho h1,h2,ha rm _ h2 h3,h4,fun x v hx=>by
  obtain⟨ins,h6,h7⟩:=h5 x v hx;exact⟨ins,h6,h7.kp ha⟩⟩
theorem Nv.agr {N N':Hp} (h:Nv nx N M N' M') (hs:Pi N M) (ha:aq nx N N') (hc:∀k o,gG M k=some o->k<nx):aq nx M M'/\Pi N' M':=by
 refine⟨fun k hk=>?_,fun k y hy=>?_⟩
 ·cases hN:gG N k with
  | some x=>rw[h.own k x hN,ha k hk,hN,hs k x hN]
  | none =>
    cases hM:gG M k with
    | some x=>exact h.old k x hk hN hM
    | none=>rw[h.mid k hk hN ((ha k hk).trans hN),hM]
 ·by_cases hk:k<nx
  ·have e:=ha k hk
   rw[hy]at e;rw[h.own k y e.symm];exact hy
  ·rw[h.new hc k af]
   exact hy
theorem ni (hI:Ci) (ρ:aK) (j9:ρ.det=false) {lo hi h:Nat} {S:HS} (H:bX M lo hi h S) (hh:hi<=nx) (hn:By S) (Wb:oC S) (few:S.mods.length<=1000) {e:Ex} {cs:List XV} (he:bG M b e cs) (hb:b<=nx) (hc:dV e<=1000) (iu:gI e) (x own:Int) (ZR:∀i ∈ dk S S.mods x,1<=i.n) :
 ar ao ρ 15 [.mp h 0,.agg cs,.int .u64 x,.int .u64 own] M nx fun o=>∃l:List bO,l.Perm (dk S S.mods x)/\l.Pairwise (fun a b=>a.wr<=b.wr)/\og nx M 5 bi (eo (eO S e x) own l) o:=by
 have dI:∃k p q v,cs=[.int .i64 k,.int .u64 p,.int .u64 q,v]/\cellsOf v=[v]/\ax v=true:=by
  obtain⟨k,p,q,ps⟩:=e;have sx:=he;simp only[bG]at sx;obtain⟨v,row,rfl,cw,_⟩:=sx;exact⟨k,p,q,v,rfl,cw.cell.1,cw.cell.2⟩
 have QB:=dI;obtain⟨k,p,q,v,rfl,v1,v2⟩:=QB;refine ar.walkR (m:=21) (rs:=[.cell 8 52]) follows j9 Tryz.func15 U rfl rfl rfl ?_
 conv in qD _ _ _ _ _ _ _=>arg 5;whnf
 refine po ?_;refine ti uo @iX v1 v2 ?_;refine CY ?_;refine po ?_;refine ti uo @iX v1 v2 ?_;generalize xu:aG (aG M nx _) (nx+1) _=M1;have a1:aq nx M M1:=by rw[<-xu];exact O
 have z1:gG M1 (nx+1)=some (.row [.nils]):=by rw[<-xu];exact J
 clear xu;refine gQ (Ro ρ M1 (nx+6) h _ dI x own).out ?_;rintro⟨u,M2,n2⟩ ⟨⟨rfl,g2,g3,g4,g5,g6,g7⟩,cF,_⟩;simp only at g2 g3 g4 g5 g6 g7 cF;have z2:=(g7 (nx+1) af).trans z1;have a2:aq nx M M2:=a1.trans (g7.le af);have H2:=H.agr (a2.le hh);have Uj:=he.agr (a2.le hb);clear z1 a1 g7;refine mI uo @iX ?_;generalize hE:aG _ 14 _=E;have t8:gG E 8=some (.mp (nx+1) 0):=by rw[<-hE];exact J
 have t14:cG E (.tmp 14) = .fn (.func 80) [] [.mp (nx+6) 0,.mp (nx+8) 0,.mp (nx+9) 0,.mp (nx+7) 0]:=by rw[<-hE];rfl
 clear hE;refine Cm ?_;refine⟨80,[.mp (nx+6) 0,.mp (nx+8) 0,.mp (nx+9) 0,.mp (nx+7) 0],fun M' n'=>∃(l:List bO) (vv:XV),l.Perm (dk S S.mods x)/\l.Pairwise (fun a b=>a.wr<=b.wr)/\gG M' (nx+1)=some (.row [vv])/\di M' n2 n' vv 5 bi (eo (eO S e x) own l)/\aq nx M M'/\n2<=n',t14,?_,?_⟩
 ·generalize hY:xB ao ρ 21 _ _ _ _=Y
  refine OQ.walk follows (m:=58) Tryz.func80 U rfl rfl rfl ?_
  conv in qD _ _ _ _ _ _ _=>arg 5;whnf
  refine CY ?_;refine po ?_;refine Ao R3 @iX g3 ?_;refine Iy ?_;refine mI R3 @iX ?_;refine po ?_;refine Ao R3 @iX g3 ?_;have oy:Pi (vO M2 (nx+1)) M2:=fun k y hk=>by
   rw[cV]at hk;split at hk
   ·cases hk
   ·exact hk
  have HN:bX (vO M2 (nx+1)) lo hi h S:=H2.agr fun k hk=>by rw[cV,if_neg af]
  refine gQ (ar.frame oy (f81 hI ρ j9 HN af hn few)) ?_;rintro⟨u,M3,n3⟩ ⟨N3,⟨o,F,q1,hO,_,YE,YF,q2,q3⟩,YG⟩;simp only at q1 hO q2 q3 YG;subst q1;obtain⟨a3,zi⟩:=YG.agr oy q2 (fun k o hk=>by have:=(cF k o hk).1;omega);have sy:gG N3 (nx+1)=none:=by rw[q2 (nx+1) af,cV,if_pos rfl]
  obtain⟨l,hl⟩:∃l,l=(F x).getD []:=⟨_,rfl⟩;have UF:l.Perm (dk S S.mods x)/\l.Pairwise (fun a b=>a.wr<=b.wr):=by
   cases ZG:F x with
   | none=>rw[hl,ZG,(YE x).1 ZG];exact⟨.nil,.nil⟩
   | some l'=>rw[hl,ZG];exact YF x l' ZG
  have ay:l.length<=1000:=by
   rw[UF.1.length_eq];unfold dk;rw[length_map];exact Nat.le_trans (length_filter_le _ _) few
  clear YE YF YG HN q2;refine mI R3 @iX ?_;refine po ?_;refine mI R3 @iX ?_;refine po ?_;have c2:=(a3 (nx+8) af).trans g5;refine Ao R3 @iX c2 ?_;refine gQ (f82 ρ (hO.kp fun k y _ hy=>zi k y hy) af x (by rw[<-hl];omega)) ?_;rw[<-hl];rintro⟨u,M4,n4⟩ ⟨⟨K,rfl,k1,k2,k3⟩,h4,h5⟩;simp only at k1 k2 k3 h4 h5;have a4:aq n2 M2 M4:=(a3.le af).trans (h4.le af);have d1:=(a4 (nx+6) af).trans g3;have d2:=(a4 (nx+8) af).trans g5;have d3:=(a4 (nx+9) af).trans g6;have d4:=(a4 (nx+7) af).trans g4;have d0:=(a4 (nx+1) af).trans z2;have hOrd:∀N,(∀q,q<n4->q≠nx+1->gG N q=gG M4 q)->ey N n3 o F:=fun N hN=>hO.kp fun k y hk hy=>by
   have cf:k≠nx+1:=fun e=>by rw[e,sy]at hy;cases hy
   rw[hN k af cf,h4 k af];exact zi k y hy
  clear c2 g3 g4 g5 g6 z2 hO zi h4 oy cF sy a3;refine mI R3 @iX ?_;refine Cm ?_;refine Hn (fun m s=>∃(i:Nat) (was:Bool) (acc:List dY) (vv:XV),i<=l.length+1/\m=l.length+1 - i/\(i=0->acc=[]/\was=false)/\(0<i->acc++gd l (eO S e x) own (l.drop (i - 1)) was=eo (eO S e x) own l)/\acc.length<=i /\
   gG s.env 0=some (.yd n2)/\gG s.env 1=some (.mp (nx+6) 0)/\gG s.env 2=some (.mp (nx+8) 0)/\gG s.env 3=some (.mp (nx+9) 0)/\gG s.env 4=some (.mp (nx+7) 0)/\gG s.env 6=some (.mp o 0)/\gG s.env 7=some (.bool was) /\
   gG s.env 17=some (.sl K 2 0 (l.length+1) (l.length+1))/\gG s.env 18=some (.int .i64 ((l.length+1:Nat):Int))/\gG s.env 19=some (.int .i64 i) /\
   gG s.M (nx+1)=some (.row [vv])/\di s.M n4 s.nx vv 5 bi acc/\(∀q,q<n4->q≠nx+1->gG s.M q=gG M4 q)/\n4<=s.nx) _ ⟨0,false,[],.nils,af,rfl,aj,aj,aj,?_⟩ ?_
  ·refine bR R3 ?_
   exact⟨d0,dG.nil _ _,fun _ _ _=>trivial,af⟩
  ·rintro m ⟨env,M',nx'⟩ ⟨i,was,acc,vv,hi,hm,AW,Jp,jc,e0,e1,e2,e3,e4,e6,e7,CB,vT,vU,hz,hv,hk,F7⟩
   simp only at e0 e1 e2 e3 e4 e6 e7 CB vT vU hz hv hk F7;refine po ?_;by_cases aL:(i:Int)<((l.length+1:Nat):Int)
   ·refine mY R3 @iX vT vU aL ?_
    refine po ?_;refine mI R3 @iX ?_;refine CY ?_;refine Cm ?_;refine po ?_;have bC:∀kk,br ao 172 (.sl K 2 0 (l.length+1) (l.length+1)) (.int kk (i:Int))=some (.mp K (i*2)):=fun kk=>by
     rw[cy,wN.2.2.2.1,ev _ _ _ _ _ af af];simp
    have YK:=(hk K af af).trans k3;have hvl:∀l:List bO,(l.flatMap BF).length=l.length*2:=fun l=>by
     induction l with
     | nil=>rfl
     | cons a l ih=>rw[flatMap_cons,length_append,ih,length_cons];simp[BF];omega
    have rC:i*2+2<=([XV.int .u64 0,.int .u64 0]++l.flatMap BF).length:=by
     rw[length_append,hvl];simp only[length_cons,length_nil];omega
    have bV:=eF i;by_cases V0:i=0
    ·have aU:b_ ao M' 33 (.mp K (i*2))=some ⟨.agg [.int .u64 0,.int .u64 0],[K],[]⟩:=by
      rw[fG (by unfold vR;rw[YK]) OL.1 rC,V0];rfl
     obtain⟨rfl,rfl⟩:=AW V0;refine iC R3 @iX CB vU bC aU ?_;refine po ?_;refine mI R3 @iX ?_;refine CY ?_;refine po ?_;refine mI R3 @iX ?_;generalize mR:aG (aG (aG (aG M' (nx'+3) _) (nx'+3) _) (nx'+7) _) (nx'+7) _=M5;have a5:aq nx' M' M5:=by rw[<-mR];exact O
     have z9:gG M5 (nx'+3)=some (.row [.int .u64 0,.int .u64 0]):=by rw[<-mR];exact J
     have Ef:gG M5 (nx'+7)=some (.row [.int .u64 0,.int .u64 0,.int .i64 (-1),.bool false,.bool false]):=by rw[<-mR];exact J
     clear mR;generalize CC:aG _ 25 _=E2;have t0:gG E2 0=some (.yd n2):=by rw[<-CC];exact J
     have t1:gG E2 1=some (.mp (nx+6) 0):=by rw[<-CC];exact J
     have t2:gG E2 2=some (.mp (nx+8) 0):=by rw[<-CC];exact J
     have t3:gG E2 3=some (.mp (nx+9) 0):=by rw[<-CC];exact J
     have t4:gG E2 4=some (.mp (nx+7) 0):=by rw[<-CC];exact J
     have t6:gG E2 6=some (.mp o 0):=by rw[<-CC];exact J
     have t7:gG E2 7=some (.bool false):=by rw[<-CC];exact J
     have t17:gG E2 17=some (.sl K 2 0 (l.length+1) (l.length+1)):=by rw[<-CC];exact J
     have V3:gG E2 18=some (.int .i64 ((l.length+1:Nat):Int)):=by rw[<-CC];exact J
     have V4:gG E2 19=some (.int .i64 ((i:Nat):Int)):=by rw[<-CC];exact J
     have t9:gG E2 9=some (.mp (nx'+3) 0):=by rw[<-CC];exact J
     have TB:gG E2 10=some (.mp (nx'+7) 0):=by rw[<-CC];exact J
     clear CC e0 e1 e2 e3 e4 e6 e7 CB vT vU bC aU YK;refine lG (TU ρ _ _ 0 0) fun M6 n6 g2 g3=>?_
     have z9:=(g2 (nx'+3) af).trans z9;have Ef:=(g2 (nx'+7) af).trans Ef;have a6:aq nx' M' M6:=a5.trans (g2.le af);clear a5 g2;have Zg:(decide ((0:Int)=0)&&decide ((0:Int)=0))=true:=rfl;refine Ao R3 @iX Zg ?_;refine Iy ?_;refine mI R3 @iX ?_;refine po ?_;refine ti R3 @iX TB Ef ?_;refine CY ?_;refine Pw (ob [_,_] _ ?_);refine ti R3 t0 TB Ef ?_;refine FD (args:=[.agg [.int .u64 0,.int .u64 0,.int .i64 (-1),.bool false,.bool false]]) (by simp only[EU];(refine mI R3 t0 ?_;try exact⟨⟩)) ?_;refine Eq.mp (congrFun (congrFun (congrFun (congrFun hY _) _) _) _) (EA rfl ?_);have hz6:=(a6 (nx+1) af).trans hz;have Wa:=hv.up (N:=M6) (fun q _ hq=>a6 q hq) (hi':=n6) af;have Mb:=fun o o'=>Wa.up (N:=aG (aG M6 (n6+6) o) (n6+6) o') (fun q _ hq=>by rw[aB,if_neg af,aB,if_neg af]) (Nat.le_refl _)
     have dX:=fun o o'=>(Mb o o').push nj ao 52 32 [.int .u64 0,.int .u64 0,.int .i64 0,.bool false,.bool false] af af rfl (by simp only[fE,length_nil];omega) rfl
     simp only[bi,nj]at dX;have hpo:=fun(H:Hp) (key:Nat) (row:List XV) (hk:¬ key=nx+1)=>dG.push_old Wa (row:=row) (key:=key) H (q:=nx+1) (.inl af) (fun e=>hk e.symm)
     refine mY uo t8 hz6 dX hpo ?_;refine⟨_,rfl,ob [_] _ ?_⟩;refine mI R3 @iX ?_;refine Iy ?_;refine iC R3 @iX @Df @Nf V4 bV ?_;refine Iy ?_;refine iC R3 @iX @Df @Nf V4 bV ?_;subst V0;refine⟨l.length,af,1,false,[nj],_,af,af,af,fun _=>rfl,aj,t0,t1,t2,t3,t4,t6,rfl,t17,V3,rfl,rfl,?_,fun q hq cf=>?_,af⟩
     ·exact di.up ((Mb (.row []) (.row [])).pushed nj af af rfl aj) (fun q h1 _=>by rw[aB,if_neg af];rfl) (Nat.le_refl _)
     ·rw[if_neg (show ¬ aw (nx+1) q from fun e=>cf (Eq.symm e)),dG.push_old Wa _ (.inl hq) af,aB,if_neg af,aB,if_neg af,aB,if_neg af,a6 q af]
      exact hk q hq cf
    ·obtain⟨j,rfl⟩:∃j,i=j+1:=⟨i - 1,af⟩
     obtain⟨y,hy⟩:∃y,l[j]?=some y:=⟨l[j]' af,getElem?_eq_getElem _⟩;have aU:b_ ao M' 33 (.mp K ((j+1)*2))=some ⟨.agg [.int .u64 y.w,.int .u64 y.n],[K],[]⟩:=by
      rw[fG (by unfold vR;rw[YK]) OL.1 rC,show (j+1)*2=[XV.int .u64 0,.int .u64 0].length+j*2 by simp only[length_cons,length_nil];omega,drop_length_add_append,eT (f:=BF) (fun _=>rfl) hy];rfl
     refine iC R3 @iX CB vU bC aU ?_;refine po ?_;refine mI R3 @iX ?_;refine CY ?_;refine po ?_;refine mI R3 @iX ?_;generalize mR:aG (aG (aG (aG M' (nx'+3) _) (nx'+3) _) (nx'+7) _) (nx'+7) _=M5;have a5:aq nx' M' M5:=by rw[<-mR];exact O
     have z9:gG M5 (nx'+3)=some (.row [.int .u64 y.w,.int .u64 y.n]):=by rw[<-mR];exact J
     have Ef:gG M5 (nx'+7)=some (.row [.int .u64 y.w,.int .u64 y.n,.int .i64 (-1),.bool false,.bool false]):=by rw[<-mR];exact J
     clear mR;generalize CC:aG _ 25 _=E2;have t0:gG E2 0=some (.yd n2):=by rw[<-CC];exact J
     have t1:gG E2 1=some (.mp (nx+6) 0):=by rw[<-CC];exact J
     have t2:gG E2 2=some (.mp (nx+8) 0):=by rw[<-CC];exact J
     have t3:gG E2 3=some (.mp (nx+9) 0):=by rw[<-CC];exact J
     have t4:gG E2 4=some (.mp (nx+7) 0):=by rw[<-CC];exact J
     have t6:gG E2 6=some (.mp o 0):=by rw[<-CC];exact J
     have t7:gG E2 7=some (.bool was):=by rw[<-CC];exact J
     have t17:gG E2 17=some (.sl K 2 0 (l.length+1) (l.length+1)):=by rw[<-CC];exact J
     have V3:gG E2 18=some (.int .i64 ((l.length+1:Nat):Int)):=by rw[<-CC];exact J
     have V4:gG E2 19=some (.int .i64 ((j+1:Nat):Int)):=by rw[<-CC];exact J
     have t9:gG E2 9=some (.mp (nx'+3) 0):=by rw[<-CC];exact J
     have TB:gG E2 10=some (.mp (nx'+7) 0):=by rw[<-CC];exact J
     clear CC e0 e1 e2 e3 e4 e6 e7 CB vT vU bC aU YK;refine lG (TU ρ _ _ y.w y.n) fun M6 n6 g2 g3=>?_
     have z9:=(g2 (nx'+3) af).trans z9;have Ef:=(g2 (nx'+7) af).trans Ef;have a6:aq nx' M' M6:=a5.trans (g2.le af);clear a5 g2;have hyn:1<=y.n:=ZR y (UF.1.mem_iff.1 (mem_of_getElem? hy));have Zg:(decide (y.w=0)&&decide (y.n=0))=false:=am;have d3':=(a6 (nx+9) af).trans ((hk (nx+9) af af).trans d3);refine Ao R3 @iX Zg ?_;refine Iy ?_;by_cases Bd:y.w=own
     ·refine CU R3 @iX @Qc @Tk t9 z9 t3 d3' Bd ?_
      refine Iy ?_;refine iC R3 V4 bV @Df @Nf @iX ?_;have wS:l.drop j=y::l.drop (j+1):=by rw[drop_eq_getElem_cons af];congr 1;exact(List.getElem?_eq_some_iff.1 hy).2
      have h2:=Jp af;rw[Nat.add_sub_cancel,wS]at h2;simp only[gd,if_pos Bd]at h2;exact⟨l.length+1 - (j+2),af,j+2,was,acc,vv,af,rfl,af,fun _=>h2,af,t0,t1,t2,t3,t4,t6,t7,t17,V3,rfl,(a6 (nx+1) af).trans hz,hv.up (fun q _ hq=>a6 q hq) af,fun q hq cf=>(a6 q af).trans (hk q hq cf),af⟩
     ·have XC:=(a6 (nx+8) af).trans ((hk (nx+8) af af).trans d2)
      have ZB:=(a6 (nx+6) af).trans ((hk (nx+6) af af).trans d1);have ZC:=(a6 (nx+7) af).trans ((hk (nx+7) af af).trans d4);have YP:∀q,q<n4->q≠nx+1->gG M6 q=gG M4 q:=fun q hq cf=>(a6 q af).trans (hk q hq cf)
      refine dp R3 @iX t9 z9 t3 d3' Bd t6 t2 XC ?_;refine lG (f84 ρ (hOrd M6 YP) af x y.w y.n) fun M7 n7 g2 g3=>?_
      rw[<-hl];have z9:=(g2 (nx'+3) af).trans z9;have Ef:=(g2 (nx'+7) af).trans Ef;have ZB:=(g2 (nx+6) af).trans ZB;have XC:=(g2 (nx+8) af).trans XC;have ZC:=(g2 (nx+7) af).trans ZC;have a7:aq nx' M' M7:=a6.trans (g2.le af);clear g2 d3';refine ii R3 t9 z9 Ef TB t1 t2 t4 ZB XC ZC (aI v1 v2) ?_;generalize YL:aG M7 (nx'+7) _=M8;have Ef:gG M8 (nx'+7)=some (.row [.int .u64 y.w,.int .u64 y.n,.int .i64 (mC l y.w y.n).1,.bool false,.bool false]):=by rw[<-YL];exact J
      have a8:aq nx' M' M8:=by rw[<-YL];exact(by(repeat (refine aq.set ?_ af _));exact a7)
      clear YL a7 z9 ZB XC ZC;have hA8:aq nx M2 M8:=fun q hq=>by rw[a8 q af,hk q af af];exact a4 q af
      refine lG (f85 ρ (H2.agr (hA8.le hh)) af Wb af (Uj.agr (hA8.le hb)) af hc iu x y.w y.n) fun M9 n9 g2 g3=>?_
      have Ef:=(g2 (nx'+7) af).trans Ef;have a9:aq nx' M' M9:=a8.trans (g2.le af);clear g2 a8 hA8;obtain⟨mm,vY⟩:∃mm,mm=eO S e x y.w y.n:=⟨_,rfl⟩;rw[<-vY];have Vw:∀(b m w:Bool),io ao g0 4 .neq b (.bool m) (.bool w)=some (.bool (m != w)):=fun b m w=>by cases b<;>cases m<;>cases w<;>kernel_rfl
      refine iC R3 TB Ef t7 @iX Vw ?_;generalize DT:aG (aG M9 (nx'+7) _) (nx'+7) _=M10;have z11:gG M10 (nx'+7)=some (.row [.int .u64 y.w,.int .u64 y.n,.int .i64 (mC l y.w y.n).1,.bool mm,.bool (mm != was)]):=by rw[<-DT];exact J
      have y9:aq nx' M' M10:=by rw[<-DT];exact(by(repeat (refine aq.set ?_ af _));exact a9)
      clear DT a9 Ef;refine po ?_;refine mY R3 TB z11 t7 @iX ?_;refine CY ?_;refine Pw (ob [_,_] _ ?_);refine ti R3 t0 TB z11 ?_;refine FD (args:=[.agg (bi ⟨y.w,y.n,(mC l y.w y.n).1,mm,mm != was⟩)]) (by simp only[EU,bi];(refine mI R3 t0 ?_;try exact⟨⟩)) ?_;refine Eq.mp (congrFun (congrFun (congrFun (congrFun hY _) _) _) _) (EA rfl ?_);have hz6:=(y9 (nx+1) af).trans hz;have wS:l.drop j=y::l.drop (j+1):=by rw[drop_eq_getElem_cons af];congr 1;exact(List.getElem?_eq_some_iff.1 hy).2
      have h2:=Jp af;rw[Nat.add_sub_cancel,wS]at h2;simp only[gd,if_neg Bd,<-vY]at h2;have Jr:acc.length+1<=fE:=by simp only[fE];omega
      obtain⟨B,hB⟩:∃B,B=n9+12:=⟨_,rfl⟩;have Wa:=hv.up (N:=M10) (fun q _ hq=>y9 q hq) (hi':=n9) af;have Mb:=fun kk o o'=>fun(sT:n9<=kk)=>Wa.up (N:=aG (aG M10 kk o) kk o') (fun q _ hq=>by rw[aB,if_neg af,aB,if_neg af]) (Nat.le_refl _)
      have dX:=fun kk o o'=>fun(sT:n9<=kk)=>(Mb kk o o' sT).push ⟨y.w,y.n,(mC l y.w y.n).1,mm,mm != was⟩ ao 52 32 [.int .u64 0,.int .u64 0,.int .i64 0,.bool false,.bool false] af af rfl Jr rfl
      simp only[bi]at dX;have hpo:=fun(H:Hp) (key:Nat) (row:List XV) (hk:¬ key=nx+1)=>dG.push_old Wa (row:=row) (key:=key) H (q:=nx+1) (.inl af) (fun e=>hk e.symm)
      refine iC uo t8 hz6 @bi.eq_1 dX hpo ?_;refine⟨_,rfl,ob [_] _ ?_⟩;refine mI R3 @iX ?_;refine Iy ?_;refine iC R3 @iX @Df @Nf V4 bV ?_;refine Iy ?_;refine iC R3 @iX @Df @Nf V4 bV ?_;refine⟨l.length+1 - (j+2),af,j+2,mm,acc++[⟨y.w,y.n,(mC l y.w y.n).1,mm,mm != was⟩],_,af,rfl,af,fun _=>by rw[append_assoc];exact h2,am,t0,t1,t2,t3,t4,t6,rfl,t17,V3,rfl,rfl,?_,fun q hq cf=>?_,af⟩
      ·exact di.up ((Mb _ (.row []) (.row []) (Nat.le_refl _)).pushed _ af af rfl (by simp only[fE]at Jr;omega)) (fun q h1 _=>by rw[aB,if_neg af];rfl) (Nat.le_refl _)
      ·rw[if_neg (show ¬ aw (nx+1) q from fun e=>cf (Eq.symm e)),dG.push_old Wa _ (.inl hq) af,aB,if_neg af,aB,if_neg af,aB,if_neg af,y9 q af]
       exact hk q hq cf
   ·refine mY R3 @iX vT vU aL ?_
    refine po ?_;refine ti R3 @Qc @LC @Tk ?_;have gB:i=l.length+1:=af;refine⟨(fun id h=>by cases h),l,vv,UF.1,UF.2,hz,?_,fun q hq=>?_,af⟩
    ·have:=Jp af
     rw[gB,Nat.add_sub_cancel,drop_length]at this;rw[<-this];simp only[gd,append_nil];exact dG.keep hv fun q hq=>⟨rfl,by have:=hq.1;omega,by have:=hq.2;omega⟩
    ·rw[hk q af af,a4 q af]
     exact a2 q hq
 ·rintro M' n' ⟨l,vv,q1,q2,q3,q4,q5,q6⟩
  show qD _ _ _ _ _ _ _;have L4:=q4.cell;have F7:nx<=n':=af;refine Iy ?_;refine mY uo t8 q3 L4.1 L4.2 ?_;exact⟨l,q1,q2,di.wkLo (di.up q4 (fun q _ _=>J) (Nat.le_refl _)) af an,aq.set (k:=nx+1) q5 af _,an⟩
end
end Go.Xs
namespace Go.Xs
open List Nat Option
noncomputable section
open Go.Proofs
def gq (w n:Int) (s:dY):Bool:=decide (s.w=w)&&decide (s.n=n)
def jk (l:List dY) (w n:Int):Int:=eN (gq w n) l 0
def sE (l:List dY):List dY:=gV (fun _ s=>WY s) l 0
def jQ (l:List dY) (w n:Int):List dY:=if jk l w n<0 then [] else sE (l.take ((jk l w n).toNat+1))
def mi (l:List dY) (w n:Int):List dY:=if jk l w n<0 then [] else sE (l.drop ((jk l w n).toNat+1))
theorem mh (L:List bO) (q:Int->Int->Bool) (own:Int):∀(l:List bO) (was:Bool),(gd L q own l was).length<=l.length
 | [],_=>by simp[gd]
 | e::es,was=>by
   unfold gd;split
   ·have:=mh L q own es was
    simp only[length_cons];omega
   ·have:=mh L q own es (q e.w e.n)
    simp only[length_cons];omega
theorem nQ (q:Int->Int->Bool) (own:Int) (l:List bO):1<=(eo q own l).length/\(eo q own l).length<=l.length+1:=by
 have:=mh l q own l false;simp only[eo,length_cons];omega
theorem uU (l:List dY):(sE l).length<=l.length:=dS _ l 0
theorem lI:∀l:List dY,(l.flatMap bi).length=l.length*5
 | []=>rfl
 | a::l=>by rw[flatMap_cons,length_append,lI l,length_cons];simp[bi];omega
theorem xk {α:Type} {f:α->List XV} {sz:Nat} (hf:∀a,(f a).length=sz):∀(l:List α) (k:Nat),(l.flatMap f).drop (k*sz)=(l.drop k).flatMap f
 | [],k=>aj
 | a::l,0=>aj
 | a::l,k+1=>by
   rw[flatMap_cons,drop_succ_cons,show (k+1)*sz=(f a).length+k*sz by rw[hf,succ_mul,Nat.add_comm],drop_length_add_append,xk hf l k]
theorem f117 (hI:Ci) (ρ:aK) (j9:ρ.det=false) {M:Hp} {nx lo hi h b:Nat} {S:HS} (H:bX M lo hi h S) (hh:hi<=nx) (hn:By S) (Wb:oC S) (few:S.mods.length<=1000) {e:Ex} {cs:List XV} (he:bG M b e cs) (hb:b<=nx) (hc:dV e<=1000) (iu:gI e) (x own w n:Int) (ZR:∀i ∈ dk S S.mods x,1<=i.n)
 {R:List bO} (hR:∀l:List bO,l.Perm (dk S S.mods x)->l.Pairwise (fun a b=>a.wr<=b.wr)->l=R) :
 ar ao ρ 117 [.mp h 0,.agg cs,.int .u64 x,.int .u64 own,.agg [.int .u64 w,.int .u64 n]] M nx fun o=>∃va vb,o.1 = .tup [va,vb,.bool (decide (0<=jk (eo (eO S e x) own R) w n))]/\di o.2.1 nx o.2.2 va 5 bi (jQ (eo (eO S e x) own R) w n)/\di o.2.1 nx o.2.2 vb 5 bi (mi (eo (eO S e x) own R) w n)/\aq nx M o.2.1/\nx<=o.2.2:=by
 refine ar.closed fun cF hka=>?_
 have dI:∃k p q v,cs=[.int .i64 k,.int .u64 p,.int .u64 q,v]/\cellsOf v=[v]/\ax v=true:=by
  obtain⟨k,p,q,ps⟩:=e;have sx:=he;simp only[bG]at sx;obtain⟨v,row,rfl,cw,_⟩:=sx;exact⟨k,p,q,v,rfl,cw.cell.1,cw.cell.2⟩
 obtain⟨k,p,q,v,rfl,v1,v2⟩:=dI;refine ar.wk 35 [.tmp 10,.tmp 11,.tmp 12] Tryz.func117 ?_;refine Ao Tl v1 v2 ?_;generalize xu:aG (aG M nx _) (nx+1) _=M1;have a1:aq nx M M1:=by rw[<-xu];exact O
 have z0:gG M1 nx=some (.row [.int .i64 k,.int .u64 p,.int .u64 q,v]):=by rw[<-xu];exact J
 have z1:gG M1 (nx+1)=some (.row [.int .u64 w,.int .u64 n]):=by rw[<-xu];exact J
 clear xu;refine gQ (ni hI ρ j9 (H.agr (a1.le hh)) af hn Wb few (he.agr (a1.le hb)) af hc iu x own ZR).out ?_;rintro⟨u,M2,n2⟩ ⟨⟨l,q1,q2,g1,g2,g3⟩,AV,ZA⟩;simp only at g1 g2 g3 AV ZA;have Ul:=hR l q1 q2;have ay:l.length<=1000:=by
  rw[q1.length_eq];unfold dk;rw[length_map];exact Nat.le_trans (length_filter_le _ _) few
 subst Ul;clear hR q1 q2;obtain⟨r1,r2⟩:=nQ (eO S e x) own l;generalize eo (eO S e x) own l=row at g1 r1 r2 ⊢;obtain⟨w1,w2,⟨_,w3⟩ | ⟨K,rfl,⟨w3,w4⟩,w5⟩⟩:=id g1
 ·omega
 have z1:=(g2 (nx+1) af).trans z1;have a2:aq nx M M2:=a1.trans (g2.le af);clear g2 a1 z0;refine bR Tl ?_;refine gQ (X0 ρ (g1.at (Nat.le_refl n2)) af (gq w n) fun s _ N n' hN F7=>f178 ρ (kb:=nx+1) ((hN (nx+1) af).trans z1) af s).out ?_;rintro⟨u,M3,n3⟩ ⟨⟨h1,h2,h3⟩,XU,_⟩;simp only at h1 h2 h3 XU;subst h1;have z1:=(h2 (nx+1) af).trans z1;have a3:aq nx M M3:=a2.trans (h2.le af);have hK3:=(h2 K af).trans w5;have yG:Cl n3 M3:=XU;have je:=lI row;unfold jQ mi jk;have aL:=ta (gq w n) row 0;generalize eN (gq w n) row 0=j at aL ⊢;by_cases Tq:j<0
 ·refine mI Tl Tq ?_
  exact⟨.nils,.nils,am,dG.nil _ _,dG.nil _ _,a3,af⟩
 ·obtain⟨j,rfl⟩:∃j':Nat,j=(j':Int):=⟨j.toNat,af⟩
  have bV:=eF j;have Kg:∀N,qY ao N 52 (.sl K 5 0 row.length row.length) none (some (.int .i64 (j+1:Nat))) none=some ⟨.sl K 5 0 (j+1) row.length,[],[]⟩:=fun N=>by
   unfold qY;have e:(Int.ofNat (j+1))=((j+1:Nat):Int):=rfl;simp only[<-e,Lb,Tryz.underlying52,Kx.2.1];rw[show Nat.ble 0 (j+1)=true by rw[ble_eq];omega,show Nat.ble (j+1) row.length=true by rw[ble_eq];omega,show Nat.ble row.length row.length=true by rw[ble_eq];omega];simp;rfl
  have QJ:∀N,qY ao N 52 (.sl K 5 0 row.length row.length) (some (.int .i64 (j+1:Nat))) none none=some ⟨.sl K 5 ((j+1)*5) (row.length - (j+1)) (row.length - (j+1)),[],[]⟩:=fun N=>by
   unfold qY;have e:(Int.ofNat (j+1))=((j+1:Nat):Int):=rfl;simp only[<-e,Lb,Tryz.underlying52,Kx.2.1];rw[show Nat.ble (j+1) row.length=true by rw[ble_eq];omega,show Nat.ble row.length row.length=true by rw[ble_eq];omega];simp;rfl
  refine iQ Tl Tq bV @nN @Nr @Nb Kg QJ ?_;have hta:(row.take (j+1)).length=j+1:=by rw[length_take];omega
  have htb:(row.drop (j+1)).length=row.length - (j+1):=by rw[length_drop]
  have hA:∀N b,gG N K=some (.row (row.flatMap bi))->K<b->bE N b (.sl K 5 0 (j+1) row.length) 5 (row.take (j+1)).length ((row.take (j+1)).flatMap bi):=fun N b hN hKb =>
   ⟨af,.inr ⟨K,0,row.length,_,by rw[hta],hKb,by unfold vR;rw[hN],af,by rw[drop_zero,hta,nW (f:=bi) (sz:=5) (fun _=>rfl)]⟩⟩
  have hB:∀N b,gG N K=some (.row (row.flatMap bi))->K<b->bE N b (.sl K 5 ((j+1)*5) (row.length - (j+1)) (row.length - (j+1))) 5 (row.drop (j+1)).length ((row.drop (j+1)).flatMap bi):=fun N b hN hKb =>
   ⟨af,.inr ⟨K,(j+1)*5,row.length - (j+1),_,by rw[htb],hKb,by unfold vR;rw[hN],af,by rw[xk (f:=bi) (sz:=5) (fun _=>rfl),htb,take_of_length_le];rw[lI,htb];omega⟩⟩
  have kA:∀m a c d,n2<=m->aE m [.sl K 5 a c d]=true:=fun m a c d hm=>by
   have:Nat.blt K m=true:=by rw[blt_eq];omega
   simp only[aE,kltV,this]
  have hca:=uU (row.take (j+1));have hcb:=uU (row.drop (j+1));refine aT (bN.lst (l:=sE (row.take (j+1))) (enc:=bi) (sz:=5) (fun _=>rfl) (yG.le af) (kA _ _ _ _ af) fun N hN=>WV ρ (hA N (n3+3) ((hN K af).trans hK3) af) af af) ak ?_;refine gw Tl bV @nN @Nr @Nb Kg QJ ?_;have VF:=Ar (M:=M3) (nx:=n3+7) (enc:=bi) (sz:=5) (l:=sE (row.take (j+1))) (fun _=>rfl) af;have S2:=Gy (enc:=bi) (l:=sE (row.take (j+1))) (fun _=>rfl) (yG.le (show n3<=n3+7 by omega));have Qw:=oK (M:=M3) (nx:=n3+7) (enc:=bi) (l:=sE (row.take (j+1)));have Zs:=pD (nx:=n3+7) (l:=sE (row.take (j+1)));refine aT (bN.lst (l:=sE (row.drop (j+1))) (enc:=bi) (sz:=5) (fun _=>rfl) (S2.le af) (kA _ _ _ _ af) fun N hN=>WV ρ (hB N (n3+3) ((hN K af).trans ((Qw K af).trans hK3)) af) af af) ak ?_;have Gn:=Ar (M:=aY M3 (mb (n3+7) bi (sE (row.take (j+1))))) (nx:=ll (n3+7) (sE (row.take (j+1)))+4) (enc:=bi) (sz:=5) (l:=sE (row.drop (j+1))) (fun _=>rfl) af;have jX:=oK (M:=aY M3 (mb (n3+7) bi (sE (row.take (j+1))))) (nx:=ll (n3+7) (sE (row.take (j+1)))+4) (enc:=bi) (l:=sE (row.drop (j+1)));have hh2:=pD (nx:=ll (n3+7) (sE (row.take (j+1)))+4) (l:=sE (row.drop (j+1)));refine iQ Tl bV @nN @Nr @Nb Kg QJ @aA ?_;refine⟨_,_,aj,di.wkLo (VF.up (fun q h1 h2=>jX q af) (Nat.le_refl _)) af af,di.wkLo (Gn.up (fun _ _ _=>rfl) (Nat.le_refl _)) af af,a3.trans ((Qw.le af).trans (jX.le af)),af⟩
end
end Go.Xs
namespace Go.Xs
open List Nat Option
variable{M:Hp}{num:Int}
noncomputable section
open Go.Proofs
theorem qw.agr {M':Hp} {kb n:Nat} {k:my} (h:qw M kb k num) (ha:aq n M M') (hk:kb<n):qw M' kb k num:=by
 obtain⟨a,b,c,d,e,f⟩:=h;exact⟨a,b,c,d,e,(ha kb hk).trans f⟩
def Es (row:List dY) (k:my) (num:Int):List aF:=(jQ row k.w k.n).map (lg k num)++(mi row k.w k.n).map (kr k num)
theorem Bz (l:List dY) (w n:Int):(jQ l w n).length<=l.length:=by
 unfold jQ;split
 ·simp
 ·exact Nat.le_trans (uU _) (by rw[length_take];omega)
theorem Bg (l:List dY) (w n:Int):(mi l w n).length<=l.length:=by
 unfold mi;split
 ·simp
 ·exact Nat.le_trans (uU _) (by rw[length_drop];omega)
theorem PP {row:List dY} {k:my} (h:jk row k.w k.n<0):Es row k num=[]:=by
 unfold Es jQ mi;rw[if_pos h,if_pos h];rfl
theorem na:∀(es:List aF),(es.flatMap aM).all ax=true
 | []=>rfl
 | e::es=>by
   rw[flatMap_cons,all_append,na es];rfl
theorem f70 (hI:Ci) (ρ:aK) (j9:ρ.det=false) {nx lo hi h b:Nat} {S:HS} (H:bX M lo hi h S) (hh:hi<=nx) (hn:By S) (Wb:oC S) (few:S.mods.length<=1000) {e:Ex} {cs:List XV} (he:bG M b e cs) (hb:b<=nx) (hc:dV e<=1000) (iu:gI e) (k:my) (num:Int) (ZR:∀i ∈ dk S S.mods k.x,1<=i.n)
 {R:List bO} (hR:∀l:List bO,l.Perm (dk S S.mods k.x)->l.Pairwise (fun a b=>a.wr<=b.wr)->l=R) (ZN:R.length<=1000) :
 ar ao ρ 70 [.agg (cX k++(cs++[.int .i64 num])),.mp h 0] M nx (Ai nx M 9 aM (Es (eo (eO S e k.x) k.t R) k num)):=by
 have dI:∃k p q v,cs=[.int .i64 k,.int .u64 p,.int .u64 q,v]/\cellsOf v=[v]/\ax v=true:=by
  obtain⟨k,p,q,ps⟩:=e;have sx:=he;simp only[bG]at sx;obtain⟨v,row,rfl,cw,_⟩:=sx;exact⟨k,p,q,v,rfl,cw.cell.1,cw.cell.2⟩
 obtain⟨ek,ep,eq,v,rfl,v1,v2⟩:=dI;obtain⟨kk,sT⟩:∃kk,kk=k:=⟨_,rfl⟩;obtain⟨p1,p2,p3,p4,p5,p6,p7,p8⟩:=k;simp only[cX,cons_append,nil_append];refine ar.wk 38 [.tmp 4] Tryz.func70 ?_;refine Ao tH v1 v2 ?_;generalize xu:aG M nx _=M1;have a1:aq nx M M1:=by rw[<-xu];exact O
 have z0:qw M1 nx kk num:=by rw[<-xu,sT];exact⟨ek,ep,eq,v,⟨v1,v2⟩,J⟩
 clear xu;refine gQ (f117 hI ρ j9 (H.agr (a1.le hh)) af hn Wb few (he.agr (a1.le hb)) af hc iu p4 p3 p5 p6 ZR hR) ?_;rintro⟨u,M2,n2⟩ ⟨va,vb,q1,q2,q3,q4,q5⟩;simp only at q1 q2 q3 q4 q5;subst q1;have z2:=z0.agr q4 af;have a2:aq nx M M2:=a1.trans (q4.le af);have je:=(nQ (eO S e p4) p3 R).2;have JW:=Bz (eo (eO S e p4) p3 R) p5 p6;have NW:=Bg (eo (eO S e p4) p3 R) p5 p6;have sy:=PP (row:=eo (eO S e p4) p3 R) (k:=⟨p1,p2,p3,p4,p5,p6,p7,p8⟩) (num:=num);have pH:Es (eo (eO S e p4) p3 R) ⟨p1,p2,p3,p4,p5,p6,p7,p8⟩ num=(jQ (eo (eO S e p4) p3 R) p5 p6).map (lg kk num)++(mi (eo (eO S e p4) p3 R) p5 p6).map (kr kk num):=by rw[sT];rfl
 simp only at sy;clear hR sT z0 a1;generalize eo (eO S e p4) p3 R=row at q2 q3 je JW NW sy pH ⊢;generalize jQ row p5 p6=A at q2 JW pH ⊢;generalize mi row p5 p6=B at q3 NW pH ⊢;have VU:=q2.cell;have ZU:=q3.cell;by_cases Tq:jk row p5 p6<0
 ·have hd:decide (0<=jk row p5 p6)=false:=am
  refine iC tH hd VU.1 VU.2 ZU.1 ZU.2 ?_;rw[sy Tq];exact⟨fun _=>rfl,dG.nil _ _,a2,an⟩
 ·have hd:decide (0<=jk row p5 p6)=true:=am
  refine iC tH hd VU.1 VU.2 ZU.1 ZU.2 ?_;refine gQ (XP ρ (first:=[]) (caps:=[.mp nx 0]) (q2.at (Nat.le_refl n2)) af af (lg kk num) (fun s _ N n' hN F7=>Ov ρ (z2.agr hN af) af s)).out ?_;rintro⟨u,M3,n3⟩ ⟨⟨g0,g1,g2,g3⟩,yG,RP⟩;simp only at g0 g1 g2 g3 yG RP;have z3:=z2.agr g2 af;have a3:=a2.trans (g2.le af);have q3':=q3.at (Nat.le_refl n2);have S2:=g1.cell;refine Ao tH S2.1 S2.2 ?_;refine gQ (XP ρ (first:=[]) (caps:=[.mp nx 0]) (q3'.agr (g2.le af)) af af (kr kk num) (fun s _ N n' hN F7=>XO ρ (z3.agr hN af) af s)).out ?_;rintro⟨v2,M4,n4⟩ ⟨⟨g4,g5,g6,g7⟩,hcl4,Wi⟩;simp only at g4 g5 g6 g7 hcl4 Wi;have DX:=g1.up (N:=M4) (fun q _ hq=>g6 q af) (Nat.le_refl _);obtain⟨rds,mr,F8⟩:=g5.el3;have fF:=F8 M4 (fun _ _ _=>rfl);have Tp:(A.map (lg kk num)).length=A.length:=aj;have Ma:(B.map (kr kk num)).length=B.length:=aj;obtain⟨v',rd,us,dX,F7,_,j_,QT⟩:=DX.app g0 (fun q hq=>by have:=(mr q hq).1;omega) ao 29 72 [.int .i64 0,.int .i64 0,.int .i64 0,.int .u64 0,.int .u64 0,.int .u64 0,.int .u64 0,.int .u64 0,.int .i64 0] v2 (key:=n4) (B:=B.map (kr kk num)) af af rfl (by rw[Tp,Ma];simp only[fE];omega) (na _) (fun _=>rfl) af;have QT:=QT M4 (fun _ _ _=>rfl) af;have L4:=QT.cell;refine gw tH fF dX L4.1 L4.2 S2.1 S2.2 ?_;rw[pH];exact⟨F7,di.wkLo QT af an,fun q hq=>(eE fun h=>by have:=j_ q h;omega).trans ((g6 q af).trans (a3 q hq)),an⟩
end
end Go.Xs
namespace Go.Xs
open List Nat Option
variable{M M':Hp}{P:Program}{after:Array Edge}{env:eX}{i k n nx:Nat}{pos:String}{ty:TypeId}{ρ:aK}
noncomputable section
open Go.Proofs Go.Sort
instance insInh:Inhabited bO:=⟨⟨0,0,0,0⟩⟩
def cL (a b:bO):Bool:=decide (a.wr<b.wr)
theorem Fv:SWO ltInt:=⟨fun x=>by simp[ltInt],fun x y z h1 h2=>by simp only[ltInt,decide_eq_true_eq]at *;omega,fun x y z h1 h2=>by simp only[ltInt,decide_eq_false_iff_not]at *;omega⟩
theorem Fx:SWO cL:=⟨fun x=>by simp[cL],fun x y z h1 h2=>by simp only[cL,decide_eq_true_eq]at *;omega,fun x y z h1 h2=>by simp only[cL,decide_eq_false_iff_not]at *;omega⟩
def dQ (d:Array Int):bx:=.row (d.toList.map (XV.int .u64))
def dT (d:Array bO):bx:=.row (d.toList.flatMap aV)
def bK (nx k:Nat) (M M':Hp):Prop:=∀j,j<nx->j≠k->gG M' j=gG M j
theorem bK.refl (nx k:Nat) (M:Hp):bK nx k M M:=fun _ _ _=>rfl
theorem bK.trans {nx':Nat} {M'':Hp} (h:bK nx k M M') (h':bK nx' k M' M'') (hn:nx<=nx'):bK nx k M M'':=fun j hj hk=>(h' j af hk).trans (h j hj hk)
theorem bK.set (h:bK nx k M M') (o:bx):bK nx k M (aG M' k o):=fun j hj hk=>by
 rw[aB,if_neg (fun e:k=j=>hk e.symm)];exact h j hj hk
theorem bK.agr {nx':Nat} {M'':Hp} (h:bK nx k M M') (h':aq nx' M' M'') (hn:nx<=nx'):bK nx k M M'':=fun j hj hk=>(h' j af).trans (h j hj hk)
theorem bK.new {j:Nat} (h:bK nx k M M') (hj:nx<=j) (o:bx):bK nx k M (aG M' j o):=fun i hi hk=>by
 rw[aB,if_neg af];exact h i hi hk
structure qe (k n:Nat) (sv:XV) (off:Nat->Nat):Prop where
 ix:∀i,i<n->∀kd,br ao 79 sv (.int kd (i:Int))=some (.mp k (off i))
 ld:∀M (d:Array Int),gG M k=some (dQ d)->d.size=n->∀i,i<n->b_ ao M 31 (.mp k (off i))=some ⟨.int .u64 d[i]!,[k],[]⟩
 st:∀M (d:Array Int),gG M k=some (dQ d)->d.size=n->∀i,i<n->∀x,jG ao M 31 (.int .u64 x) (.mp k (off i))=some ⟨.udf,[k],[(k,some (dQ (d.setIfInBounds i x)))]⟩
structure pW (k n:Nat) (sv:XV) (off:Nat->Nat):Prop where
 ix:∀i,i<n->∀kd,br ao 247 sv (.int kd (i:Int))=some (.mp k (off i))
 ld:∀M (d:Array bO),gG M k=some (dT d)->d.size=n->∀i,i<n->b_ ao M 253 (.mp k (off i))=some ⟨.agg (aV d[i]!),[k],[]⟩
 st:∀M (d:Array bO),gG M k=some (dT d)->d.size=n->∀i,i<n->∀x,jG ao M 253 (.agg (aV x)) (.mp k (off i))=some ⟨.udf,[k],[(k,some (dT (d.setIfInBounds i x)))]⟩
theorem X4 (k n:Nat):qe k n (.sl k 1 0 n n) fun i=>i:=by
 have e23:sa ao 31=some (1,false):=dq.1;refine⟨fun i hi kd=>?_,fun M d hM hn i hi=>?_,fun M d hM hn i hi x=>?_⟩
 ·rw[cy,jM.2.2.2.1,ev _ _ _ _ _ af af];simp
 ·refine dB (cs:=d.toList.map (XV.int .u64)) (by simp only[vR,hM,dQ]) dq.1 ?_
  rw[getElem?_map,Array.getElem?_toList,getElem!_pos d i af,Array.getElem?_eq_getElem af];rfl
 ·have h3:bp (d.toList.map (XV.int .u64)) i [XV.int .u64 x]=(d.setIfInBounds i x).toList.map (XV.int .u64):=by
   rw[fa _ _ _ am,Array.toList_setIfInBounds,set_eq_take_append_cons_drop,if_pos am];simp[List.map_take,map_drop]
  simp only[uq,dq.2.1,hM,dQ];rw[xr k i 1 (.int .u64 x) _ rfl (by rw[length_map,Array.length_toList];omega) rfl,<-h3];rfl
theorem rq (l:List bO):(l.flatMap aV).length=l.length*4:=by
 induction l with
 | nil=>rfl
 | cons a l ih=>simp only[flatMap_cons,length_append,ih,length_cons];simp only[aV,length_cons,length_nil];omega
theorem ql (l:List bO) (i:Nat):(l.flatMap aV).drop (i*4)=(l.drop i).flatMap aV:=by
 induction l generalizing i with
 | nil=>simp
 | cons a l ih =>
   cases i with
   | zero=>simp
   | succ i =>
     rw[flatMap_cons,show (i+1)*4=(aV a).length+i*4 by simp[aV];omega,drop_length_add_append,ih];rfl
theorem xp (l:List bO) (i:Nat):(l.flatMap aV).take (i*4)=(l.take i).flatMap aV:=by
 induction l generalizing i with
 | nil=>simp
 | cons a l ih =>
   cases i with
   | zero=>simp
   | succ i =>
     rw[flatMap_cons,show (i+1)*4=(aV a).length+i*4 by simp[aV];omega,take_length_add_append,ih];rfl
theorem Yj (k n:Nat):pW k n (.sl k 4 0 n n) fun i=>i*4:=by
 refine⟨fun i hi kd=>?_,fun M d hM hn i hi=>?_,fun M d hM hn i hi x=>?_⟩
 ·rw[cy,v9.2.2.2.1,ev _ _ _ _ _ af af];simp
 ·have hl:=rq d.toList
  rw[fG (cs:=d.toList.flatMap aV) (by simp only[vR,hM,dT]) mz.1 (by rw[hl];simp;omega)];have e:d.toList.drop i=d[i]! :: d.toList.drop (i+1):=by
   rw[drop_eq_getElem_cons am,getElem!_pos d i af];rfl
  rw[ql,e];rfl
 ·have hl:=rq d.toList
  have h3:bp (d.toList.flatMap aV) (i*4) (aV x)=(d.setIfInBounds i x).toList.flatMap aV:=by
   rw[fa _ _ _ (by rw[hl];simp[aV];omega),Array.toList_setIfInBounds,set_eq_take_append_cons_drop,if_pos am,xp];simp only[flatMap_append,flatMap_cons];rw[<-ql];simp only[aV,length_cons,length_nil];rw[show (i+1)*4=i*4+(0+1+1+1+1) by omega]
  simp only[uq,mz.2.1,hM,dT];rw[xr k (i*4) 4 (.agg (aV x)) _ (by simp[cellsOf,aV]) (by rw[hl];simp;omega) (by simp[cellsOf,aV,ax]),<-h3];rfl
theorem O8 (n:Nat):Cl n (.nil:Hp):=fun k o h=>by
 rw[show gG (.nil:Hp) k=none from rfl]at h;cases h
theorem bN.pure {g:Nat} {args:List XV} {v:XV} (ha:aE nx args=true) (hv:kltV nx v=true) (h:∀N,ar P ρ g args N nx (fe nx N v)):bN P ρ g args M nx ⟨v,[],[]⟩ nx :=
 ⟨ha,rfl,(fun k hk=>by cases hk),Nat.le_refl _,(h _).1.forget (O8 nx) hv⟩
theorem bF {all os:List Oper} {log:jg} {G:XS->jg->Prop} {d:Option Nat} {c:Call} {g:Nat×Bool} (hg:a_ all env (some g)=some true) (hp:eV (.call c)=false) (h:CD P ρ n all os i env M nx log d G (ca env c)) :
 RD P ρ n all (⟨d,.call c,ty,pos,after,some g⟩::os) i ⟨env,M,nx⟩ log G:=by
 have h0:=(Dd (ty:=ty) (pos:=pos) (after:=after) hp).mpr h;unfold RD at h0 ⊢;simp only[a_]at h0;simp only[hg];exact h0
theorem cA {all os:List Oper} {log:jg} {G:XS->jg->Prop} {d:Nat} {op:Op} {g:Nat×Bool} (hg:a_ all env (some g)=some false) (hd:d<n) (h:RD P ρ n all os (i+1) ⟨aG env d .udf,M,nx⟩ log G) :
 RD P ρ n all (⟨some d,op,ty,pos,after,some g⟩::os) i ⟨env,M,nx⟩ log G:=by
 have hb:Nat.blt d n=true:=by rw[blt_eq];exact hd
 unfold RD;simp only[hg];exact⟨_,by simp only[cu,hb],h⟩
structure Is {α:Type} (x y:α):Prop where
 eq:x=y
theorem f74 (ρ:aK) (M:Hp) (nx:Nat) (x:Int):ar ao ρ 74 [.int .u64 x] M nx (fe nx M (.bool false)):=by
 refine ar.wk 6 [.tmp 2] Tryz.func74 ?_;refine fM Xz @fe.eq_1 ?_;exact⟨aq.refl _ _,af⟩
theorem f272 (ρ:aK) (M:Hp) (nx:Nat) (x y:Int):ar ao ρ 272 [.int .u64 x,.int .u64 y] M nx (fe nx M (.bool (ltInt x y))):=by
 refine ar.wk 17 [.tmp 4] Tryz.func272 ?_;refine dt Oo ?_;refine lG (f74 ρ _ _ x) fun M1 n1 g2 g3=>?_
 refine fM Oo @fe.eq_1 ?_;exact⟨rfl,g2.le af,af⟩
theorem f73 (ρ:aK) (M:Hp) (nx:Nat) (x:Int):ar ao ρ 73 [.int .i64 x] M nx (fe nx M (.bool false)):=by
 refine ar.wk 6 [.tmp 2] Tryz.func73 ?_;refine fM lK @fe.eq_1 ?_;exact⟨aq.refl _ _,af⟩
def xD (x y:Int):Int:=if x<y then -1 else if y<x then 1 else 0
theorem Xa (ρ:aK) (M:Hp) (nx:Nat) (x y:Int):ar ao ρ 34 [.int .i64 x,.int .i64 y] M nx (fe nx M (.int .i64 (xD x y))):=by
 refine ar.wk 20 [.tmp 4] Tryz.func34 ?_;refine dt lK ?_;refine lG (f73 ρ _ _ x) fun M1 n1 g2 g3=>?_
 refine dt lK ?_;refine lG (f73 ρ _ _ y) fun M2 n2 k2 k3=>?_
 have a2:aq nx M M2:=(g2.le af).trans (k2.le af);have n2:nx<=n2:=af;by_cases h1:x<y
 ·refine jz lK h1 @fe.eq_1 @xD.eq_1 ?_
  exact⟨a2,af⟩
 ·by_cases h2:y<x
  ·refine lO lK h1 h2 @fe.eq_1 @xD.eq_1 ?_
   exact⟨a2,af⟩
  ·refine lO lK h1 h2 @fe.eq_1 @xD.eq_1 ?_
   exact⟨a2,af⟩
theorem XQ (ρ:aK) (M:Hp) (nx:Nat) (a b:bO):ar ao ρ 129 [.agg (aV a),.agg (aV b)] M nx (fe nx M (.int .i64 (xD a.wr b.wr))):=by
 refine ar.wk 10 [.tmp 4] Tryz.func129 ?_;refine fM Kt @aV.eq_1 ?_;refine lG (Xa ρ _ _ a.wr b.wr) fun M1 n1 g2 g3=>?_
 refine fM Kt @fe.eq_1 ?_;exact⟨(fun j hj=>(g2 j af).trans J),af⟩
end
end Go.Xs
namespace Go.Xs
open List Nat Option
variable{M M':Hp}{P:Program}{b i j n nx p:Nat}{fs:List Fr}{s:XS}{α:Type}{ρ:aK}
noncomputable section
open Go.Proofs Go.Sort
theorem dK {x y:Nat} (h:x+y<=100000):IntKind.i64.wrap ((x:Int)+(y:Int))=((x+y:Nat):Int):=by rw[wrap_i64 af af];omega
theorem bu {x:Nat} (h:x<=100000):IntKind.i64.wrap ((x:Int)+1)=((x+1:Nat):Int):=by rw[wrap_i64 af af];omega
theorem dO {x y:Nat} (h:x<=100000) (hy:y<=x):IntKind.i64.wrap ((x:Int) - (y:Int))=((x - y:Nat):Int):=by rw[wrap_i64 af af];omega
theorem cN {x:Nat} (h:x<=100000) (hy:1<=x):IntKind.i64.wrap ((x:Int) - 1)=((x - 1:Nat):Int):=by rw[wrap_i64 af af];omega
theorem fQ {x:Nat} (h:x<=100000):IntKind.i64.wrap (((x+1:Nat):Int) - 1)=(x:Int):=by rw[wrap_i64 af af];omega
theorem eK {a b:bO} (h:cL a b=true):xD a.wr b.wr<0:=by
 simp only[cL,decide_eq_true_eq]at h;rw[xD,if_pos h];decide
theorem eQ {a b:bO} (h:cL a b=false):¬ xD a.wr b.wr<0:=by
 simp only[cL,decide_eq_false_iff_not]at h;rw[xD,if_neg h];split<;>decide
theorem iD [Inhabited α] {lt:α->α->Bool} (hi first root n:Nat) {d:Array α} (h:d.size=n):(siftDown lt hi first root d).size=n:=by
 induction root,d using siftDown.induct (lt:=lt) hi first with
 | case1 r d h1=>rw[siftDown,dif_pos h1];exact h
 | case2 r d h1 h2 h3=>rw[siftDown,dif_neg h1,if_pos h2,if_pos h3];exact h
 | case3 r d h1 h2 h3 h4 ih=>rw[siftDown,dif_neg h1,if_pos h2,if_neg h3,dif_pos h4];exact ih (by rw[swp_size];exact h)
 | case4 r d h1 h2 h3 h4=>rw[siftDown,dif_neg h1,if_pos h2,if_neg h3,dif_neg h4];exact h
 | case5 r d h1 h2 h3=>rw[siftDown,dif_neg h1,if_neg h2,if_pos h3];exact h
 | case6 r d h1 h2 h3 ih=>rw[siftDown,dif_neg h1,if_neg h2,if_neg h3];exact ih (by rw[swp_size];exact h)
def O2 (nx p:Nat) (M:Hp) (lo up:Nat) (r:ew):Prop:=∃(a b:Nat) (s:Int),r.1 = .tup [.int .i64 a,.int .i64 b]/\(lo<=a/\a<up/\lo<=b/\b<up)/\gG r.2.1 p=some (.row [.int .i64 s])/\bK nx p M r.2.1/\nx<=r.2.2
def O1 (nx p:Nat) (M:Hp) (lo up:Nat) (r:ew):Prop:=∃(a:Nat) (s:Int),r.1 = .int .i64 a/\(lo<=a/\a<up)/\gG r.2.1 p=some (.row [.int .i64 s])/\bK nx p M r.2.1/\nx<=r.2.2
def ot (nx:Nat) (M:Hp) (a b:Nat) (r:ew):Prop:=∃(p:Nat) (h:Int),r.1 = .tup [.int .i64 p,.int .i64 h]/\(a<=p/\p<b)/\aq nx M r.2.1/\nx<=r.2.2
theorem bK.get {k:Nat} {o:Option bx} (h:bK nx p M M') (hk:k<nx) (hp:k<p) (e:gG M k=o):gG M' k=o:=(h k hk af).trans e
theorem bK.below {n0:Nat} (h:bK nx p M M') (h0:n0<=nx) (hp:n0<=p):aq n0 M M':=fun j hj=>h j af af
theorem bB {id:Nat} {c:Code} {Q:bg->XS->Prop} (I:Nat->XS->Prop) (k:Nat) (bz:XS->Prop) (h0:I k s)
 (h:∀k s',I k s'->W P ρ n c [.lp I k,.bk id] (fun e s=>e = .normal/\bz s) s') (cont:∀s,bz s->T P ρ n fs Q .normal s):W P ρ n (.loop c) (.bk id::fs) Q s:=by
 have h1:W P ρ n (.loop c) [.bk id] (fun e s=>e = .normal/\bz s) s:=aC I k h0 h;refine cC _ _ _ _ (fun e s hk=>?_) h1;have hk:Cj id e = .normal/\bz s:=hk;have:=cont s hk.2;show pK P ρ n fs Q (Cj id e) s;rw[hk.1];exact this
def Rq {α:Type} [Inhabited α] (p:α->Bool) (d:Array α) (i j i' m:Nat):Prop:=i<=i'/\i'<=j+1/\m=j+1 - i'/\scanUp p d j i'=scanUp p d j i
def Rw {α:Type} [Inhabited α] (p:α->Bool) (d:Array α) (i j j' m:Nat):Prop:=i<=j'+1/\j'<=j/\m=j'/\scanDown p d i j'=scanDown p d i j
theorem gj [Inhabited α] {p:α->Bool} {d:Array α} (h:i<=j) (hp:p d[i]! = true):scanUp p d j i=scanUp p d j (i+1):=by rw[scanUp,if_pos (by simp[h,hp])]
theorem cM [Inhabited α] {p:α->Bool} {d:Array α} (h:¬ i<=j\/p d[i]! = false):scanUp p d j i=i:=by
 rw[scanUp,if_neg];rcases h with h | h
 ·simp[h]
 ·simp[h]
theorem eG [Inhabited α] {p:α->Bool} {d:Array α} (h:i<=j+1) (hp:p d[j+1]! = true):scanDown p d i (j+1)=scanDown p d i j:=by rw[scanDown,if_pos (by simp[h,hp])]
theorem bY [Inhabited α] {p:α->Bool} {d:Array α} (h:¬ i<=j\/p d[j]! = false):scanDown p d i j=j:=by
 cases j with
 | zero=>rfl
 | succ j =>
   rw[scanDown,if_neg];rcases h with h | h
   ·simp[h]
   ·simp[h]
theorem Dq [Inhabited α] {p q:α->Bool} (hq:∀x,q x = !p x) {d:Array α} {i2 j2:Nat} (h1:1<=i) (eS:i<=j+1) (bD:i2=scanUp p d j i) (f_:j2=scanDown q d i2 j) :
 i<=i2/\i2<=j+1/\j2<=j/\i2<=j2+1/\(i2<=j2->i2<j2):=by
 obtain⟨u1,u2,u3,u4⟩:=scanUp_spec p d j _ i rfl;obtain⟨v1,v2,v3,v4⟩:=scanDown_spec q d i2 j;rw[<-bD]at u1 u2 u3 u4;rw[<-f_]at v1 v2 v3 v4;have hu:=u2 eS;refine⟨u1,hu,v1,v2 hu,fun h=>?_⟩;have f1:=u4 af;have f2:=v4 h af;rw[hq]at f2;rcases Nat.lt_or_ge i2 j2 with h' | h'
 ·exact h'
 ·have e:i2=j2:=af
  rw[<-e,f1]at f2;cases f2
theorem Nc {c:Code} {Q:bg->XS->Prop} (Pre:XS->Prop) (h0:Pre s) (h:∀s,Pre s->W P ρ n c fs Q s):W P ρ n c fs Q s:=h s h0
def ScS {α:Type} [Inhabited α] (lt:α->α->Bool) (d:Array α) (b i i' m:Nat):Prop:=i<=i'/\i'<=b/\m=b - i'/\scanSorted lt d b i'=scanSorted lt d b i
theorem iU [Inhabited α] {lt:α->α->Bool} {d:Array α} (h:i<b) (hp:lt d[i]! d[i - 1]! = false):scanSorted lt d b i=scanSorted lt d b (i+1):=by rw[scanSorted,if_pos (by simp[h,hp])]
theorem dC [Inhabited α] {lt:α->α->Bool} {d:Array α} (h:¬ i<b\/lt d[i]! d[i - 1]! = true):scanSorted lt d b i=i:=by
 rw[scanSorted,if_neg];rcases h with h | h
 ·simp[h]
 ·simp[h]
theorem oE [Inhabited α] (lt:α->α->Bool) (d:Array α) (b:Nat):∀(m i:Nat),b - i=m->i<=b->i<=scanSorted lt d b i/\scanSorted lt d b i<=b:=by
 intro m
 induction m with
 | zero=>intro i h hi;rw[dC (.inl af)];omega
 | succ m ih =>
   intro i h hi;by_cases hp:lt d[i]! d[i - 1]! = true
   ·rw[dC (.inr hp)];omega
   ·rw[iU af (by simpa using hp)]
    have:=ih (i+1) af af;omega
def Vi {α:Type} [Inhabited α] (lt:α->α->Bool) (n i:Nat) (d3:Array α) (j m:Nat) (d':Array α):Prop:=j<i/\m=j/\d'.size=n/\shiftDown lt j d'=d3
def Vj {α:Type} [Inhabited α] (lt:α->α->Bool) (n b i:Nat) (d4:Array α) (j m:Nat) (d':Array α):Prop:=i<j/\j<=b/\m=b - j/\d'.size=n/\shiftUp lt b j d'=d4
theorem jO {α:Type} [Inhabited α] (lt:α->α->Bool) {n:Nat}:∀(j:Nat) (d:Array α),d.size=n->(shiftDown lt j d).size=n
 | 0,d,h=>h
 | j+1,d,h=>by
   unfold shiftDown;split
   ·exact h
   ·exact jO lt j _ (by rw[swp_size];exact h)
theorem qf [Inhabited α] (lt:α->α->Bool) (b:Nat):∀(m j:Nat) (d:Array α),b - j=m->d.size=n->(shiftUp lt b j d).size=n:=by
 intro m
 induction m with
 | zero=>intro j d hm h;rw[shiftUp,if_neg af];exact h
 | succ m ih =>
   intro j d hm h;rw[shiftUp,if_pos af];split
   ·exact h
   ·exact ih _ _ af (by rw[swp_size];exact h)
theorem jv [Inhabited α] {lt:α->α->Bool} {d:Array α} (h:j<b) (hq:lt d[j]! d[j - 1]! = true):shiftUp lt b j d=shiftUp lt b (j+1) (swp d j (j - 1)):=by
 rw[shiftUp,if_pos h,hq];rfl
end
end Go.Xs
namespace Go.Xs
open List Nat Option
variable{K:bg->XS->Prop}{P:Program}{fs:List Fr}{n:Nat}{s:XS}{ρ:aK}
noncomputable section
open Go.Proofs Go.Sort
def o6:List Nat:=(List.range 256).map bitsLen
theorem aan (x:Nat) (hx:x<256):nf ao 9 (.str o6) (.int .u8 (x:Int))=some (.int .u8 (bitsLen x:Nat)):=by
 have hu:ao.underlying 9=some .string:=U;have hl:o6.length=256:=by simp[o6]
 unfold nf;simp only[hu];rw[oY af (by rw[hl];omega)];have:o6[(x:Int).toNat]?=some (bitsLen x):=by simp[o6,hx]
 simp only[this]
theorem wh:∀x:Nat,x<4001->bitsLen x<=12:=by
 have h:((List.range 4001).all fun x=>decide (bitsLen x<=12))=true:=U;intro x hx;rw[List.all_eq_true]at h;simpa using h x (mem_range.2 hx)
theorem su:∀x:Nat,x<4001->256<=x->bitsLen x=8+bitsLen (x / 256):=by
 have h:((List.range 4001).all fun x=>decide (x<256)||decide (bitsLen x=8+bitsLen (x / 256)))=true:=U;intro x hx h2;rw[List.all_eq_true]at h;have:=h x (mem_range.2 hx);rw[Bool.or_eq_true,decide_eq_true_eq,decide_eq_true_eq]at this;omega
theorem rZ:∀x:Nat,x<4001->1<=x->2 ^ bitsLen x<=2*x:=by
 have h:((List.range 4001).all fun x=>decide (x=0)||decide (2 ^ bitsLen x<=2*x))=true:=U;intro x hx h2;rw[List.all_eq_true]at h;have:=h x (mem_range.2 hx);rw[Bool.or_eq_true,decide_eq_true_eq,decide_eq_true_eq]at this;omega
theorem f189 (ρ:aK) (M:Hp) (nx:Nat) (x:Nat) (hx:x<4001):ar ao ρ 189 [.int .u64 x] M nx (fe nx M (.int .i64 (bitsLen x:Nat))):=by
 refine ar.wk 25 [.tmp 2] Tryz.func189 ?_;have h1:¬ (4294967296:Int)<=x:=af;have h2:¬ (65536:Int)<=x:=af;have hb:=wh x hx;by_cases h3:(256:Int)<=x
 ·have hs:∀k',bj .shr .u64 (x:Int) k' 8=some (.int .u64 ((x / 256:Nat):Int)):=fun k'=>by
   have e:((x:Int).fdiv (2 ^ 8))=((x / 256:Nat):Int):=by rw[Int.fdiv_eq_ediv_of_nonneg _ ak];omega
   exact congrArg (fun z=>some (XV.int .u64 z)) e
  have hu:IntKind.u8.wrap ((x / 256:Nat):Int)=((x / 256:Nat):Int):=by rw[IntKind.wrap_u8];omega
  have hw:IntKind.i64.wrap ((bitsLen (x / 256):Nat):Int)=((bitsLen (x / 256):Nat):Int):=wrap_i64 af (by have:=su x hx af;omega);have bV:IntKind.i64.wrap (8+((bitsLen (x / 256):Nat):Int))=((bitsLen x:Nat):Int):=by
   have:=su x hx af;rw[wrap_i64 af af];omega
  have h8:IntKind.i64.wrap (0+8)=8:=ak;refine gw oZ h1 h2 h3 hs hu h8 ?_;generalize hS:List.map (fun c:UInt8=>c.toNat) _=S;have vV:S=o6:=by rw[<-hS];kernel_rfl
  subst vV;clear hS;have bC:=aan (x / 256) af;refine iC oZ bC hw bV h8 @fe.eq_1 ?_;exact⟨aq.refl _ _,af⟩
 ·have hu:IntKind.u8.wrap (x:Int)=(x:Int):=by rw[IntKind.wrap_u8];omega
  have hw:IntKind.i64.wrap ((bitsLen x:Nat):Int)=((bitsLen x:Nat):Int):=wrap_i64 af af;have bV:IntKind.i64.wrap (0+((bitsLen x:Nat):Int))=((bitsLen x:Nat):Int):=by rw[wrap_i64 af af];omega
  refine mY oZ h1 h2 h3 hu ?_;generalize hS:List.map (fun c:UInt8=>c.toNat) _=S;have vV:S=o6:=by rw[<-hS];kernel_rfl
  subst vV;clear hS;have bC:=aan x af;refine mY oZ bC hw bV @fe.eq_1 ?_;exact⟨aq.refl _ _,af⟩
theorem XW (ρ:aK) (M:Hp) (nx:Nat) (x:Nat) (hx:x<4001):ar ao ρ 122 [.int .u64 x] M nx (fe nx M (.int .i64 (bitsLen x:Nat))):=by
 refine ar.wk 8 [.tmp 2] Tryz.func122 ?_;refine bR XM ?_;refine lG (f189 ρ _ _ x hx) fun M1 n1 g2 g3=>?_
 refine mI XM @fe.eq_1 ?_;exact⟨g2.le af,af⟩
theorem f262 (ρ:aK) (M:Hp) (nx:Nat) (x:Nat) (hx:x<4001):ar ao ρ 262 [.int .i64 x] M nx (fe nx M (.int .u64 (2 ^ bitsLen x:Nat))):=by
 have hu:IntKind.u64.wrap (x:Int)=(x:Int):=wrap_u64 af af;have hb:=wh x hx;have hp:2 ^ bitsLen x<=2 ^ 12:=Nat.pow_le_pow_right ak hb;have hs:∀k',bj .shl .u64 1 k' ((bitsLen x:Nat):Int)=some (.int .u64 ((2 ^ bitsLen x:Nat):Int)):=fun k'=>by
  have e:IntKind.u64.wrap (1*2 ^ (min ((bitsLen x:Nat):Int).toNat IntKind.u64.bits))=((2 ^ bitsLen x:Nat):Int):=by
   rw[show min ((bitsLen x:Nat):Int).toNat IntKind.u64.bits=bitsLen x by show min _ 64=_;omega,Int.one_mul];have:(2:Int) ^ bitsLen x=((2 ^ bitsLen x:Nat):Int):=aj;rw[this];generalize 2 ^ bitsLen x=q at hp;exact wrap_u64 af af
  have n0:decide (((bitsLen x:Nat):Int)<0)=false:=aj;simp only[bj,n0,e]
 refine ar.wk 7 [.tmp 2] Tryz.func262 ?_;refine mI Ss hu ?_;refine lG (XW ρ _ _ x hx) fun M1 n1 g2 g3=>?_
 refine Ao Ss hs @fe.eq_1 ?_;exact⟨g2.le af,af⟩
def Nw (nx p:Nat) (M:Hp) (o:ew):Prop:=∃r',o.1 = .int .u64 r'/\gG o.2.1 p=some (.row [.int .u64 r'])/\bK nx p M o.2.1/\nx<=o.2.2
theorem f263 (ρ:aK) {M:Hp} {nx p:Nat} {r:Int} (hp:gG M p=some (.row [.int .u64 r])):ar ao ρ 263 [.mp p 0] M nx (Nw nx p M):=by
 have s1:∀(a:Int) k',bj .shl .u64 a k' 13=some (.int .u64 (IntKind.u64.wrap (a*2 ^ 13))):=fun a k'=>rfl
 have s2:∀(a:Int) k',bj .shr .u64 a k' 7=some (.int .u64 (a.fdiv (2 ^ 7))):=fun a k'=>rfl
 have s3:∀(a:Int) k',bj .shl .u64 a k' 17=some (.int .u64 (IntKind.u64.wrap (a*2 ^ 17))):=fun a k'=>rfl
 have s4:∀(a b:Int),bj .xor .u64 a .u64 b=some (.int .u64 (uC .xor .u64 a b)):=fun a b=>rfl
 refine ar.wk 33 [.tmp 2] Tryz.func263 ?_;refine gw LW hp s1 s2 s3 s4 @Nw.eq_1 ?_;exact⟨_,rfl,rfl,(((bK.refl _ _ _).set _).set _).set _,af⟩
theorem Hr (x:Int) (m:Nat) (hm:m<1000000):∃o:Nat,uC .and .u64 x (m:Int)=(o:Int)/\o<=m:=by
 have hb:(BitVec.ofInt IntKind.u64.bits x &&& BitVec.ofInt IntKind.u64.bits (m:Int)).toNat<=m:=by
  rw[BitVec.toNat_and];refine Nat.le_trans and_le_right ?_;rw[BitVec.ofInt_natCast,BitVec.toNat_ofNat];exact mod_le _ _
 refine⟨_,?_,hb⟩;exact wrap_u64 af af
def lP (bz:XS->Prop) (K:bg->XS->Prop):bg->XS->Prop
 | .normal,s=>bz s
 | .ret,s=>K .ret s
 | .exit i,s=>K (.exit i) s
theorem bU {bz:XS->Prop}:lP bz K .normal s=bz s:=rfl
theorem cd {bz:XS->Prop}:lP bz K .ret s=K .ret s:=rfl
theorem bQ {bz:XS->Prop} {i:Nat}:lP bz K (.exit i) s=K (.exit i) s:=rfl
theorem jy {f f':XS->Prop} {K':bg->XS->Prop} (hf:∀s,f s->f' s) (hK:∀e s,e ≠ .normal->K e s->K' e s):∀e s,fx f K e s->fx f' K' e s
 | .normal,s,h=>hf s h
 | .ret,s,h=>hK _ s aj h
 | .exit i,s,h=>hK _ s aj h
theorem qr {bz f:XS->Prop} (h:∀s,bz s->f s):∀e s,lP bz K e s->fx f K e s
 | .normal,s,q=>h s q
 | .ret,_,q=>q
 | .exit _,_,q=>q
theorem lA {bz:XS->Prop}:∀e s,e ≠ .normal->lP bz K e s->K e s
 | .normal,_,q,_=>(q rfl).elim
 | .ret,_,_,h=>h
 | .exit _,_,_,h=>h
theorem yo {a rest:Code} {Q:bg->XS->Prop} (bz:XS->Prop) (h:W P ρ n a [] (lP bz fun e s=>T P ρ n fs Q e s) s) (cont:∀s,bz s->W P ρ n rest fs Q s) :
 W P ρ n (.seq a rest) fs Q s:=by
 have h:wx P ρ n a (lP bz (pK P ρ n fs Q)) s:=h;show wx P ρ n a (fx (wx P ρ n rest (pK P ρ n fs Q)) (pK P ρ n fs Q)) s;exact cC _ _ _ _ (qr cont) h
theorem yz {a b rest:Code} {Q:bg->XS->Prop} (bz:XS->Prop) (h:W P ρ n (.seq a b) [] (lP bz fun e s=>T P ρ n fs Q e s) s) (cont:∀s,bz s->W P ρ n rest fs Q s) :
 W P ρ n (.seq a (.seq b rest)) fs Q s:=by
 have h:wx P ρ n a (fx (wx P ρ n b (lP bz (pK P ρ n fs Q))) (lP bz (pK P ρ n fs Q))) s:=h;show wx P ρ n a (fx (wx P ρ n b (fx (wx P ρ n rest (pK P ρ n fs Q)) (pK P ρ n fs Q))) (pK P ρ n fs Q)) s;exact cC _ _ _ _ (jy (fun s=>cC _ _ _ _ (qr cont)) lA) h
theorem IF {a b c d rest:Code} {Q:bg->XS->Prop} (bz:XS->Prop) (h:W P ρ n (.seq a (.seq b (.seq c d))) [] (lP bz fun e s=>T P ρ n fs Q e s) s) (cont:∀s,bz s->W P ρ n rest fs Q s) :
 W P ρ n (.seq a (.seq b (.seq c (.seq d rest)))) fs Q s:=by
 have h:wx P ρ n a (fx (wx P ρ n b (fx (wx P ρ n c (fx (wx P ρ n d (lP bz (pK P ρ n fs Q))) (lP bz (pK P ρ n fs Q)))) (lP bz (pK P ρ n fs Q)))) (lP bz (pK P ρ n fs Q))) s:=h;show wx P ρ n a (fx (wx P ρ n b (fx (wx P ρ n c (fx (wx P ρ n d (fx (wx P ρ n rest (pK P ρ n fs Q)) (pK P ρ n fs Q))) (pK P ρ n fs Q))) (pK P ρ n fs Q))) (pK P ρ n fs Q)) s;exact cC _ _ _ _ (jy (fun s=>cC _ _ _ _ (jy (fun s=>cC _ _ _ _ (jy (fun s=>cC _ _ _ _ (qr cont)) lA)) lA)) lA) h
def Rnd {α:Type} [Inhabited α] (lt:α->α->Bool) (a b:Nat) (d:Array α) (x y:Nat) (d':Array α):Prop:=∀R,PermIn x y d' R->SortedIn lt x y R->PermIn a b d R/\SortedIn lt a b R
def RZ {α:Type} [Inhabited α] (lt:α->α->Bool) (a b n:Nat) (d:Array α) (m x y:Nat) (d':Array α):Prop:=a<=x/\x<=y/\y<=b/\m=y - x/\d'.size=n/\Below lt x y d'/\Rnd lt a b d x y d'
def PmD {α:Type} [Inhabited α] (n x y:Nat) (d d':Array α):Prop:=12<y - x/\d'.size=n/\PermIn x y d d'
def U6 {α:Type} [Inhabited α] (n x y p:Nat) (d d':Array α):Prop:=12<y - x/\(x<=p/\p<y)/\d'.size=n/\PermIn x y d d'
end
end Go.Xs
namespace Go.Xs
open List Nat Option
noncomputable section
open Go.Proofs
theorem XB (ρ:aK) (M:Hp) (nx:Nat) (c:XV):ar ao ρ 180 [.nils,.int .i64 0,.int .i64 0,c] M nx (fe nx M (.tup [])):=by
 refine ar.wk 53 [] Tryz.func180 ?_;refine bR El ?_;refine aC (fun m s=>m=0/\gG s.env 2=some (.int .i64 0)/\gG s.env 8=some (.int .i64 1)/\aq nx M s.M/\nx<=s.nx) 0 ⟨rfl,?_⟩ ?_
 ·refine bR El ?_
  exact⟨rfl,aq.refl _ _,af⟩
 ·rintro m ⟨env,M',nx'⟩ ⟨rfl,e2,e8,ha,hn⟩
  simp only at e2 e8 ha hn;refine ti El e2 e8 @fe.eq_1 ?_;exact⟨ha,af⟩
theorem Wt (ρ:aK) (M:Hp) (nx:Nat) (l c:XV):ar ao ρ 121 [.nils,.int .i64 0,.int .i64 0,l,c] M nx (fe nx M (.tup [])):=by
 refine ar.wk 148 [] Tryz.func121 ?_;refine bR SF ?_;refine aC (fun m s=>m=0/\gG s.env 0=some .nils/\gG s.env 1=some (.int .i64 0)/\gG s.env 2=some (.int .i64 0)/\gG s.env 4=some c/\aq nx M s.M/\nx<=s.nx) 0 ⟨rfl,?_⟩ ?_
 ·refine bR SF ?_
  exact⟨aq.refl _ _,af⟩
 ·rintro m ⟨env,M',nx'⟩ ⟨rfl,e0,e1,e2,e4,ha,hn⟩
  simp only at e0 e1 e2 e4 ha hn;have hw:IntKind.i64.wrap (0 - 0)=0:=rfl;refine iC SF e0 e1 e2 e4 hw ?_;refine lG (XB ρ _ _ c) fun M2 n2 g2 g3=>?_
  refine mI SF @fe.eq_1 ?_;exact⟨ha.trans (g2.le af),af⟩
theorem f71n (ρ:aK) (M:Hp) (nx:Nat) (c:XV):ar ao ρ 71 [.nils,c] M nx (fe nx M (.tup [])):=by
 refine ar.wk 14 [] Tryz.func71 ?_;refine bR S4 ?_;refine lG (XW ρ _ _ 0 af) fun M2 n2 g2 g3=>?_
 refine bR S4 ?_;refine lG (Wt ρ _ _ _ c) fun M3 n3 g5 g6=>?_
 refine mI S4 @fe.eq_1 ?_;exact⟨(g2.le af).trans (g5.le af),af⟩
end
end Go.Xs
namespace Go.Xs
open List Nat Option
variable{hi:Nat}
noncomputable section
open Go.Proofs Go.Sort
variable {α:Type} [Inhabited α]
def yh (rwo:Array α->bx) (nx k:Nat) (M:Hp) (d':Array α) (r:ew):Prop:=r.1 = .tup []/\(gG r.2.1 k=some (rwo d')/\d'.size<=4000)/\bK nx k M r.2.1/\nx<=r.2.2
def LA (rwo:Array α->bx) (nx k:Nat) (M:Hp) (v:XV) (d':Array α) (r:ew):Prop:=r.1=v/\(gG r.2.1 k=some (rwo d')/\d'.size<=4000)/\bK nx k M r.2.1/\nx<=r.2.2
def To (lt:α->α->Bool) (a b n:Nat) (d0:Array α) (m i:Nat) (d':Array α):Prop:=a<i/\i<=b+1/\m=b+1 - i/\d'.size=n/\insOuter lt a b i d'=insertionSort lt d0 a b
def S3 (a b n:Nat) (d0:Array α) (m i j:Nat) (d':Array α):Prop:=a<=i/\i<=j+1/\j<b/\m=j+1 - i/\d'.size=n/\reverseLoop i j d'=reverseRange d0 a b
def aaa (lt:α->α->Bool) (hi first root n:Nat) (d0:Array α) (m r:Nat) (d':Array α):Prop:=r<=4000/\m=hi - r/\d'.size=n/\siftDown lt hi first r d'=siftDown lt hi first root d0
theorem SW {lt:α->α->Bool} {first r:Nat} {d:Array α} (h:¬ hi<=2*r+1) (h2:2*r+2<hi) (h3:lt d[first+(2*r+1)]! d[first+(2*r+2)]! = true) :
 siftDown lt hi first r d=if (!lt d[first+r]! d[first+(2*r+2)]!)=true then d else siftDown lt hi first (2*r+2) (swp d (first+r) (first+(2*r+2))):=by
 rw[siftDown,dif_neg h,if_pos (by rw[show first+(2*r+1)+1=first+(2*r+2) by omega,h3];simp;omega),dif_pos h2]
theorem R1 {lt:α->α->Bool} {first r:Nat} {d:Array α} (h:¬ hi<=2*r+1) (h2:¬ (2*r+2<hi/\lt d[first+(2*r+1)]! d[first+(2*r+2)]! = true)) :
 siftDown lt hi first r d=if (!lt d[first+r]! d[first+(2*r+1)]!)=true then d else siftDown lt hi first (2*r+1) (swp d (first+r) (first+(2*r+1))):=by
 rw[siftDown,dif_neg h,if_neg (by rw[show first+(2*r+1)+1=first+(2*r+2) by omega];simpa using h2)]
def aaf (lt:α->α->Bool) (a b n:Nat) (d0:Array α) (m kk:Nat) (d':Array α):Prop:=kk<=4000/\m=kk/\d'.size=n/\heapPop lt a (b - a) (heapBuild lt (b - a) a kk d')=heapSort lt d0 a b
def aab (lt:α->α->Bool) (a b n:Nat) (d0:Array α) (m kk:Nat) (d':Array α):Prop:=kk<=b - a/\m=kk/\d'.size=n/\heapPop lt a kk d'=heapSort lt d0 a b
def TH (lt:α->α->Bool) (a b n:Nat) (R:Nat×Array α) (m i j:Nat) (d':Array α):Prop:=a<i/\i<=j+1/\j<b/\m=j+1 - i/\d'.size=n/\partEqLoop lt a i j d'=R
def aae (lt:α->α->Bool) (a b n:Nat) (R:Nat×Array α) (m i j:Nat) (d':Array α):Prop:=a<i/\i<=j+1/\j<b/\m=j+1 - i/\d'.size=n/\partLoop lt a i j d'=R
def aad (lt:α->α->Bool) (a b n:Nat) (R:Array α×Bool) (m jj i:Nat) (d':Array α):Prop:=a<i/\i<=b/\jj<=5/\m=5 - jj/\d'.size=n/\partialIns lt a b (5 - jj) i d'=R
def Sw (rwo:Array α->bx) (nx k n:Nat) (M:Hp) (a b:Nat) (d:Array α) (r:ew):Prop:=r.1 = .tup []/\(∃d':Array α,d'.size=n/\PermIn a b d d'/\gG r.2.1 k=some (rwo d'))/\bK nx k M r.2.1/\nx<=r.2.2
def aag (a b n:Nat) (d:Array α) (i0 m i:Nat) (d':Array α):Prop:=i0<=i/\i<=i0+3/\m=i0+3 - i/\d'.size=n/\PermIn a b d d'
def Mf (lt:α->α->Bool) (rwo:Array α->bx) (nx k n:Nat) (M:Hp) (a b:Nat) (d:Array α) (r:ew):Prop:=r.1 = .tup []/\(∃d':Array α,d'.size=n/\(PermIn a b d d'/\SortedIn lt a b d')/\gG r.2.1 k=some (rwo d'))/\bK nx k M r.2.1/\nx<=r.2.2
structure Sy (tS tE:Nat) (rwo:Array α->bx) (enc:α->XV) (k n:Nat) (sv:XV) (off:Nat->Nat):Prop where
 ix:∀i,i<n->∀kd,br ao tS sv (.int kd (i:Int))=some (.mp k (off i))
 ld:∀M (d:Array α),gG M k=some (rwo d)->d.size=n->∀i,i<n->b_ ao M tE (.mp k (off i))=some ⟨enc d[i]!,[k],[]⟩
 st:∀M (d:Array α),gG M k=some (rwo d)->d.size=n->∀i,i<n->∀x,jG ao M tE (enc x) (.mp k (off i))=some ⟨.udf,[k],[(k,some (rwo (d.setIfInBounds i x)))]⟩
theorem Sy.sw {tS tE:Nat} {rwo:Array α->bx} {enc:α->XV} {k n:Nat} {sv:XV} {off:Nat->Nat} (A:Sy tS tE rwo enc k n sv off) (M:Hp) (d:Array α) (hM:gG M k=some (rwo d)) (hd:d.size=n) {i j:Nat} (hi:i<n) (hj:j<n) :
 (∀kd,br ao tS sv (.int kd (i:Int))=some (.mp k (off i)))/\(∀kd,br ao tS sv (.int kd (j:Int))=some (.mp k (off j))) /\
 b_ ao M tE (.mp k (off i))=some ⟨enc d[i]!,[k],[]⟩/\b_ ao M tE (.mp k (off j))=some ⟨enc d[j]!,[k],[]⟩ /\
 jG ao M tE (enc d[j]!) (.mp k (off i))=some ⟨.udf,[k],[(k,some (rwo (d.setIfInBounds i d[j]!)))]⟩ /\
 jG ao (aG M k (rwo (d.setIfInBounds i d[j]!))) tE (enc d[i]!) (.mp k (off j))=some ⟨.udf,[k],[(k,some (rwo ((d.setIfInBounds i d[j]!).setIfInBounds j d[i]!)))]⟩ :=
 ⟨A.ix i hi,A.ix j hj,A.ld M d hM hd i hi,A.ld M d hM hd j hj,A.st M d hM hd i hi _,A.st _ _ (by rw[aB,if_pos rfl]) am j hj _⟩
structure AU (ρ:aK) (lt:Int->Int->Bool) (rwo:Array Int->bx) (enc:Int->XV) (k n:Nat) (sv:XV) (off:Nat->Nat):Prop extends Sy 79 31 rwo enc k n sv off where
 cs:∀N nx x y,bN ao ρ 272 [enc x,enc y] N nx ⟨.bool (lt x y),[],[]⟩ nx
 hT:∀{x y},lt x y=true->lt x y=true
 hF:∀{x y},lt x y=false->lt x y=false
 swo:SWO lt
structure AI (ρ:aK) (lt:bO->bO->Bool) (rwo:Array bO->bx) (enc:bO->XV) (c:bO->bO->Int) (k n:Nat) (sv:XV) (off:Nat->Nat):Prop extends Sy 247 253 rwo enc k n sv off where
 cs:∀N nx x y,bN ao ρ 129 [enc x,enc y] N nx ⟨.int .i64 (c x y),[],[]⟩ nx
 hT:∀{x y},lt x y=true->c x y<0
 hF:∀{x y},lt x y=false->¬ c x y<0
 swo:SWO lt
theorem au (ρ:aK) (k n:Nat):AU ρ ltInt dQ (XV.int .u64) k n (.sl k 1 0 n n) fun i=>i :=
 ⟨⟨(X4 k n).ix,(X4 k n).ld,(X4 k n).st⟩,fun _ _ _ _=>bN.pure rfl rfl fun N=>f272 ρ N _ _ _,fun h=>h,fun h=>h,Fv⟩
theorem ai (ρ:aK) (k n:Nat):AI ρ cL dT (fun e=>.agg (aV e)) (fun x y=>xD x.wr y.wr) k n (.sl k 4 0 n n) fun i=>i*4 :=
 ⟨⟨(Yj k n).ix,(Yj k n).ld,(Yj k n).st⟩,fun _ _ _ _=>bN.pure rfl rfl fun N=>XQ ρ N _ _ _,eK,eQ,Fx⟩
end
end Go.Xs
namespace Go.Xs
open List Nat Option
variable{M:Hp}{b nx:Nat}{v:XV}
noncomputable section
open Go.Proofs Go.Sort
def Lp:List Int->Int
 | []=>0
 | x::l=>if x=0 then Lp l else x
theorem X7 (ρ:aK) (M:Hp) (nx:Nat) (x y:Int):ar ao ρ 35 [.int .u64 x,.int .u64 y] M nx (fe nx M (.int .i64 (xD x y))):=by
 refine ar.wk 20 [.tmp 4] Tryz.func35 ?_;refine dt Xz ?_;refine lG (f74 ρ _ _ x) fun M1 n1 g2 g3=>?_
 refine dt Xz ?_;refine lG (f74 ρ _ _ y) fun M2 n2 k2 k3=>?_
 have a2:aq nx M M2:=(g2.le af).trans (k2.le af);have n2:nx<=n2:=af;by_cases h1:x<y
 ·refine jz Xz h1 @fe.eq_1 @xD.eq_1 ?_
  exact⟨a2,af⟩
 ·by_cases h2:y<x
  ·refine lO Xz h1 h2 @fe.eq_1 @xD.eq_1 ?_
   exact⟨a2,af⟩
  ·refine lO Xz h1 h2 @fe.eq_1 @xD.eq_1 ?_
   exact⟨a2,af⟩
theorem f72 (ρ:aK) {l:List Int} (cw:bE M b v 1 l.length (l.map (XV.int .i64))) (hb:b<=nx):ar ao ρ 72 [v] M nx (fe nx M (.int .i64 (Lp l))):=by
 have ay:=fun N=>cw.len (P:=ao) (t:=88) Av.2.2.2.2.2 N
 have hz:=cw.1;refine ar.wk 18 [.tmp 2] Tryz.func72 ?_;refine fM jV ay ?_;refine aC (fun m s=>∃i:Nat,i<=l.length/\m=l.length - i/\Lp (l.drop i)=Lp l/\gG s.env 3=some (.int .i64 0)/\gG s.env 6=some v/\gG s.env 7=some (.int .i64 l.length)/\gG s.env 8=some (.int .i64 i)/\aq nx M s.M/\nx<=s.nx)
  l.length ⟨0,af,af,aj,?_⟩ ?_
 ·refine dt jV ?_
  exact⟨aq.refl _ _,af⟩
 ·rintro m ⟨env,M',nx'⟩ ⟨i,hi,hm,pA,e3,e6,e7,e8,ha,hn⟩
  simp only at e3 e6 e7 e8 ha hn;by_cases aL:(i:Int)<l.length
  ·have aP:i<l.length:=af
   obtain⟨e,gA⟩:∃e,l[i]?=some e:=⟨l[i],by simp[aP]⟩;obtain⟨n,o,jw,bC,aU⟩:=cw.fld (P:=ao) aP (t:=88) Av.2.2.2.1;have aU:=aU 0 (.int .i64 e) af (by simp[gA]) 3 1 dA.1 M' (ha.le hb);rw[Nat.add_zero]at aU;have bV:=eF i;have bw:Lp (l.drop i)=if e=0 then Lp (l.drop (i+1)) else e:=by
    rw[drop_eq_getElem_cons aP,(List.getElem?_eq_some_iff.1 gA).2];rfl
   by_cases h0:e=0
   ·subst h0
    refine wT jV e3 e6 e7 e8 aL bC aU bV ?_;exact⟨l.length - (i+1),af,i+1,af,rfl,by rw[<-pA,bw];rfl,rfl,ha,af⟩
   ·refine rf jV e3 e6 e7 e8 aL bC aU h0 @fe.eq_1 ?_
    exact⟨by rw[<-pA,bw,if_neg h0],ha,af⟩
  ·refine ky jV e3 e6 e7 e8 aL @fe.eq_1 ?_
   refine⟨?_,ha,af⟩;rw[<-pA,drop_eq_nil_of_le af];rfl
theorem f33 (ρ:aK) {l:List Int} (cw:bE M b v 1 l.length (l.map (XV.int .i64))) (hb:b<=nx):ar ao ρ 33 [v] M nx (fe nx M (.int .i64 (Lp l))):=by
 refine ar.wk 5 [.tmp 2] Tryz.func33 ?_;refine Pr ?_;refine lG (f72 ρ cw af) fun M1 n1 g2 g3=>?_
 refine dt @fe.eq_1 ?_;exact⟨g2.le af,af⟩
def zG (a b c d:Int):Int:=Lp [xD a c,xD b d]
theorem ML {k:Nat} {l:List Int} (h:gG M k=some (.row (l.map (XV.int .i64)))) (hl:l.length<=1000):bE M (k+1) (.sl k 1 0 l.length l.length) 1 l.length (l.map (XV.int .i64)) :=
 ⟨af,.inr ⟨k,0,l.length,_,rfl,af,by unfold vR;rw[h],aj,by rw[drop_zero,take_of_length_le aj]⟩⟩
theorem f36 (ρ:aK) (M:Hp) (nx:Nat) (a b c d:Int):ar ao ρ 36 [.agg [.int .u64 a,.int .u64 b],.agg [.int .u64 c,.int .u64 d]] M nx (fe nx M (.int .i64 (zG a b c d))):=by
 refine ar.closed fun cF _=>?_
 refine ar.wk 17 [.tmp 4] Tryz.func36 ?_;refine bR Kd ?_;refine aT (bN.pure (v:=.int .i64 (xD a c)) rfl rfl fun N=>X7 ρ N _ a c) ak ?_;refine bR Kd ?_;refine aT (bN.pure (v:=.int .i64 (xD b d)) rfl rfl fun N=>X7 ρ N _ b d) ak ?_;refine bR Kd ?_;refine aT (bN.read (v:=.int .i64 (zG a b c d)) ?_ ?_ rfl fun N hN=>f72 ρ (l:=[xD a c,xD b d]) (ML ?_ aj) af) ak ?_
 ·exact(((cF.le af).set af rfl).set af rfl).set af rfl
 ·simp only[aE,kltV]
  rw[show Nat.blt (nx+11) (nx+12)=true by rw[blt_eq];omega]
 ·exact(hN _ af).trans J
 ·refine Ao Kd @aA @fe.eq_1 ?_
  exact⟨O,af⟩
def Ft (a b:aF):Int:=Lp [xD a.a b.a,xD a.b b.b,xD a.k b.k,xD a.x b.x,zG a.sw a.sn b.sw b.sn,zG a.mw a.mn b.mw b.mn,xD a.pos b.pos]
theorem f11 (ρ:aK) (M:Hp) (nx:Nat) (a b:aF):ar ao ρ 11 [.agg (aM a),.agg (aM b)] M nx (fe nx M (.int .i64 (Ft a b))):=by
 refine ar.closed fun cF _=>?_
 obtain⟨a1,a2,a3,a4,a5,a6,a7,a8,a9⟩:=a;obtain⟨b1,b2,b3,b4,b5,b6,b7,b8,b9⟩:=b;simp only[aM];refine ar.wk 42 [.tmp 4] Tryz.func11 ?_;refine bR lq ?_;refine aT (bN.pure (v:=.int .i64 (xD a1 b1)) rfl rfl fun N=>Xa ρ N _ a1 b1) ak ?_;refine bR lq ?_;refine aT (bN.pure (v:=.int .i64 (xD a2 b2)) rfl rfl fun N=>Xa ρ N _ a2 b2) ak ?_;refine bR lq ?_;refine aT (bN.pure (v:=.int .i64 (xD a3 b3)) rfl rfl fun N=>Xa ρ N _ a3 b3) ak ?_;refine bR lq ?_;refine aT (bN.pure (v:=.int .i64 (xD a4 b4)) rfl rfl fun N=>X7 ρ N _ a4 b4) ak ?_;refine bR lq ?_;refine aT (bN.pure (v:=.int .i64 (zG a5 a6 b5 b6)) rfl rfl fun N=>f36 ρ N _ a5 a6 b5 b6) ak ?_;refine bR lq ?_;refine aT (bN.pure (v:=.int .i64 (zG a7 a8 b7 b8)) rfl rfl fun N=>f36 ρ N _ a7 a8 b7 b8) ak ?_;refine bR lq ?_;refine aT (bN.pure (v:=.int .i64 (xD a9 b9)) rfl rfl fun N=>Xa ρ N _ a9 b9) ak ?_;refine bR lq ?_;refine aT (bN.read (v:=.int .i64 (Ft ⟨a1,a2,a3,a4,a5,a6,a7,a8,a9⟩ ⟨b1,b2,b3,b4,b5,b6,b7,b8,b9⟩)) ?_ ?_ rfl fun N hN=>f33 ρ (l:=[xD a1 b1,xD a2 b2,xD a3 b3,xD a4 b4,zG a5 a6 b5 b6,zG a7 a8 b7 b8,xD a9 b9]) (ML ?_ aj) af) ak ?_
 ·exact(((cF.le af).set af rfl).set af rfl).set af rfl
 ·simp only[aE,kltV]
  rw[show Nat.blt _ _=true by rw[blt_eq];omega]
 ·exact(hN _ af).trans J
 ·refine Ao lq @aA @fe.eq_1 ?_
  exact⟨O,af⟩
def qH (e:aF):List Int:=[e.a,e.b,e.k,e.x,e.sw,e.sn,e.mw,e.mn,e.pos]
def rM:List Int->List Int->Bool
 | x::l,y::m=>decide (x<y)||(decide (x=y)&&rM l m)
 | _,_=>false
def CZ (a b:aF):Bool:=rM (qH a) (qH b)
theorem JQ:∀(l m:List Int),l.length=m.length->(decide (Lp (List.zipWith xD l m)<0)=rM l m)
 | [],[],_=>by simp[Lp,rM]
 | x::l,y::m,h=>by
   have ih:=JQ l m (by simpa using h);simp only[List.zipWith_cons_cons,Lp,rM,<-ih];unfold xD;by_cases h1:x<y
   ·simp[h1]
   ·by_cases h2:y<x
    ·have:¬ x=y:=af
     simp[h1,h2,this]
    ·have:x=y:=af
     simp[this]
 | [],_::_,h=>by simp at h
 | _::_,[],h=>by simp at h
theorem zP (a b:aF):decide (Ft a b<0)=CZ a b:=by
 have:=JQ (qH a) (qH b) rfl;unfold CZ;rw[<-this];unfold Ft zG qH;simp only[List.zipWith_cons_cons,List.zipWith_nil_right,Lp];congr 2
 repeat' split
 all_goals first | rfl | contradiction | (simp_all;done)
theorem IU:∀l:List Int,rM l l=false
 | []=>rfl
 | x::l=>by simp[rM,IU l]
theorem yf:∀{l m k:List Int},rM l m=true->rM m k=true->rM l k=true
 | x::l,y::m,z::k,h1,h2=>by
   simp only[rM,Bool.or_eq_true,Bool.and_eq_true,decide_eq_true_eq]at h1 h2 ⊢;rcases h1 with h1 | ⟨h1,h3⟩
   ·rcases h2 with h2 | ⟨h2,h4⟩
    ·left;omega
    ·left;omega
   ·rcases h2 with h2 | ⟨h2,h4⟩
    ·left;omega
    ·right;exact⟨af,yf h3 h4⟩
 | [],_,_,h1,_=>by simp[rM]at h1
 | _::_,[],_,h1,_=>by simp[rM]at h1
 | _::_,_::_,[],_,h2=>by simp[rM]at h2
theorem IB:∀{l m k:List Int},l.length=m.length->m.length=k.length->rM l m=false->rM m k=false->rM l k=false
 | x::l,y::m,z::k,e1,e2,h1,h2=>by
   simp only[rM,Bool.or_eq_false_iff,Bool.and_eq_false_iff,decide_eq_false_iff_not]at h1 h2 ⊢;refine⟨af,?_⟩;by_cases hx:x=z
   ·right
    have h3:rM l m=false:=by rcases h1.2 with h | h;omega;exact h
    have h4:rM m k=false:=by rcases h2.2 with h | h;omega;exact h
    exact IB (by simpa using e1) (by simpa using e2) h3 h4
   ·left;exact hx
 | [],_,_,_,_,_,_=>by simp[rM]
 | _::_,[],_,h,_,_,_=>by simp at h
 | _::_,_::_,[],_,h,_,_=>by simp at h
theorem Ct:∀{l m:List Int},l.length=m.length->rM l m=false->rM m l=false->l=m
 | [],[],_,_,_=>rfl
 | x::l,y::m,e,h1,h2=>by
   simp only[rM,Bool.or_eq_false_iff,Bool.and_eq_false_iff,decide_eq_false_iff_not]at h1 h2;have:x=y:=af;subst this;have h3:rM l m=false:=by rcases h1.2 with h | h;exact(h rfl).elim;exact h
   have h4:rM m l=false:=by rcases h2.2 with h | h;exact(h rfl).elim;exact h
   have:=Ct (by simpa using e) h3 h4;rw[this]
 | [],_::_,h,_,_=>by simp at h
 | _::_,[],h,_,_=>by simp at h
theorem Nl {a b:aF} (h:qH a=qH b):a=b:=by
 obtain⟨a1,a2,a3,a4,a5,a6,a7,a8,a9⟩:=a;obtain⟨b1,b2,b3,b4,b5,b6,b7,b8,b9⟩:=b;simp only[qH,List.cons.injEq,and_true]at h;obtain⟨rfl,rfl,rfl,rfl,rfl,rfl,rfl,rfl,rfl⟩:=h;rfl
theorem swoE:SWO CZ:=⟨fun x=>IU _,fun x y z h1 h2=>yf h1 h2,fun x y z h1 h2=>IB (l:=qH x) (m:=qH y) (k:=qH z) rfl rfl h1 h2⟩
instance edgeInh:Inhabited aF:=⟨⟨0,0,0,0,0,0,0,0,0⟩⟩
def W6 (d:Array aF):bx:=.row (d.toList.flatMap aM)
theorem arrE (k n:Nat):Sy 29 35 W6 (fun e=>.agg (aM e)) k n (.sl k 9 0 n n) fun i=>i*9:=by
 refine⟨fun i hi kd=>?_,fun M d hM hn i hi=>?_,fun M d hM hn i hi x=>?_⟩
 ·rw[cy,Lc.2.2.2.1,ev _ _ _ _ _ af af];simp
 ·have hl:=gZ (f:=aM) (sz:=9) (fun _=>rfl) d.toList
  rw[fG (cs:=d.toList.flatMap aM) (by simp only[vR,hM,W6]) jW.1 (by rw[hl];simp;omega)];have e:d.toList[i]?=some d[i]!:=by
   rw[Array.getElem?_toList,getElem!_pos d i af,Array.getElem?_eq_getElem af]
  rw[iy e]
 ·have hl:=gZ (f:=aM) (sz:=9) (fun _=>rfl) d.toList
  have h3:=pj (f:=aM) (sz:=9) (fun _=>rfl) d.toList i x am;rw[<-Array.toList_setIfInBounds]at h3;simp only[uq,jW.2.1,hM,W6];rw[xr k (i*9) 9 (.agg (aM x)) _ (by simp[cellsOf,aM]) (by rw[hl];simp;omega) (by simp[cellsOf,aM,ax]),h3];rfl
structure AE (ρ:aK) (lt:aF->aF->Bool) (rwo:Array aF->bx) (enc:aF->XV) (c:aF->aF->Int) (k n:Nat) (sv:XV) (off:Nat->Nat):Prop extends Sy 29 35 rwo enc k n sv off where
 cs:∀N nx x y,bN ao ρ 11 [enc x,enc y] N nx ⟨.int .i64 (c x y),[],[]⟩ nx
 hT:∀{x y},lt x y=true->c x y<0
 hF:∀{x y},lt x y=false->¬ c x y<0
 swo:SWO lt
theorem ae (ρ:aK) (k n:Nat):AE ρ CZ W6 (fun e=>.agg (aM e)) Ft k n (.sl k 9 0 n n) fun i=>i*9 :=
 ⟨arrE k n,fun _ _ _ _=>bN.pure rfl rfl fun N=>f11 ρ N _ _ _,fun {x y} h=>by have:=zP x y;rw[h]at this;simpa using this,fun {x y} h=>by have:=zP x y;rw[h]at this;simpa using this,swoE⟩
end
end Go.Xs
namespace Go.Xs
open List Nat Option
open Go.Proofs Go.Sort
theorem mc1 {P:Prop} (h:P:=by
 have hwa:=bu (x:=a) af;refine mI gz.o hwa ?_;refine aC J0
  (b - a) ⟨a+1,d,?_⟩ ?_
 ·refine bR gz.o ?_
  exact⟨hM,bK.refl _ _ _,af,af,af,af,hd,rfl⟩
 ·rintro m ⟨env,M1,n1⟩ ⟨i,d1,e0,e1,e2,ec,e6,xu,ho,bT,h1,h2,h3,bv,hI⟩
  simp only at e0 e1 e2 ec e6 xu ho bT;rw[insOuter]at hI;by_cases aL:(i:Int)<b
  ·rw[if_pos af]at hI
   have hI:=Is.mk hI;refine gw gz.o e0 e1 e2 e6 aL ec ?_;refine aC (J1 i d1)
    i ⟨d1,af,?_⟩ ?_
   ·refine iC gz.o e0 e1 e2 e6 ec ?_
    exact⟨xu,bv,ho,af,⟨rfl⟩⟩
   ·clear e0 e1 e2 e6 ec
    rintro j ⟨env,M2,n2⟩ ⟨d2,g1,e0,e1,e2,ec,e6,e7,aW,py,bJ,fq,⟨hJ⟩⟩;simp only at e0 e1 e2 ec e6 e7 aW bJ fq;have Q7:=bu (x:=i) af;clear ho;by_cases JC:(a:Int)<j
    ·obtain⟨j',rfl⟩:∃j',j=j'+1:=⟨j - 1,af⟩
     have UT:=fQ (x:=j') af;have x1:=A.ix (j'+1) af;have x2:=A.ix j' af;have l1:=A.ld M2 d2 aW py (j'+1) af;have l2:=A.ld M2 d2 aW py j' af;have hJ:=Is.mk hJ;refine ii gz.o e0 e1 e2 e6 e7 JC UT x1 x2 l1 (aI l2 ec) ?_;refine bF ?_ rfl ?_
     ·refine bR gz.o ?_;try exact⟨⟩
     refine bR gz.o ?_;refine aT (A.cs _ _ _ _) ak ?_;cases hq:lt d2[j'+1]! d2[j']! with
     | true =>
       have hc:=A.hT hq;have dg:=A.st M2 d2 aW py (j'+1) af d2[j']!;have dh:=A.st (aG M2 k (rwo (d2.setIfInBounds (j'+1) d2[j']!))) _ J am j' af d2[j'+1]!;have uP:=hJ.eq;rw[insInner,hq,if_pos am]at uP;have uP:=Is.mk uP;refine ii gz.o e0 e1 e2 e6 e7 hc UT x1 x2 l1 (aI l2 (aI dg (aI dh ec))) ?_;exact⟨j',af,swp d2 (j'+1) j',af,rfl,rfl,(by rw[swp_size];exact py),((bJ.set _).set _),af,uP⟩
     | false =>
       have hc:=A.hF hq;have uP:=hJ.eq;rw[insInner,hq,if_neg aj]at uP;have bt:=hI.eq;rw[<-uP]at bt;have bt:=Is.mk bt;clear hI hJ uP;refine CU gz.o e0 e1 e2 e6 e7 hc Q7 ec ?_;exact⟨b+1 - (i+1),af,i+1,d2,rfl,aW,bJ,af,af,af,rfl,py,bt.eq⟩
    ·have uP:d2=insInner lt a i d1:=by rw[<-hJ];cases j with | zero=>rw[insInner] | succ j=>rw[insInner,if_neg am]
     have bt:=hI.eq;rw[<-uP]at bt;have bt:=Is.mk bt;clear hI hJ uP;refine CU gz.o e0 e1 e2 e6 e7 JC Q7 ec ?_;refine cA ?_ ak ?_
     ·refine bR gz.o ?_;try exact⟨⟩
     refine CU gz.o e0 e1 e2 e6 e7 JC Q7 ec ?_;exact⟨b+1 - (i+1),af,i+1,d2,rfl,aW,bJ,af,af,af,rfl,py,bt.eq⟩
  ·rw[if_neg af]at hI
   subst hI;refine iQ gz.o e0 e1 e2 e6 aL @yh.eq_1 ec ?_;exact⟨⟨xu,af⟩,ho,af⟩
 ):P:=h
theorem mc0 {P:Prop} (h:P:=by
 have hwb:=cN (x:=b) af af;refine mI gz.o hwb ?_;refine aC J0
  (b - a) ⟨a,b - 1,d,?_⟩ ?_
 ·refine bR gz.o ?_
  exact⟨hM,bK.refl _ _ _,af,af,af,af,af,hd,rfl⟩
 ·rintro m ⟨env,M1,n1⟩ ⟨i,j,d1,e0,e6,e7,xu,ho,bT,h1,h2,h4,h3,bv,hI⟩
  simp only at e0 e6 e7 xu ho bT;rw[reverseLoop]at hI;by_cases aL:(i:Int)<j
  ·rw[if_pos af]at hI
   have hI:=Is.mk hI;have wi:=bu (x:=i) af;have wj:=cN (x:=j) af af;have x1:=A.ix i af;have x2:=A.ix j af;have l1:=A.ld M1 d1 xu bv i af;have l2:=A.ld M1 d1 xu bv j af;have dg:=A.st M1 d1 xu bv i af d1[j]!;have dh:=A.st (aG M1 k (rwo (d1.setIfInBounds i d1[j]!))) _ J am j af d1[i]!;refine ii gz.o e0 e6 e7 aL x1 x2 l1 l2 dg dh (aI wi wj) ?_;exact⟨(j - 1)+1 - (i+1),af,i+1,j - 1,swp d1 i j,rfl,rfl,rfl,((ho.set _).set _),af,af,af,af,rfl,(by rw[swp_size];exact bv),hI.eq⟩
  ·rw[if_neg af]at hI
   subst hI;refine iC gz.o e0 e6 e7 aL @yh.eq_1 ?_;exact⟨⟨xu,af⟩,ho,af⟩
 ):P:=h
theorem mc3 {P:Prop} (h:P:=by
 refine bR gz.o ?_;refine aC J0
  (hi - root) ⟨root,d,?_⟩ ?_
 ·refine bR gz.o ?_
  exact⟨hM,bK.refl _ _ _,af,af,rfl,hd,rfl⟩
 ·rintro m ⟨env,M1,n1⟩ ⟨r,d1,e0,e2,e3,ec,e8,xu,ho,bT,h1,h2,bv,hI⟩
  simp only at e0 e2 e3 ec e8 xu ho bT;have hI:=Is.mk hI;have w1:IntKind.i64.wrap (2*(r:Int))=((2*r:Nat):Int):=by rw[wrap_i64 af af];omega
  have w2:=bu (x:=2*r) af;have w3:IntKind.i64.wrap (((2*r+1:Nat):Int)+1)=((2*r+2:Nat):Int):=bu (x:=2*r+1) af;by_cases aL:(hi:Int)<=(2*r+1:Nat)
  ·have bt:=hI.eq
   rw[siftDown,dif_pos af]at bt;have bt:=Is.mk bt;refine dp gz.o e0 e2 e3 e8 aL w1 w2 @yh.eq_1 ec ?_;rw[<-bt.eq];exact⟨⟨xu,af⟩,ho,af⟩
  ·by_cases Qz:((2*r+2:Nat):Int)<hi
   ·have w6:=dK (x:=first) (y:=2*r+1) af
    have w7:IntKind.i64.wrap (((first+(2*r+1):Nat):Int)+1)=((first+(2*r+2):Nat):Int):=bu (x:=first+(2*r+1)) af;have x3:=A.ix (first+(2*r+1)) af;have x4:=A.ix (first+(2*r+2)) af;have l3:=A.ld M1 d1 xu bv (first+(2*r+1)) af;have l4:=A.ld M1 d1 xu bv (first+(2*r+2)) af;refine ii gz.o e0 e2 e3 e8 aL Qz w1 w2 w3 w6 (aI w7 (aI x3 (aI x4 (aI l3 (aI l4 ec))))) ?_;refine bF ?_ rfl ?_
    ·refine bR gz.o ?_;try exact⟨⟩
    refine bR gz.o ?_;refine aT (A.cs _ _ _ _) ak ?_;cases hq:lt d1[first+(2*r+1)]! d1[first+(2*r+2)]! with
    | true =>
      have hc:=A.hT hq;have bt:=hI.eq;rw[SW af af hq]at bt;have w4:=dK (x:=first) (y:=r) af;have w5:=dK (x:=first) (y:=2*r+2) af;have x1:=A.ix (first+r) af;have x2:=A.ix (first+(2*r+2)) af;have l1:=A.ld M1 d1 xu bv (first+r) af;have l2:=A.ld M1 d1 xu bv (first+(2*r+2)) af;refine ii gz.o e0 e2 e3 e8 hc w3 w4 w5 x1 x2 (aI l1 (aI l2 ec)) ?_;clear hc hq w1 w2 w3 w6 w7 x3 x4 l3 l4;refine aT (A.cs _ _ _ _) ak ?_;cases hq:lt d1[first+r]! d1[first+(2*r+2)]! with
      | false =>
        have hc:=A.hF hq;rw[hq,if_pos (show (!false)=true from rfl)]at bt;have bt:=Is.mk bt;refine iQ gz.o e0 e2 e3 e8 hc @yh.eq_1 ec ?_;rw[<-bt.eq];exact⟨⟨xu,af⟩,ho,af⟩
      | true =>
        have hc:=A.hT hq;rw[hq,if_neg aj]at bt;have bt:=Is.mk bt;have dg:=A.st M1 d1 xu bv (first+r) af d1[first+(2*r+2)]!;have dh:=A.st (aG M1 k (rwo (d1.setIfInBounds (first+r) d1[first+(2*r+2)]!))) _ J am (first+(2*r+2)) af d1[first+r]!;refine ii gz.o e0 e2 e3 e8 hc w4 w5 x1 x2 l1 (aI l2 (aI dg (aI dh ec))) ?_;exact⟨hi - (2*r+2),af,2*r+2,swp d1 (first+r) (first+(2*r+2)),rfl,rfl,((ho.set _).set _),af,af,rfl,(by rw[swp_size];exact bv),bt.eq⟩
    | false =>
      have hc:=A.hF hq;have bt:=hI.eq;rw[R1 af (fun q=>by rw[hq]at q;simp at q)]at bt;have w4:=dK (x:=first) (y:=r) af;have w5:=dK (x:=first) (y:=2*r+1) af;have x1:=A.ix (first+r) af;have x2:=A.ix (first+(2*r+1)) af;have l1:=A.ld M1 d1 xu bv (first+r) af;have l2:=A.ld M1 d1 xu bv (first+(2*r+1)) af;refine ii gz.o e0 e2 e3 e8 hc w4 w5 x1 x2 l1 (aI l2 ec) ?_;clear hc hq w1 w2 w3 w6 w7 x3 x4 l3 l4;refine aT (A.cs _ _ _ _) ak ?_;cases hq:lt d1[first+r]! d1[first+(2*r+1)]! with
      | false =>
        have hc:=A.hF hq;rw[hq,if_pos (show (!false)=true from rfl)]at bt;have bt:=Is.mk bt;refine iQ gz.o e0 e2 e3 e8 hc @yh.eq_1 ec ?_;rw[<-bt.eq];exact⟨⟨xu,af⟩,ho,af⟩
      | true =>
        have hc:=A.hT hq;rw[hq,if_neg aj]at bt;have bt:=Is.mk bt;have dg:=A.st M1 d1 xu bv (first+r) af d1[first+(2*r+1)]!;have dh:=A.st (aG M1 k (rwo (d1.setIfInBounds (first+r) d1[first+(2*r+1)]!))) _ J am (first+(2*r+1)) af d1[first+r]!;refine ii gz.o e0 e2 e3 e8 hc w4 w5 x1 x2 l1 (aI l2 (aI dg (aI dh ec))) ?_;exact⟨hi - (2*r+1),af,2*r+1,swp d1 (first+r) (first+(2*r+1)),rfl,rfl,((ho.set _).set _),af,af,rfl,(by rw[swp_size];exact bv),bt.eq⟩
   ·have bt:=hI.eq
    rw[R1 af (fun q=>af)]at bt;have w4:=dK (x:=first) (y:=r) af;have w5:=dK (x:=first) (y:=2*r+1) af;have x1:=A.ix (first+r) af;have x2:=A.ix (first+(2*r+1)) af;have l1:=A.ld M1 d1 xu bv (first+r) af;have l2:=A.ld M1 d1 xu bv (first+(2*r+1)) af;refine dw gz.o e0 e2 e3 e8 aL Qz w1 w2 w3 ec ?_;refine cA ?_ ak ?_
    ·refine bR gz.o ?_;try exact⟨⟩
    refine ii gz.o e0 e2 e3 e8 w4 w5 x1 x2 l1 l2 ec ?_;clear w1 w2 w3;refine aT (A.cs _ _ _ _) ak ?_;cases hq:lt d1[first+r]! d1[first+(2*r+1)]! with
    | false =>
      have hc:=A.hF hq;rw[hq,if_pos (show (!false)=true from rfl)]at bt;have bt:=Is.mk bt;refine iQ gz.o e0 e2 e3 e8 hc @yh.eq_1 ec ?_;rw[<-bt.eq];exact⟨⟨xu,af⟩,ho,af⟩
    | true =>
      have hc:=A.hT hq;rw[hq,if_neg aj]at bt;have bt:=Is.mk bt;have dg:=A.st M1 d1 xu bv (first+r) af d1[first+(2*r+1)]!;have dh:=A.st (aG M1 k (rwo (d1.setIfInBounds (first+r) d1[first+(2*r+1)]!))) _ J am (first+(2*r+1)) af d1[first+r]!;refine ii gz.o e0 e2 e3 e8 hc w4 w5 x1 x2 l1 (aI l2 (aI dg (aI dh ec))) ?_;exact⟨hi - (2*r+1),af,2*r+1,swp d1 (first+r) (first+(2*r+1)),rfl,rfl,((ho.set _).set _),af,af,rfl,(by rw[swp_size];exact bv),bt.eq⟩
 ):P:=h
theorem mc2 {P:Prop} (h:P:=by
 have w1:=dO (x:=b) (y:=a) af af;have w2:=cN (x:=b - a) af af;have w3:IntKind.i64.wrap (((b - a - 1:Nat):Int).tdiv 2)=(((b - a - 1) / 2:Nat):Int):=by
  rw[show ((b - a - 1:Nat):Int).tdiv 2=(((b - a - 1) / 2:Nat):Int) by rw[Int.tdiv_eq_ediv_of_nonneg af];omega,wrap_i64 af af]
 refine ti gz.o w1 w2 w3 ?_;refine aC J0
  ((b - a - 1) / 2+1) ⟨(b - a - 1) / 2+1,d,?_⟩ ?_
 ·refine bR gz.o ?_
  exact⟨congrArg _ af,hM,bK.refl _ _ _,af,af,rfl,hd,rfl⟩
 ·rintro m ⟨env,M1,n1⟩ ⟨kk,d1,e0,ec,e6,e7,e8,e9,xu,ho,bT,h1,h2,bv,hI⟩
  simp only at e0 ec e6 e7 e8 e9 xu ho bT;have hI:=Is.mk hI;by_cases aL:(0:Int)<=(kk:Int) - 1
  ·obtain⟨kk,rfl⟩:∃k',kk=k'+1:=⟨kk - 1,af⟩
   have wk:((kk+1:Nat):Int) - 1=(kk:Int):=af;rw[wk]at e9;have w4:IntKind.i64.wrap ((kk:Int) - 1)=(kk:Int) - 1:=wrap_i64 af af;have z:(0:Int)<=kk:=af;refine iQ gz.o e0 e6 e7 e8 e9 z ec ?_;refine gQ (wsift.o ρ A xu bv af hn (root:=kk) (hi:=b - a) (first:=a) af af) ?_;rintro⟨u,M2,n2⟩ ⟨k1,⟨k2,_⟩,k3,k4⟩;simp only at k1 k2 k3 k4;subst k1;have bt:=hI.eq;rw[heapBuild]at bt;have bt:=Is.mk bt;refine iQ gz.o e0 e6 e7 e8 e9 w4 ec ?_;exact⟨kk,af,kk,_,rfl,k2,ho.trans k3 af,af,af,rfl,iD _ _ _ _ bv,bt.eq⟩
  ·have bt:=hI.eq
   rw[show kk=0 by omega,heapBuild]at bt;have bt:=Is.mk bt;refine CU gz.o e0 e6 e7 e8 e9 aL w2 ec ?_;refine aC J1
    (b - a) ⟨b - a,d1,?_⟩ ?_
   ·refine gw gz.o e0 e6 e7 e8 e9 ec ?_
    exact⟨congrArg _ af,xu,ho,af,af,rfl,bv,bt.eq⟩
   ·clear e0 e6 e7 e8 e9 ec xu ho bT bt hI aL h2 bv
    rintro m ⟨env,M1,n1⟩ ⟨kk,d1,e0,ec,e6,e7,e9,xu,ho,bT,h1,h2,bv,hI⟩;simp only at e0 ec e6 e7 e9 xu ho bT;have hI:=Is.mk hI;by_cases aL:(0:Int)<=(kk:Int) - 1
    ·obtain⟨kk,rfl⟩:∃k',kk=k'+1:=⟨kk - 1,af⟩
     have wk:((kk+1:Nat):Int) - 1=(kk:Int):=af;rw[wk]at e9;have w4:IntKind.i64.wrap ((kk:Int) - 1)=(kk:Int) - 1:=wrap_i64 af af;have w5:=dK (x:=a) (y:=kk) af;have z:(0:Int)<=kk:=af;have x1:=A.ix a af;have x2:=A.ix (a+kk) af;have l1:=A.ld M1 d1 xu bv a af;have l2:=A.ld M1 d1 xu bv (a+kk) af;have dg:=A.st M1 d1 xu bv a af d1[a+kk]!;have dh:=A.st (aG M1 k (rwo (d1.setIfInBounds a d1[a+kk]!))) _ J am (a+kk) af d1[a]!;refine ii gz.o e0 e6 e7 e9 z w5 x1 x2 l1 l2 (aI dg (aI dh ec)) ?_;refine gQ (wsift.o ρ A (d:=swp d1 a (a+kk)) J (by rw[swp_size];exact bv) af hn (root:=0) (hi:=kk) (first:=a) af af) ?_;rintro⟨u,M2,n2⟩ ⟨k1,⟨k2,_⟩,k3,k4⟩;simp only at k1 k2 k3 k4;subst k1;have bt:=hI.eq;rw[heapPop]at bt;have bt:=Is.mk bt;refine gw gz.o e0 e6 e7 e9 w4 ec ?_;exact⟨kk,af,kk,_,rfl,k2,((ho.set _).set _).trans k3 af,af,af,rfl,iD _ _ _ _ (by rw[swp_size];exact bv),bt.eq⟩
    ·have bt:=hI.eq
     rw[show kk=0 by omega,heapPop]at bt;have bt:=Is.mk bt;refine iQ gz.o e0 e6 e7 e9 aL @yh.eq_1 ec ?_;rw[<-bt.eq];exact⟨⟨xu,af⟩,ho,af⟩
 ):P:=h
theorem mc7 {P:Prop} (h:P:=by
 refine mY gz.o x1 x2 l1 l2 ?_;refine aT (A.cs _ _ _ _) ak ?_;cases hq:lt d[b]! d[a]! with
 | true =>
   have hc:=A.hT hq;refine ti gz.o hc hp @O2.eq_1 ?_;exact⟨b,a,IntKind.i64.wrap (s+1),rfl,af,J,(bK.refl _ _ _).set _,af⟩
 | false =>
   have hc:=A.hF hq;refine ti gz.o hc hp @O2.eq_1 ?_;exact⟨a,b,s,rfl,af,rfl,bK.refl _ _ _,af⟩
 ):P:=h
theorem mc6 {P:Prop} (h:P:=by
 refine RA ?_;refine gQ (jS.o ρ A hM hd af hn hp vh af ha hb hu) ?_;rintro⟨u,M1,n1⟩ ⟨a1,b1,s1,g1,g2,g3,g4,g5⟩;simp only at g1 g3 g4 g5;subst g1;refine RA ?_;refine gQ (jS.o ρ A (g4.get af vh hM) hd af hn g3 vh af (lo:=lo) (up:=up) af hc hu) ?_;rintro⟨u,M2,n2⟩ ⟨b2,c2,s2,k1,k2,k3,k4,k5⟩;simp only at k1 k3 k4 k5;subst k1;have o2:bK nx p M M2:=fun j hj cf=>(k4 j af cf).trans (g4 j af cf)
 clear g3;refine RA ?_;refine gQ (jS.o ρ A (o2.get af vh hM) hd af hn k3 vh af (lo:=lo) (up:=up) af af hu) ?_;rintro⟨u,M3,n3⟩ ⟨a3,b3,s3,j1,j2,j3,j4,j5⟩;simp only at j1 j3 j4 j5;subst j1;have o3:bK nx p M M3:=fun j hj cf=>(j4 j af cf).trans (o2 j af cf)
 clear k3 k4 g4;refine bR @O1.eq_1 ?_;exact⟨b3,s3,rfl,af,j3,o3,af⟩
 ):P:=h
theorem mc5 {P:Prop} (h:P:=by
 refine Ao gz.o w1 w2 ?_;refine gQ (wmed.o ρ A hM hd af hn hp vh af (lo:=lo) (up:=up) af af af hu) ?_;rintro⟨u,M1,n1⟩ ⟨a1,s1,g1,g2,g3,g4,g5⟩;simp only at g1 g3 g4 g5;subst g1;refine mI gz.o @O1.eq_1 ?_;exact⟨a1,s1,rfl,af,g3,fun j hj cf=>g4 j af cf,af⟩
 ):P:=h
theorem mc4 {P:Prop} (h:P:=by
 by_cases h8:(8:Int)<=(b - a:Nat)
 ·by_cases AO:(50:Int)<=(b - a:Nat)
  ·refine dw gz.o w1 w2 w3 w4 w5 w6 w7 w8 h8 AO ?_
   generalize xu:aG M _ _=M1;have a1:aq nx M M1:=by rw[<-xu];exact O
   obtain⟨P,hP⟩:∃P,P=(nx+6):=⟨_,rfl⟩;have z1:gG M1 (nx+6)=some (.row [.int .i64 0]):=by rw[<-xu];exact J
   rw[<-hP]at z1 ⊢;clear xu;refine gQ (wadj.o ρ A ((a1 k hk).trans hM) hd af hn z1 af af (lo:=a) (up:=b) af hb) ?_;rintro⟨u,M2,n2⟩ ⟨i2,s2,g1,g2,g3,g4,g5⟩;simp only at g1 g3 g4 g5;subst g1;have a2:aq nx M M2:=a1.trans (g4.below af af);clear g4;refine bR gz.o ?_;refine gQ (wadj.o ρ A ((a2 k hk).trans hM) hd af hn g3 af af (lo:=a) (up:=b) af hb) ?_;rintro⟨u,M3,n3⟩ ⟨i3,s3,k1,k2,k3,k4,k5⟩;simp only at k1 k3 k4 k5;subst k1;have a3:aq nx M M3:=a2.trans (k4.below af af);clear k4 g3;refine bR gz.o ?_;refine gQ (wadj.o ρ A ((a3 k hk).trans hM) hd af hn k3 af af (lo:=a) (up:=b) af hb) ?_;rintro⟨u,M4,n4⟩ ⟨i4,s4,j1,j2,j3,j4,j5⟩;simp only at j1 j3 j4 j5;subst j1;have a4:aq nx M M4:=a3.trans (j4.below af af);clear j4 k3;refine bR gz.o ?_;refine gQ (wmed.o ρ A ((a4 k hk).trans hM) hd af hn j3 af af (lo:=a) (up:=b) af af af hb) ?_;rintro⟨u,M5,n5⟩ ⟨i5,s5,f1,f2,fA,hW,fP⟩;simp only at f1 fA hW fP;subst f1;have a5:aq nx M M5:=a4.trans (hW.below af af);clear hW j3;by_cases h0:s5=0
   ·refine ti gz.o fA h0 @ot.eq_1 ?_
    exact⟨i5,1,rfl,af,a5,af⟩
   ·by_cases uO:s5=12
    ·refine mY gz.o fA h0 uO @ot.eq_1 ?_
     exact⟨i5,2,rfl,af,a5,af⟩
    ·refine mY gz.o fA h0 uO @ot.eq_1 ?_
     exact⟨i5,0,rfl,af,a5,af⟩
  ·refine dw gz.o w1 w2 w3 w4 w5 w6 w7 w8 h8 AO ?_
   generalize xu:aG M _ _=M1;have a1:aq nx M M1:=by rw[<-xu];exact O
   obtain⟨P,hP⟩:∃P,P=(nx+6):=⟨_,rfl⟩;have z1:gG M1 (nx+6)=some (.row [.int .i64 0]):=by rw[<-xu];exact J
   rw[<-hP]at z1 ⊢;clear xu;refine gQ (wmed.o ρ A ((a1 k hk).trans hM) hd af hn z1 af af (lo:=a) (up:=b) af af af hb) ?_;rintro⟨u,M5,n5⟩ ⟨i5,s5,f1,f2,fA,hW,fP⟩;simp only at f1 fA hW fP;subst f1;have a5:aq nx M M5:=a1.trans (hW.below af af);clear hW z1;by_cases h0:s5=0
   ·refine ti gz.o fA h0 @ot.eq_1 ?_
    exact⟨i5,1,rfl,af,a5,af⟩
   ·by_cases uO:s5=12
    ·refine mY gz.o fA h0 uO @ot.eq_1 ?_
     exact⟨i5,2,rfl,af,a5,af⟩
    ·refine mY gz.o fA h0 uO @ot.eq_1 ?_
     exact⟨i5,0,rfl,af,a5,af⟩
 ·refine dw gz.o w1 w2 w3 w4 w5 w6 w7 w8 h8 @ot.eq_1 ?_
  exact⟨a+2*q,1,rfl,af,O,af⟩
 ):P:=h
theorem mc8 {P:Prop} (h:P:=by
 refine CU gz.o w1 w2 y1 y2 k1 k2 dg dh ?_;refine aC J0
  (b - 1+1 - (a+1)) ⟨a+1,b - 1,swp d a pivot,?_⟩ ?_
 ·refine bR gz.o ?_
  exact⟨rfl,((bK.refl _ _ _).set _).set _,af,af,af,af,rfl,(by rw[swp_size];exact hd),hR.symm⟩
 ·clear y1 y2 k1 k2 dg dh w1 w2 hR
  rintro m ⟨env,M1,n1⟩ ⟨i,j,d1,e0,e1,ec,ei,ej,xu,ho,bT,h1,h2,h4,h3,bv,hI⟩;simp only at e0 e1 ec ei ej xu ho bT;obtain⟨i2,bD⟩:∃q,q=scanUp (fun x=>!lt d1[a]! x) d1 j i:=⟨_,rfl⟩;obtain⟨j2,f_⟩:∃q,q=scanDown (fun x=>lt d1[a]! x) d1 i2 j:=⟨_,rfl⟩;obtain⟨b1,b2,b3,b4,b5⟩:=Dq (fun x=>aj) af h2 bD f_;rw[partEqLoop_eq,<-bD,<-f_]at hI;have hI:=Is.mk hI;have bD:=Is.mk bD;have f_:=Is.mk f_;refine iC gz.o ei ej e0 e1 ec ?_;refine bB (J1 j d1 i) (j+1 - i) (J2 i2 j d1) ⟨i,?_⟩ ?_ ?_
  ·refine iC gz.o ei ej e0 e1 ec ?_
   exact⟨xu,ho,af,af,af,rfl,rfl⟩
  ·clear ei ej e0 e1 ec
   rintro m2 ⟨env,M2,n2⟩ ⟨i',e0,e1,ec,ei,ej,aW,bJ,fq,c1,c2,c3,c4⟩;simp only at ei ej e0 e1 ec aW bJ fq;have c4:=Is.mk c4;by_cases eS:(i':Int)<=j
   ·have x1:=A.ix a af
    have x2:=A.ix i' af;have l1:=A.ld M2 d1 aW bv a af;have l2:=A.ld M2 d1 aW bv i' af;have wi:=bu (x:=i') af;refine dw gz.o ei ej eS x1 x2 l1 l2 e0 e1 ec ?_;refine bF ?_ rfl ?_
    ·refine bR gz.o ?_;try exact⟨⟩
    refine bR gz.o ?_;refine aT (A.cs _ _ _ _) ak ?_;cases hq:lt d1[a]! d1[i']! with
    | false =>
      have hc:=A.hF hq;have c5:scanUp (fun x=>!lt d1[a]! x) d1 j (i'+1)=scanUp (fun x=>!lt d1[a]! x) d1 j i:=by rw[<-c4.eq,gj (i:=i') af (by simp[hq])]
      have c5:=Is.mk c5;refine iQ gz.o ei ej hc wi e0 e1 ec ?_;exact⟨j+1 - (i'+1),af,i'+1,rfl,aW,bJ,af,af,af,rfl,c5.eq⟩
    | true =>
      have hc:=A.hT hq;have c5:i'=i2:=by rw[bD.eq,<-c4.eq,cM (.inr (by simp[hq]))]
      have c6:=Is.mk c5;clear c5;refine gw gz.o ei ej hc e0 e1 ec ?_;rw[c6.eq];exact⟨rfl,aW,bJ,af⟩
   ·have c5:i'=i2:=by rw[bD.eq,<-c4.eq,cM (.inl af)]
    have c6:=Is.mk c5;clear c5;refine gw gz.o ei ej eS e0 e1 ec ?_;refine cA ?_ ak ?_
    ·refine bR gz.o ?_;try exact⟨⟩
    refine gw gz.o ei ej eS e0 e1 ec ?_;rw[c6.eq];exact⟨rfl,aW,bJ,af⟩
  ·clear ei ej e0 e1 ec xu ho bT
   rintro⟨env,M1,n1⟩ ⟨e0,e1,ec,ei,ej,xu,ho,bT⟩;simp only at ei ej e0 e1 ec xu ho bT;refine iC gz.o ei ej e0 e1 ec ?_;refine bB (J3 i2 d1 j) j (J4 i2 j2 d1) ⟨j,?_⟩ ?_ ?_
   ·refine iC gz.o ei ej e0 e1 ec ?_
    exact⟨xu,ho,af,af,af,rfl,rfl⟩
   ·clear ei ej e0 e1 ec
    rintro m2 ⟨env,M2,n2⟩ ⟨j',e0,e1,ec,ei,ej,aW,bJ,fq,c1,c2,c3,c4⟩;simp only at ei ej e0 e1 ec aW bJ fq;have c4:=Is.mk c4;by_cases eS:(i2:Int)<=j'
    ·obtain⟨j',rfl⟩:∃q,j'=q+1:=⟨j' - 1,af⟩
     have x1:=A.ix a af;have x2:=A.ix (j'+1) af;have l1:=A.ld M2 d1 aW bv a af;have l2:=A.ld M2 d1 aW bv (j'+1) af;have wj:=fQ (x:=j') af;refine dw gz.o ei ej eS x1 x2 l1 l2 e0 e1 ec ?_;refine bF ?_ rfl ?_
     ·refine bR gz.o ?_;try exact⟨⟩
     refine bR gz.o ?_;refine aT (A.cs _ _ _ _) ak ?_;cases hq:lt d1[a]! d1[j'+1]! with
     | true =>
       have hc:=A.hT hq;have c5:scanDown (fun x=>lt d1[a]! x) d1 i2 j'=scanDown (fun x=>lt d1[a]! x) d1 i2 j:=by rw[<-c4.eq,eG (j:=j') af (by simp[hq])]
       have c5:=Is.mk c5;refine iQ gz.o ei ej hc wj e0 e1 ec ?_;exact⟨j',af,j',rfl,aW,bJ,af,af,af,rfl,c5.eq⟩
     | false =>
       have hc:=A.hF hq;have c5:j'+1=j2:=by rw[f_.eq,<-c4.eq,bY (.inr (by simp[hq]))]
       have c6:=Is.mk c5;clear c5;refine gw gz.o ei ej hc e0 e1 ec ?_;rw[c6.eq];exact⟨rfl,aW,bJ,af⟩
    ·have c5:j'=j2:=by rw[f_.eq,<-c4.eq,bY (.inl af)]
     have c6:=Is.mk c5;clear c5;refine gw gz.o ei ej eS e0 e1 ec ?_;refine cA ?_ ak ?_
     ·refine bR gz.o ?_;try exact⟨⟩
     refine gw gz.o ei ej eS e0 e1 ec ?_;rw[c6.eq];exact⟨rfl,aW,bJ,af⟩
   ·clear ei ej e0 e1 ec xu ho bT
    rintro⟨env,M1,n1⟩ ⟨e0,e1,ec,ei,ej,xu,ho,bT⟩;simp only at ei ej e0 e1 ec xu ho bT;by_cases u_:(j2:Int)<i2
    ·have bt:=hI.eq
     rw[if_pos af]at bt;rw[<-bt];clear hI bt bD f_;refine iQ gz.o ei ej u_ @LA.eq_1 e0 e1 ec ?_;exact⟨⟨xu,af⟩,ho,af⟩
    ·have bt:=hI.eq
     rw[if_neg af]at bt;have bt:=Is.mk bt;clear hI bD f_;have b6:=b5 af;have w1:=bu (x:=i2) af;have w2:=cN (x:=j2) af af;obtain⟨y1,y2,k1,k2,dg,dh⟩:=A.sw M1 d1 xu bv (i:=i2) (j:=j2) af af;refine ii gz.o ei ej u_ w1 w2 y1 y2 k1 k2 dg (aI dh (aI e0 (aI e1 ec))) ?_;exact⟨j2 - 1+1 - (i2+1),af,i2+1,j2 - 1,swp d1 i2 j2,rfl,rfl,rfl,((ho.set _).set _),af,af,af,af,rfl,(by rw[swp_size];exact bv),bt.eq⟩
 ):P:=h
theorem mc9 {P:Prop} (h:P:=by
 refine CU gz.o w1 w2 y1 y2 k1 k2 dg dh ?_;refine Nc (J0 i j d1) ?_ ?_
 ·refine mI gz.o rz ?_
  exact⟨((bK.refl _ _ _).set _).set _,af⟩
 clear y1 y2 k1 k2 dg dh w1 w2 rz hR rB hM hd;rintro⟨env,M1,n1⟩ ⟨e0,e1,ec,ei,ej,xu,ho,bT⟩;simp only at e0 e1 ec ei ej xu ho bT;refine bB (J1 j d1 i) (j+1 - i) (J2 i2 j d1) ⟨i,?_⟩ ?_ ?_
 ·refine iC gz.o ei ej e0 e1 ec ?_
  exact⟨xu,ho,af,af,af,rfl,rfl⟩
 ·clear ei ej e0 e1 ec
  rintro m2 ⟨env,M2,n2⟩ ⟨i',e0,e1,ec,ei,ej,aW,bJ,fq,c1,c2,c3,c4⟩;simp only at ei ej e0 e1 ec aW bJ fq;have c4:=Is.mk c4;by_cases eS:(i':Int)<=j
  ·have x1:=A.ix a af
   have x2:=A.ix i' af;have l1:=A.ld M2 d1 aW bv a af;have l2:=A.ld M2 d1 aW bv i' af;have wi:=bu (x:=i') af;refine dw gz.o ei ej eS x1 x2 l1 l2 e0 e1 ec ?_;refine bF ?_ rfl ?_
   ·refine bR gz.o ?_;try exact⟨⟩
   refine bR gz.o ?_;refine aT (A.cs _ _ _ _) ak ?_;cases hq:lt d1[i']! d1[a]! with
   | true =>
     have hc:=A.hT hq;have c5:scanUp (fun x=>lt x d1[a]!) d1 j (i'+1)=scanUp (fun x=>lt x d1[a]!) d1 j i:=by rw[<-c4.eq,gj (i:=i') af (by simp[hq])]
     have c5:=Is.mk c5;refine iQ gz.o ei ej hc wi e0 e1 ec ?_;exact⟨j+1 - (i'+1),af,i'+1,rfl,aW,bJ,af,af,af,rfl,c5.eq⟩
   | false =>
     have hc:=A.hF hq;have c5:i'=i2:=by rw[bD.eq,<-c4.eq,cM (.inr (by simp[hq]))]
     have c6:=Is.mk c5;clear c5;refine gw gz.o ei ej hc e0 e1 ec ?_;rw[c6.eq];exact⟨rfl,aW,bJ,af⟩
  ·have c5:i'=i2:=by rw[bD.eq,<-c4.eq,cM (.inl af)]
   have c6:=Is.mk c5;clear c5;refine gw gz.o ei ej eS e0 e1 ec ?_;refine cA ?_ ak ?_
   ·refine bR gz.o ?_;try exact⟨⟩
   refine gw gz.o ei ej eS e0 e1 ec ?_;rw[c6.eq];exact⟨rfl,aW,bJ,af⟩
 ·clear ei ej e0 e1 ec xu ho bT
  rintro⟨env,M1,n1⟩ ⟨e0,e1,ec,ei,ej,xu,ho,bT⟩;simp only at ei ej e0 e1 ec xu ho bT;refine iC gz.o ei ej e0 e1 ec ?_;refine bB (J3 i2 d1 j) j (J4 i2 j2 d1) ⟨j,?_⟩ ?_ ?_
  ·refine iC gz.o ei ej e0 e1 ec ?_
   exact⟨xu,ho,af,af,af,rfl,rfl⟩
  ·clear ei ej e0 e1 ec
   rintro m2 ⟨env,M2,n2⟩ ⟨j',e0,e1,ec,ei,ej,aW,bJ,fq,c1,c2,c3,c4⟩;simp only at ei ej e0 e1 ec aW bJ fq;have c4:=Is.mk c4;by_cases eS:(i2:Int)<=j'
   ·obtain⟨j',rfl⟩:∃q,j'=q+1:=⟨j' - 1,af⟩
    have x1:=A.ix a af;have x2:=A.ix (j'+1) af;have l1:=A.ld M2 d1 aW bv a af;have l2:=A.ld M2 d1 aW bv (j'+1) af;have wj:=fQ (x:=j') af;refine dw gz.o ei ej eS x1 x2 l1 l2 e0 e1 ec ?_;refine bF ?_ rfl ?_
    ·refine bR gz.o ?_;try exact⟨⟩
    refine bR gz.o ?_;refine aT (A.cs _ _ _ _) ak ?_;cases hq:lt d1[j'+1]! d1[a]! with
    | false =>
      have hc:=A.hF hq;have c5:scanDown (fun x=>!lt x d1[a]!) d1 i2 j'=scanDown (fun x=>!lt x d1[a]!) d1 i2 j:=by rw[<-c4.eq,eG (j:=j') af (by simp[hq])]
      have c5:=Is.mk c5;refine iQ gz.o ei ej hc wj e0 e1 ec ?_;exact⟨j',af,j',rfl,aW,bJ,af,af,af,rfl,c5.eq⟩
    | true =>
      have hc:=A.hT hq;have c5:j'+1=j2:=by rw[f_.eq,<-c4.eq,bY (.inr (by simp[hq]))]
      have c6:=Is.mk c5;clear c5;refine gw gz.o ei ej hc e0 e1 ec ?_;rw[c6.eq];exact⟨rfl,aW,bJ,af⟩
   ·have c5:j'=j2:=by rw[f_.eq,<-c4.eq,bY (.inl af)]
    have c6:=Is.mk c5;clear c5;refine gw gz.o ei ej eS e0 e1 ec ?_;refine cA ?_ ak ?_
    ·refine bR gz.o ?_;try exact⟨⟩
    refine gw gz.o ei ej eS e0 e1 ec ?_;rw[c6.eq];exact⟨rfl,aW,bJ,af⟩
  ·clear ei ej e0 e1 ec xu ho bT
   rintro⟨env,M1,n1⟩ ⟨e0,e1,ec,ei,ej,xu,ho,bT⟩;simp only at ei ej e0 e1 ec xu ho bT;have AR:=Gj.eq;by_cases u_:(j2:Int)<i2
   ·rw[if_pos af]at AR
    subst AR;clear Gj bD f_;obtain⟨y1,y2,k1,k2,dg,dh⟩:=A.sw M1 d1 xu bv (i:=j2) (j:=a) af af;refine ii gz.o ei ej u_ @LA.eq_1 y1 y2 k1 k2 dg dh (aI e0 (aI e1 ec)) ?_;exact⟨⟨rfl,(by rw[swp_size];omega)⟩,(ho.set _).set _,af⟩
   ·rw[if_neg af]at AR
    obtain⟨Rr,Jn⟩:∃q,q=partLoop lt a (i2+1) (j2 - 1) (swp d1 i2 j2):=⟨_,rfl⟩;rw[<-Jn]at AR;have AR:=Is.mk AR;have Jn:=Is.mk Jn;clear Gj bD f_;have b6:=b5 af;have w1:=bu (x:=i2) af;have w2:=cN (x:=j2) af af;obtain⟨y1,y2,k1,k2,dg,dh⟩:=A.sw M1 d1 xu bv (i:=i2) (j:=j2) af af;refine ii gz.o ei ej u_ w1 w2 y1 y2 k1 k2 dg (aI dh (aI e0 (aI e1 ec))) ?_;refine aC (J5 Rr)
     (j2 - 1+1 - (i2+1)) ⟨i2+1,j2 - 1,swp d1 i2 j2,?_⟩ ?_
    ·refine ti gz.o e0 e1 ec ?_
     exact⟨rfl,((ho.set _).set _),af,af,af,af,rfl,(by rw[swp_size];exact bv),Jn.eq.symm⟩
    ·clear y1 y2 k1 k2 dg dh w1 w2 Jn ei ej e0 e1 ec xu ho bT u_ b1 b2 b3 b4 b5 b6 bv
     rintro m ⟨env,M1,n1⟩ ⟨i,j,d1,e0,e1,ec,ei,ej,xu,ho,bT,h1,h2,h4,h3,bv,hI⟩;simp only at e0 e1 ec ei ej xu ho bT;obtain⟨i2,bD⟩:∃q,q=scanUp (fun x=>lt x d1[a]!) d1 j i:=⟨_,rfl⟩;obtain⟨j2,f_⟩:∃q,q=scanDown (fun x=>!lt x d1[a]!) d1 i2 j:=⟨_,rfl⟩;obtain⟨b1,b2,b3,b4,b5⟩:=Dq (fun x=>rfl) af h2 bD f_;rw[partLoop_eq,<-bD,<-f_]at hI;have hI:=Is.mk hI;have bD:=Is.mk bD;have f_:=Is.mk f_;refine iC gz.o ei ej e0 e1 ec ?_;refine bB (J6 j d1 i) (j+1 - i) (J7 i2 j d1) ⟨i,?_⟩ ?_ ?_
     ·refine iC gz.o ei ej e0 e1 ec ?_
      exact⟨xu,ho,af,af,af,rfl,rfl⟩
     ·clear ei ej e0 e1 ec
      rintro m2 ⟨env,M2,n2⟩ ⟨i',e0,e1,ec,ei,ej,aW,bJ,fq,c1,c2,c3,c4⟩;simp only at ei ej e0 e1 ec aW bJ fq;have c4:=Is.mk c4;by_cases eS:(i':Int)<=j
      ·have x1:=A.ix a af
       have x2:=A.ix i' af;have l1:=A.ld M2 d1 aW bv a af;have l2:=A.ld M2 d1 aW bv i' af;have wi:=bu (x:=i') af;refine dw gz.o ei ej eS x1 x2 l1 l2 e0 e1 ec ?_;refine bF ?_ rfl ?_
       ·refine bR gz.o ?_;try exact⟨⟩
       refine bR gz.o ?_;refine aT (A.cs _ _ _ _) ak ?_;cases hq:lt d1[i']! d1[a]! with
       | true =>
         have hc:=A.hT hq;have c5:scanUp (fun x=>lt x d1[a]!) d1 j (i'+1)=scanUp (fun x=>lt x d1[a]!) d1 j i:=by rw[<-c4.eq,gj (i:=i') af (by simp[hq])]
         have c5:=Is.mk c5;refine iQ gz.o ei ej hc wi e0 e1 ec ?_;exact⟨j+1 - (i'+1),af,i'+1,rfl,aW,bJ,af,af,af,rfl,c5.eq⟩
       | false =>
         have hc:=A.hF hq;have c5:i'=i2:=by rw[bD.eq,<-c4.eq,cM (.inr (by simp[hq]))]
         have c6:=Is.mk c5;clear c5;refine gw gz.o ei ej hc e0 e1 ec ?_;rw[c6.eq];exact⟨rfl,aW,bJ,af⟩
      ·have c5:i'=i2:=by rw[bD.eq,<-c4.eq,cM (.inl af)]
       have c6:=Is.mk c5;clear c5;refine gw gz.o ei ej eS e0 e1 ec ?_;refine cA ?_ ak ?_
       ·refine bR gz.o ?_;try exact⟨⟩
       refine gw gz.o ei ej eS e0 e1 ec ?_;rw[c6.eq];exact⟨rfl,aW,bJ,af⟩
     ·clear ei ej e0 e1 ec xu ho bT
      rintro⟨env,M1,n1⟩ ⟨e0,e1,ec,ei,ej,xu,ho,bT⟩;simp only at ei ej e0 e1 ec xu ho bT;refine iC gz.o ei ej e0 e1 ec ?_;refine bB (J8 i2 d1 j) j (J9 i2 j2 d1) ⟨j,?_⟩ ?_ ?_
      ·refine iC gz.o ei ej e0 e1 ec ?_
       exact⟨xu,ho,af,af,af,rfl,rfl⟩
      ·clear ei ej e0 e1 ec
       rintro m2 ⟨env,M2,n2⟩ ⟨j',e0,e1,ec,ei,ej,aW,bJ,fq,c1,c2,c3,c4⟩;simp only at ei ej e0 e1 ec aW bJ fq;have c4:=Is.mk c4;by_cases eS:(i2:Int)<=j'
       ·obtain⟨j',rfl⟩:∃q,j'=q+1:=⟨j' - 1,af⟩
        have x1:=A.ix a af;have x2:=A.ix (j'+1) af;have l1:=A.ld M2 d1 aW bv a af;have l2:=A.ld M2 d1 aW bv (j'+1) af;have wj:=fQ (x:=j') af;refine dw gz.o ei ej eS x1 x2 l1 l2 e0 e1 ec ?_;refine bF ?_ rfl ?_
        ·refine bR gz.o ?_;try exact⟨⟩
        refine bR gz.o ?_;refine aT (A.cs _ _ _ _) ak ?_;cases hq:lt d1[j'+1]! d1[a]! with
        | false =>
          have hc:=A.hF hq;have c5:scanDown (fun x=>!lt x d1[a]!) d1 i2 j'=scanDown (fun x=>!lt x d1[a]!) d1 i2 j:=by rw[<-c4.eq,eG (j:=j') af (by simp[hq])]
          have c5:=Is.mk c5;refine iQ gz.o ei ej hc wj e0 e1 ec ?_;exact⟨j',af,j',rfl,aW,bJ,af,af,af,rfl,c5.eq⟩
        | true =>
          have hc:=A.hT hq;have c5:j'+1=j2:=by rw[f_.eq,<-c4.eq,bY (.inr (by simp[hq]))]
          have c6:=Is.mk c5;clear c5;refine gw gz.o ei ej hc e0 e1 ec ?_;rw[c6.eq];exact⟨rfl,aW,bJ,af⟩
       ·have c5:j'=j2:=by rw[f_.eq,<-c4.eq,bY (.inl af)]
        have c6:=Is.mk c5;clear c5;refine gw gz.o ei ej eS e0 e1 ec ?_;refine cA ?_ ak ?_
        ·refine bR gz.o ?_;try exact⟨⟩
        refine gw gz.o ei ej eS e0 e1 ec ?_;rw[c6.eq];exact⟨rfl,aW,bJ,af⟩
      ·clear ei ej e0 e1 ec xu ho bT
       rintro⟨env,M1,n1⟩ ⟨e0,e1,ec,ei,ej,xu,ho,bT⟩;simp only at ei ej e0 e1 ec xu ho bT;by_cases u_:(j2:Int)<i2
       ·have bt:=hI.eq
        rw[if_pos af]at bt;have T6:=AR.eq;rw[<-bt]at T6;subst T6;clear hI bt bD f_ AR;obtain⟨y1,y2,k1,k2,dg,dh⟩:=A.sw M1 d1 xu bv (i:=j2) (j:=a) af af;refine ii gz.o ei ej u_ @LA.eq_1 y1 y2 k1 k2 dg dh (aI e0 (aI e1 ec)) ?_;exact⟨⟨rfl,(by rw[swp_size];omega)⟩,(ho.set _).set _,af⟩
       ·have bt:=hI.eq
        rw[if_neg af]at bt;have bt:=Is.mk bt;clear hI bD f_;have b6:=b5 af;have w1:=bu (x:=i2) af;have w2:=cN (x:=j2) af af;obtain⟨y1,y2,k1,k2,dg,dh⟩:=A.sw M1 d1 xu bv (i:=i2) (j:=j2) af af;refine ii gz.o ei ej u_ w1 w2 y1 y2 k1 k2 dg (aI dh (aI e0 (aI e1 ec))) ?_;exact⟨j2 - 1+1 - (i2+1),af,i2+1,j2 - 1,swp d1 i2 j2,rfl,rfl,rfl,((ho.set _).set _),af,af,af,af,rfl,(by rw[swp_size];exact bv),bt.eq⟩
 ):P:=h
theorem Tn {P:Prop} (h:P:=by
 refine mI gz.o w1 ?_;refine aC J0
  5 ⟨0,a+1,d,?_⟩ ?_
 ·refine bR gz.o ?_
  have NN:=hR.eq.symm
  (repeat' (apply ap))<;>first | assumption | rfl | omega | exact bK.refl _ _ _ | exact bK.set (bK.set ho _) _ | (rw[swp_size];assumption) | exact congrArg _ af
 ·clear w1 hR hM hd
  rintro m ⟨env,M1,n1⟩ ⟨jj,i,d1,e0,e1,e2,ec,ei,ej,xu,ho,bT,h1,h2,h4,h3,bv,hI⟩;simp only at e0 e1 e2 ec ei ej xu ho bT;by_cases h5:(jj:Int)<5
  ·obtain⟨i2,bD⟩:∃q,q=scanSorted lt d1 b i:=⟨_,rfl⟩
   obtain⟨b1,b2⟩:=oE lt d1 b _ i rfl h2;rw[<-bD]at b1 b2;rw[show 5 - jj=(5 - (jj+1))+1 by omega,partialIns_succ,<-bD]at hI;have hI:=Is.mk hI;have bD:=Is.mk bD;have wjj:=bu (x:=jj) af;refine iQ gz.o ei ej h5 e0 e1 e2 ec ?_;refine bB (J1 jj d1 i) (b - i)
    (J2 i2 jj d1) ⟨i,?_⟩ ?_ ?_
   ·refine gw gz.o ei ej e0 e1 e2 ec ?_
    exact⟨xu,ho,af,af,af,rfl,rfl⟩
   ·clear ei ej e0 e1 e2 ec
    rintro m2 ⟨env,M2,n2⟩ ⟨i',e0,e1,e2,ec,ei,ej,aW,bJ,fq,c1,c2,c3,c4⟩;simp only at ei ej e0 e1 e2 ec aW bJ fq;have c4:=Is.mk c4;by_cases eS:(i':Int)<b
    ·have x1:=A.ix i' af
     have x2:=A.ix (i' - 1) af;have l1:=A.ld M2 d1 aW bv i' af;have l2:=A.ld M2 d1 aW bv (i' - 1) af;have wi:=bu (x:=i') af;have wm:=cN (x:=i') af af;refine ii gz.o ei ej eS wm x1 x2 l1 l2 e0 e1 (aI e2 ec) ?_;refine bF ?_ rfl ?_
     ·refine bR gz.o ?_;try exact⟨⟩
     refine bR gz.o ?_;refine aT (A.cs _ _ _ _) ak ?_;cases hq:lt d1[i']! d1[i' - 1]! with
     | false =>
       have hc:=A.hF hq;have c5:scanSorted lt d1 b (i'+1)=scanSorted lt d1 b i:=by rw[<-c4.eq,iU (i:=i') af hq]
       have c5:=Is.mk c5;refine CU gz.o ei ej hc wi e0 e1 e2 ec ?_;exact⟨b - (i'+1),af,i'+1,rfl,aW,bJ,af,af,af,rfl,c5.eq⟩
     | true =>
       have hc:=A.hT hq;have c5:i'=i2:=by rw[bD.eq,<-c4.eq,dC (.inr hq)]
       have c6:=Is.mk c5;clear c5;refine iQ gz.o ei ej hc e0 e1 e2 ec ?_;rw[c6.eq];exact⟨rfl,aW,bJ,af⟩
    ·have c5:i'=i2:=by rw[bD.eq,<-c4.eq,dC (.inl af)]
     have c6:=Is.mk c5;clear c5;refine iQ gz.o ei ej eS e0 e1 e2 ec ?_;refine cA ?_ ak ?_
     ·refine bR gz.o ?_;try exact⟨⟩
     refine iQ gz.o ei ej eS e0 e1 e2 ec ?_;rw[c6.eq];exact⟨rfl,aW,bJ,af⟩
   ·clear ei ej e0 e1 e2 ec xu ho bT
    rintro⟨env,M1,n1⟩ ⟨e0,e1,e2,ec,ei,ej,xu,ho,bT⟩;simp only at ei ej e0 e1 e2 ec xu ho bT;by_cases rC:i2=b
    ·have bt:=hI.eq
     rw[if_pos rC]at bt;subst bt;have pz:(i2:Int)=(b:Int):=af;clear hI bD;refine dp gz.o ei ej rC pz @LA.eq_1 e0 e1 e2 ec ?_;exact⟨⟨xu,af⟩,ho,af⟩
    ·have bt:=hI.eq
     rw[if_neg rC]at bt;have pz:¬ (i2:Int)=(b:Int):=af;have wba:=dO (x:=b) (y:=a) af af;by_cases AO:((b - a:Nat):Int)<50
     ·rw[if_pos af]at bt
      subst bt;clear hI bD;refine ii gz.o ei ej rC pz wba AO @LA.eq_1 e0 e1 e2 ec ?_;exact⟨⟨xu,af⟩,ho,af⟩
     ·rw[if_neg af]at bt
      obtain⟨d3,j8⟩:∃q,q=fixDown lt a i2 (swp d1 i2 (i2 - 1)):=⟨_,rfl⟩;rw[<-j8]at bt;obtain⟨d4,fZ⟩:∃q,q=fixUp lt b i2 d3:=⟨_,rfl⟩;rw[<-fZ]at bt;have ZJ:=Is.mk bt;have s3:d3.size=n:=by
       rw[j8];unfold fixDown;split
       ·exact jO _ _ _ (by rw[swp_size];exact bv)
       ·rw[swp_size];exact bv
      have s4:d4.size=n:=by
       rw[fZ];unfold fixUp;split
       ·exact qf _ _ _ _ _ rfl s3
       ·exact s3
      unfold fixDown at j8;unfold fixUp at fZ;clear hI bt bD;have wia:=dO (x:=i2) (y:=a) af af;have wbi:=dO (x:=b) (y:=i2) af af;have MW:=cN (x:=i2) af af;have UZ:=bu (x:=i2) af;obtain⟨y1,y2,k1,k2,dg,dh⟩:=A.sw M1 d1 xu bv (i:=i2) (j:=i2 - 1) af af;by_cases q2:(2:Int)<=((i2 - a:Nat):Int)
      ·rw[if_pos af]at j8
       have j8:=Is.mk j8;by_cases q3:(2:Int)<=((b - i2:Nat):Int)
       ·rw[if_pos af]at fZ
        have fZ:=Is.mk fZ;refine ii gz.o ei ej rC pz wba AO wia q2 MW y1 (aI y2 (aI k1 (aI k2 (aI dg (aI dh (aI e0 (aI e1 (aI e2 ec)))))))) ?_;clear y1 y2 k1 k2 dg dh;refine bB (J3 i2 jj d3) (i2 - 1)
         (J4 i2 jj d3) ⟨i2 - 1,swp d1 i2 (i2 - 1),?_⟩ ?_ ?_
        ·refine gw gz.o ei ej e0 e1 e2 ec ?_
         have QC:=j8.eq.symm
         (repeat' (apply ap))<;>first | assumption | rfl | omega | exact bK.refl _ _ _ | exact bK.set (bK.set ho _) _ | (rw[swp_size];assumption) | exact congrArg _ af
        ·clear ei ej e0 e1 e2 ec xu bT
         rintro m2 ⟨env,M2,n2⟩ ⟨j',d2,e0,e1,e2,ec,ei,ej,e9,aW,bJ,fq,c1,c2,c3,c4⟩;simp only at ei ej e9 e0 e1 e2 ec aW bJ fq;by_cases mj:(1:Int)<=j'
         ·obtain⟨j',rfl⟩:∃q,j'=q+1:=⟨j' - 1,af⟩
          have c4:=Is.mk c4;have wj:=fQ (x:=j') af;obtain⟨y1,y2,k1,k2,dg,dh⟩:=A.sw M2 d2 aW c3 (i:=j'+1) (j:=j') af af;refine ii gz.o ei ej e9 mj wj y1 y2 k1 k2 e0 (aI e1 (aI e2 ec)) ?_;refine aT (A.cs _ _ _ _) ak ?_;cases hq:lt d2[j'+1]! d2[j']! with
          | true =>
            have hc:=A.hT hq;have c5:shiftDown lt j' (swp d2 (j'+1) j')=d3:=by rw[<-c4.eq,shiftDown,hq];rfl
            have c5:=Is.mk c5;refine ii gz.o ei ej e9 hc wj y1 y2 k1 k2 dg (aI dh (aI e0 (aI e1 (aI e2 ec)))) ?_;exact⟨j',af,j',swp d2 (j'+1) j',rfl,rfl,((bJ.set _).set _),af,af,rfl,(by rw[swp_size];exact c3),c5.eq⟩
          | false =>
            have hc:=A.hF hq;have c5:d2=d3:=by rw[<-c4.eq,shiftDown,hq];rfl
            have c5:=Is.mk c5;clear c4;refine CU gz.o ei ej e9 hc e0 e1 e2 ec ?_;rw[<-c5.eq];exact⟨aW,bJ,af⟩
         ·have c5:d2=d3:=by rw[<-c4,show j'=0 by omega];rfl
          have c5:=Is.mk c5;clear c4;refine CU gz.o ei ej e9 mj e0 e1 e2 ec ?_;rw[<-c5.eq];exact⟨aW,bJ,af⟩
        ·clear ei ej e0 e1 e2 ec xu ho bT bv
         rintro⟨env,M1,n1⟩ ⟨e0,e1,e2,ec,ei,ej,xu,ho,bT⟩;simp only at ei ej e0 e1 e2 ec xu ho bT;refine dp gz.o ei ej wbi q3 UZ e0 e1 e2 ec ?_;refine bB (J5 i2 jj d4) (b - (i2+1))
          (J6 i2 jj d4) ⟨i2+1,d3,?_⟩ ?_ ?_
         ·refine gw gz.o ei ej e0 e1 e2 ec ?_
          have QD:=fZ.eq.symm
          (repeat' (apply ap))<;>first | assumption | rfl | omega | exact bK.refl _ _ _ | exact bK.set (bK.set ho _) _ | (rw[swp_size];assumption) | exact congrArg _ af
         ·clear ei ej e0 e1 e2 ec xu bT
          rintro m2 ⟨env,M2,n2⟩ ⟨j',d2,e0,e1,e2,ec,ei,ej,e9,aW,bJ,fq,c0,c1,c2,c3,c4⟩;simp only at ei ej e9 e0 e1 e2 ec aW bJ fq;by_cases mj:(j':Int)<b
          ·have c4:=Is.mk c4
           have wj:=cN (x:=j') af af;have Rj:=bu (x:=j') af;obtain⟨y1,y2,k1,k2,dg,dh⟩:=A.sw M2 d2 aW c3 (i:=j') (j:=j' - 1) af af;refine ii gz.o ei ej e9 mj wj y1 y2 k1 k2 e0 (aI e1 (aI e2 ec)) ?_;refine aT (A.cs _ _ _ _) ak ?_;cases hq:lt d2[j']! d2[j' - 1]! with
           | true =>
             have hc:=A.hT hq;have c5:shiftUp lt b (j'+1) (swp d2 j' (j' - 1))=d4:=by rw[<-c4.eq,jv (j:=j') (d:=d2) af hq]
             have c5:=Is.mk c5;refine ii gz.o ei ej e9 hc wj Rj y1 y2 k1 k2 (aI dg (aI dh (aI e0 (aI e1 (aI e2 ec))))) ?_;exact⟨b - (j'+1),af,j'+1,swp d2 j' (j' - 1),rfl,rfl,((bJ.set _).set _),af,af,af,rfl,(by rw[swp_size];exact c3),c5.eq⟩
           | false =>
             have hc:=A.hF hq;have c5:d2=d4:=by rw[<-c4.eq,shiftUp,if_pos af,hq];rfl
             have c5:=Is.mk c5;clear c4;refine CU gz.o ei ej e9 hc e0 e1 e2 ec ?_;rw[<-c5.eq];exact⟨aW,bJ,af⟩
          ·have c5:d2=d4:=by rw[<-c4,shiftUp,if_neg af]
           have c5:=Is.mk c5;clear c4;refine CU gz.o ei ej e9 mj e0 e1 e2 ec ?_;rw[<-c5.eq];exact⟨aW,bJ,af⟩
         ·clear ei ej e0 e1 e2 ec xu ho bT
          rintro⟨env,M1,n1⟩ ⟨e0,e1,e2,ec,ei,ej,xu,ho,bT⟩;simp only at ei ej e0 e1 e2 ec xu ho bT;refine iQ gz.o ei ej wjj e0 e1 e2 ec ?_;exact⟨5 - (jj+1),af,jj+1,i2,d4,rfl,rfl,xu,ho,af,af,af,af,rfl,s4,ZJ.eq⟩
       ·rw[if_neg af]at fZ
        have fZ:=Is.mk fZ;refine ii gz.o ei ej rC pz wba AO wia q2 MW y1 (aI y2 (aI k1 (aI k2 (aI dg (aI dh (aI e0 (aI e1 (aI e2 ec)))))))) ?_;clear y1 y2 k1 k2 dg dh;refine bB (J7 i2 jj d3) (i2 - 1)
         (J8 i2 jj d3) ⟨i2 - 1,swp d1 i2 (i2 - 1),?_⟩ ?_ ?_
        ·refine gw gz.o ei ej e0 e1 e2 ec ?_
         have QC:=j8.eq.symm
         (repeat' (apply ap))<;>first | assumption | rfl | omega | exact bK.refl _ _ _ | exact bK.set (bK.set ho _) _ | (rw[swp_size];assumption) | exact congrArg _ af
        ·clear ei ej e0 e1 e2 ec xu bT
         rintro m2 ⟨env,M2,n2⟩ ⟨j',d2,e0,e1,e2,ec,ei,ej,e9,aW,bJ,fq,c1,c2,c3,c4⟩;simp only at ei ej e9 e0 e1 e2 ec aW bJ fq;by_cases mj:(1:Int)<=j'
         ·obtain⟨j',rfl⟩:∃q,j'=q+1:=⟨j' - 1,af⟩
          have c4:=Is.mk c4;have wj:=fQ (x:=j') af;obtain⟨y1,y2,k1,k2,dg,dh⟩:=A.sw M2 d2 aW c3 (i:=j'+1) (j:=j') af af;refine ii gz.o ei ej e9 mj wj y1 y2 k1 k2 e0 (aI e1 (aI e2 ec)) ?_;refine aT (A.cs _ _ _ _) ak ?_;cases hq:lt d2[j'+1]! d2[j']! with
          | true =>
            have hc:=A.hT hq;have c5:shiftDown lt j' (swp d2 (j'+1) j')=d3:=by rw[<-c4.eq,shiftDown,hq];rfl
            have c5:=Is.mk c5;refine ii gz.o ei ej e9 hc wj y1 y2 k1 k2 dg (aI dh (aI e0 (aI e1 (aI e2 ec)))) ?_;exact⟨j',af,j',swp d2 (j'+1) j',rfl,rfl,((bJ.set _).set _),af,af,rfl,(by rw[swp_size];exact c3),c5.eq⟩
          | false =>
            have hc:=A.hF hq;have c5:d2=d3:=by rw[<-c4.eq,shiftDown,hq];rfl
            have c5:=Is.mk c5;clear c4;refine CU gz.o ei ej e9 hc e0 e1 e2 ec ?_;rw[<-c5.eq];exact⟨aW,bJ,af⟩
         ·have c5:d2=d3:=by rw[<-c4,show j'=0 by omega];rfl
          have c5:=Is.mk c5;clear c4;refine CU gz.o ei ej e9 mj e0 e1 e2 ec ?_;rw[<-c5.eq];exact⟨aW,bJ,af⟩
        ·clear ei ej e0 e1 e2 ec xu ho bT bv
         rintro⟨env,M1,n1⟩ ⟨e0,e1,e2,ec,ei,ej,xu,ho,bT⟩;simp only at ei ej e0 e1 e2 ec xu ho bT;refine dp gz.o ei ej wbi q3 wjj e0 e1 e2 ec ?_;exact⟨5 - (jj+1),af,jj+1,i2,d4,rfl,rfl,by rw[fZ.eq];exact xu,ho,af,af,af,af,rfl,s4,ZJ.eq⟩
      ·rw[if_neg af]at j8
       have j8:=Is.mk j8;by_cases q3:(2:Int)<=((b - i2:Nat):Int)
       ·rw[if_pos af,j8.eq]at fZ
        have fZ:=Is.mk fZ;refine ii gz.o ei ej rC pz wba AO wia q2 MW wbi (aI q3 (aI UZ (aI y1 (aI y2 (aI k1 (aI k2 (aI dg (aI dh (aI e0 (aI e1 (aI e2 ec))))))))))) ?_;clear y1 y2 k1 k2 dg dh;refine bB (J9 i2 jj d4) (b - (i2+1))
         (J10 i2 jj d4) ⟨i2+1,swp d1 i2 (i2 - 1),?_⟩ ?_ ?_
        ·refine gw gz.o ei ej e0 e1 e2 ec ?_
         have QD:=fZ.eq.symm
         (repeat' (apply ap))<;>first | assumption | rfl | omega | exact bK.refl _ _ _ | exact bK.set (bK.set ho _) _ | (rw[swp_size];assumption) | exact congrArg _ af
        ·clear ei ej e0 e1 e2 ec xu bT
         rintro m2 ⟨env,M2,n2⟩ ⟨j',d2,e0,e1,e2,ec,ei,ej,e9,aW,bJ,fq,c0,c1,c2,c3,c4⟩;simp only at ei ej e9 e0 e1 e2 ec aW bJ fq;by_cases mj:(j':Int)<b
         ·have c4:=Is.mk c4
          have wj:=cN (x:=j') af af;have Rj:=bu (x:=j') af;obtain⟨y1,y2,k1,k2,dg,dh⟩:=A.sw M2 d2 aW c3 (i:=j') (j:=j' - 1) af af;refine ii gz.o ei ej e9 mj wj y1 y2 k1 k2 e0 (aI e1 (aI e2 ec)) ?_;refine aT (A.cs _ _ _ _) ak ?_;cases hq:lt d2[j']! d2[j' - 1]! with
          | true =>
            have hc:=A.hT hq;have c5:shiftUp lt b (j'+1) (swp d2 j' (j' - 1))=d4:=by rw[<-c4.eq,jv (j:=j') (d:=d2) af hq]
            have c5:=Is.mk c5;refine ii gz.o ei ej e9 hc wj Rj y1 y2 k1 k2 (aI dg (aI dh (aI e0 (aI e1 (aI e2 ec))))) ?_;exact⟨b - (j'+1),af,j'+1,swp d2 j' (j' - 1),rfl,rfl,((bJ.set _).set _),af,af,af,rfl,(by rw[swp_size];exact c3),c5.eq⟩
          | false =>
            have hc:=A.hF hq;have c5:d2=d4:=by rw[<-c4.eq,shiftUp,if_pos af,hq];rfl
            have c5:=Is.mk c5;clear c4;refine CU gz.o ei ej e9 hc e0 e1 e2 ec ?_;rw[<-c5.eq];exact⟨aW,bJ,af⟩
         ·have c5:d2=d4:=by rw[<-c4,shiftUp,if_neg af]
          have c5:=Is.mk c5;clear c4;refine CU gz.o ei ej e9 mj e0 e1 e2 ec ?_;rw[<-c5.eq];exact⟨aW,bJ,af⟩
        ·clear ei ej e0 e1 e2 ec xu ho bT
         rintro⟨env,M1,n1⟩ ⟨e0,e1,e2,ec,ei,ej,xu,ho,bT⟩;simp only at ei ej e0 e1 e2 ec xu ho bT;refine iQ gz.o ei ej wjj e0 e1 e2 ec ?_;exact⟨5 - (jj+1),af,jj+1,i2,d4,rfl,rfl,xu,ho,af,af,af,af,rfl,s4,ZJ.eq⟩
       ·rw[if_neg af,j8.eq]at fZ
        have fZ:=Is.mk fZ;refine ii gz.o ei ej rC pz wba AO wia q2 MW wbi (aI q3 (aI wjj (aI y1 (aI y2 (aI k1 (aI k2 (aI dg (aI dh (aI e0 (aI e1 (aI e2 ec))))))))))) ?_;exact⟨5 - (jj+1),af,jj+1,i2,d4,rfl,rfl,by rw[fZ.eq];rfl,(ho.set _).set _,af,af,af,af,rfl,s4,ZJ.eq⟩
  ·rw[show 5 - jj=0 by omega]at hI
   have bt:R=(d1,false):=hI.symm;subst bt;clear hI;refine CU gz.o ei ej h5 @LA.eq_1 e0 e1 e2 ec ?_;exact⟨⟨xu,af⟩,ho,af⟩
 ):P:=h
theorem aah {P:Prop} (h:P:=by
 by_cases h8:(8:Int)<=l
 ·obtain⟨q,hq⟩:∃q,q=l / 4:=⟨_,rfl⟩
  obtain⟨i0,AW⟩:∃i,i=a+2*q - 1:=⟨_,rfl⟩;have w2:IntKind.i64.wrap ((l:Int).tdiv 4)=(q:Int):=by
   rw[show (l:Int).tdiv 4=(q:Int) by rw[Int.tdiv_eq_ediv_of_nonneg af];omega,wrap_i64 af af]
  have w4:IntKind.i64.wrap ((q:Int)*2)=((2*q:Nat):Int):=by rw[wrap_i64 af af];omega
  have w5:=dK (x:=a) (y:=2*q) af;have w6:IntKind.i64.wrap (((a+2*q:Nat):Int) - 1)=(i0:Int):=by rw[wrap_i64 af af];omega
  have w7:=bu (x:=a+2*q) af;have w8:IntKind.u64.wrap (l:Int)=(l:Int):=wrap_u64 af af;refine ti gz.o w1 h8 w8 ?_;generalize xu:aG (aG M _ _) _ _=M1;have o1:bK nx k M M1:=by rw[<-xu];exact((bK.refl _ _ _).new af _).new af _
  have z1:gG M1 (nx+8)=some (.row [.int .u64 l]):=by rw[<-xu];exact J
  have z2:gG M1 k=some (rwo d):=by rw[<-xu];exact J
  clear xu;refine lG (f262 ρ _ _ l af) fun M2 n2 g2 g3=>?_
  have o2:bK nx k M M2:=o1.agr (g2.le af) (Nat.le_refl _);have z3:=(g2 (nx+8) af).trans z1;have z4:=(g2 k af).trans z2;have Ob:=rZ l af af;have Z2:1<=2 ^ bitsLen l:=Nat.one_le_two_pow;generalize 2 ^ bitsLen l=md at Ob Z2;have w9:IntKind.u64.wrap ((md:Int) - 1)=((md - 1:Nat):Int):=by rw[wrap_u64 af af];omega
  clear z1 z2 o1 g2;refine gw gz.o w1 w2 w4 w5 w6 h8 ?_;refine aC (J0 md i0)
   3 ⟨i0,d,l,?_⟩ ?_
  ·refine bR gz.o ?_
   exact⟨z4,z3,o2,af,af,af,af,hd,permIn_refl _ _ _⟩
  ·clear z3 z4 o2 hM hd
   rintro m ⟨env,M1,n1⟩ ⟨i,d1,r,e0,e1,e6,e7,e8,e9,xu,hr,ho,bT,h1,h2,h3,bv,hP⟩;simp only at e0 e1 e6 e7 e8 e9 xu hr ho bT;by_cases aL:(i:Int)<=(a+(2*q+1):Nat)
   ·refine ii gz.o e0 e1 e6 e7 e8 e9 w2 w4 w5 w7 aL ?_
    refine gQ (f263 ρ hr) ?_;rintro⟨u,M2,n2⟩ ⟨r2,k1,k2,k3,k4⟩;simp only at k1 k2 k3 k4;subst k1;obtain⟨o,UB,VM⟩:=Hr r2 (md - 1) af;have s4:bj .and .u64 r2 .u64 ((md - 1:Nat):Int)=some (.int .u64 (o:Int)):=by rw[<-UB];rfl
    have UY:IntKind.i64.wrap (o:Int)=(o:Int):=wrap_i64 af af;have aW:gG M2 k=some (rwo d1):=k3.get af af xu;have bJ:bK nx k M M2:=fun j hj ia=>(k3 j af af).trans (ho j hj ia)
    have wi:=bu (x:=i) af;clear k3 hr;by_cases JY:(l:Int)<=o
    ·have w11:=dO (x:=o) (y:=l) af af
     have Ri:=dK (x:=a) (y:=o - l) af;obtain⟨y1,y2,k1,k2,dg,dh⟩:=A.sw M2 d1 aW bv (i:=i) (j:=a+(o - l)) af af;refine ii gz.o e0 e1 e6 e7 e8 e9 w9 s4 UY JY (aI w11 (aI Ri (aI wi (aI y1 (aI y2 (aI k1 (aI k2 (aI dg dh)))))))) ?_;exact⟨i0+3 - (i+1),af,i+1,swp d1 i (a+(o - l)),r2,rfl,rfl,J,(bJ.set _).set _,af,af,af,rfl,(by rw[swp_size];exact bv),permIn_trans _ _ _ _ _ hP (swp_permIn _ _ _ _ _ af af af af af)⟩
    ·have Ri:=dK (x:=a) (y:=o) af
     obtain⟨y1,y2,k1,k2,dg,dh⟩:=A.sw M2 d1 aW bv (i:=i) (j:=a+o) af af;refine ii gz.o e0 e1 e6 e7 e8 e9 w9 s4 UY JY (aI Ri (aI wi (aI y1 (aI y2 (aI k1 (aI k2 (aI dg dh))))))) ?_;exact⟨i0+3 - (i+1),af,i+1,swp d1 i (a+o),r2,rfl,rfl,J,(bJ.set _).set _,af,af,af,rfl,(by rw[swp_size];exact bv),permIn_trans _ _ _ _ _ hP (swp_permIn _ _ _ _ _ af af af af af)⟩
   ·refine ii gz.o e0 e1 e6 e7 e8 e9 w2 w4 w5 w7 (aI aL @Sw.eq_1) ?_
    exact⟨⟨d1,bv,hP,xu⟩,ho,af⟩
 ·refine ti gz.o w1 h8 @Sw.eq_1 ?_
  exact⟨⟨d,hd,permIn_refl _ _ _,hM⟩,bK.refl _ _ _,af⟩
 ):P:=h
theorem aac {P:Prop} (h:P:=by
 refine bR gz.o ?_;refine aC J0
  (b - a) ⟨a,b,lim,true,true,d,?_⟩ ?_
 ·refine bR gz.o ?_
  exact⟨hM,bK.refl _ _ _,af,af,af,af,rfl,hd,hB,fun R h1 h2=>⟨h1,h2⟩⟩
 ·clear hM hd hB
  rintro m ⟨env,M1,n1⟩ ⟨x,y,lim',wb,wp,d1,e0,e1,e2,e3,ec,e8,e9,xu,ho,bT,h1,h2,h3,h4,bv,hB,hG⟩;simp only at e0 e1 e2 e3 ec e8 e9 xu ho bT;rw[l9];have w1:=dO (x:=y) (y:=x) af af;refine IF (J1 x y wb wp d1) ?_ ?_
  ·by_cases uO:((y - x:Nat):Int)<=12
   ·refine dp gz.o w1 uO e0 e1 e2 e3 ec e8 e9 ?_
    refine gQ (wins.o ρ A xu bv af hn (a:=x) (b:=y) af af) ?_;rintro⟨u,M2,n2⟩ ⟨k1,⟨k2,_⟩,k3,k4⟩;simp only at k1 k2 k3 k4;subst k1;obtain⟨u1,u2⟩:=insertionSort_holds A.swo d1 x y af af;obtain⟨t1,t2⟩:=hG _ u1 u2;have ts:(insertionSort lt d1 x y).size=n:=u1.1.trans bv;refine mY gz.o @bU @cd @bQ @Mf.eq_1 ?_;exact⟨⟨_,ts,⟨t1,t2⟩,k2⟩,ho.trans k3 af,af⟩
   ·by_cases pG:lim'=0
    ·refine dw gz.o w1 uO pG e0 e1 e2 e3 ec e8 e9 ?_
     refine gQ (wheap.o ρ A xu bv af hn (a:=x) (b:=y) af af) ?_;rintro⟨u,M2,n2⟩ ⟨k1,⟨k2,_⟩,k3,k4⟩;simp only at k1 k2 k3 k4;subst k1;obtain⟨u1,u2⟩:=heapSort_holds A.swo d1 x y af af;obtain⟨t1,t2⟩:=hG _ u1 u2;have ts:(heapSort lt d1 x y).size=n:=u1.1.trans bv;refine mY gz.o @bU @cd @bQ @Mf.eq_1 ?_;exact⟨⟨_,ts,⟨t1,t2⟩,k2⟩,ho.trans k3 af,af⟩
    ·cases wb with
     | true =>
       refine ii gz.o w1 uO pG @bU @cd @bQ e0 e1 e2 e3 (aI ec (aI e8 e9)) ?_;exact⟨lim',d1,rfl,xu,ho,af,af,bv,permIn_refl _ _ _⟩
     | false =>
       refine dw gz.o w1 uO pG e0 e1 e2 e3 ec e8 e9 ?_;refine gQ (wbrk.o ρ A xu bv af hn (a:=x) (b:=y) af af) ?_;rintro⟨u,M2,n2⟩ ⟨k1,⟨d2,k2,k5,k6⟩,k3,k4⟩;simp only at k1 k6 k3 k4;subst k1;refine dw gz.o @bU @cd @bQ e0 e1 e2 e3 ec e8 e9 ?_;exact⟨IntKind.i64.wrap (lim' - 1),d2,rfl,k6,ho.trans k3 af,af,af,k2,k5⟩
  clear e0 e1 e2 e3 ec e8 e9 xu ho bT;rintro⟨env,M1,n1⟩ ⟨iv,d2,e0,e1,e2,e3,ec,e8,e9,dx,xu,ho,bT,hl,py,hP⟩;simp only at e0 e1 e2 e3 ec e8 e9 dx xu ho bT;refine yz (J2 x y iv wb wp d1) ?_ ?_
  ·refine CU gz.o dx e0 e1 e2 e3 ec e8 e9 ?_
   refine gQ (wpiv.o ρ A xu py af hn (a:=x) (b:=y) af af) ?_;rintro⟨u,M2,n2⟩ ⟨p,hh,k1,k2,k3,k4⟩;simp only at k1 k3 k4;subst k1;have aW:=(k3 k af).trans xu;have bJ:=ho.agr k3 af;clear k3;by_cases DY:hh=2
   ·have v1:=cN (x:=y) af af
    have v2:=dO (x:=p) (y:=x) af af;have v3:=dO (x:=y - 1) (y:=p - x) af af;refine dp gz.o dx DY e0 e1 e2 e3 ec e8 e9 ?_;refine gQ (wrev.o ρ A aW py af hn (a:=x) (b:=y) af af) ?_;rintro⟨u,M3,n3⟩ ⟨j1,⟨j2,_⟩,j3,j4⟩;simp only at j1 j2 j3 j4;subst j1;have T5:=reverseRange_holds d2 x y af af;refine ii gz.o @bU @cd @bQ dx v1 v2 v3 e0 e1 e2 (aI e3 (aI ec (aI e8 e9))) ?_;exact⟨y - 1 - (p - x),1,reverseRange d2 x y,rfl,rfl,j2,bJ.trans j3 af,af,af,af,T5.1.trans py,permIn_trans _ _ _ _ _ hP T5⟩
   ·refine ii gz.o @bU @cd @bQ dx DY e0 e1 e2 e3 ec (aI e8 e9) ?_
    exact⟨p,hh,d2,rfl,rfl,aW,bJ,af,af,k2,py,hP⟩
  clear e0 e1 e2 e3 ec e8 e9 dx xu ho bT hl py hP d2;rintro⟨env,M1,n1⟩ ⟨p,hh,d3,e0,e1,e2,e3,ec,e8,e9,dx,ep,eh,xu,ho,bT,hl,hp,j8,hP⟩;simp only at e0 e1 e2 e3 ec e8 e9 dx ep eh xu ho bT;refine yo (J3 x y iv wb wp p d1) ?_ ?_
  ·by_cases hc:wb=true/\wp=true/\hh=1
   ·obtain⟨c1,c2,c3⟩:=hc
    subst c1;subst c2;refine ii gz.o dx ep eh c3 e0 e1 e2 e3 ec e8 e9 ?_;refine gQ (wpins.o ρ A xu j8 af hn (a:=x) (b:=y) af af) ?_;rintro⟨u,M2,n2⟩ ⟨k1,⟨k2,_⟩,k3,k4⟩;simp only at k1 k2 k3 k4;subst k1;obtain⟨u1,u2⟩:=partialInsertionSort_holds A.swo d3 x y af af (hB.perm af hP);have ts:(partialInsertionSort lt d3 x y).1.size=n:=u1.1.trans j8;cases hR:(partialInsertionSort lt d3 x y).2 with
    | true =>
      obtain⟨t1,t2⟩:=hG _ (permIn_trans _ _ _ _ _ hP u1) (u2 hR);refine ii gz.o @bU @cd @bQ @Mf.eq_1 e0 e1 e2 e3 ec e8 e9 ?_;exact⟨⟨_,ts,⟨t1,t2⟩,k2⟩,ho.trans k3 af,af⟩
    | false =>
      refine ii gz.o @bU @cd @bQ dx ep eh e0 e1 e2 e3 (aI ec (aI e8 e9)) ?_;exact⟨_,k2,ho.trans k3 af,af,af,hp,ts,permIn_trans _ _ _ _ _ hP u1⟩
   ·cases wb with
    | false =>
      refine ii gz.o @bU @cd @bQ dx ep eh e0 e1 e2 e3 (aI ec (aI e8 e9)) ?_;exact⟨d3,xu,ho,af,af,hp,j8,hP⟩
    | true =>
      cases wp with
      | false =>
        refine ii gz.o @bU @cd @bQ dx ep eh e0 e1 e2 e3 (aI ec (aI e8 e9)) ?_;exact⟨d3,xu,ho,af,af,hp,j8,hP⟩
      | true =>
        have Zs:¬ hh=1:=fun q=>hc ⟨rfl,rfl,q⟩
        clear hc;refine ii gz.o @bU @cd @bQ dx ep eh Zs e0 e1 e2 (aI e3 (aI ec (aI e8 e9))) ?_;exact⟨d3,xu,ho,af,af,hp,j8,hP⟩
  clear e0 e1 e2 e3 ec e8 e9 dx ep eh xu ho bT hl hp j8 hP d3;rintro⟨env,M1,n1⟩ ⟨d4,e0,e1,e2,e3,ec,e8,e9,dx,ep,xu,ho,bT,hl,hp,fZ,hP⟩;simp only at e0 e1 e2 e3 ec e8 e9 dx ep xu ho bT;by_cases Q9:(0:Int)<x
  ·have x1:=A.ix (x - 1) af
   have x2:=A.ix p af;have l1:=A.ld M1 d4 xu fZ (x - 1) af;have l2:=A.ld M1 d4 xu fZ p af;have wx:=cN (x:=x) af af;simp (maxSteps:=10000000) (zetaDelta:=true) (disch:=first|assumption|decide|omega|(simp only[qG, *];done)|(simp only[qF,fE];first|done|assumption|omega)) only [qE,cz,oj,cB,gx,vI,vB,vX,kq,kg,km,Nat.reduceLT,reduceEqDiff,Nat.reduceAdd,Nat.reduceMul,Nat.reduceSub,reduceIte,Int.reduceLT,Int.reduceLE,Int.reduceEq,Int.reduceNeg,Int.reduceToNat,gz.o,dx,ep,Q9,wx,x1,x2,l1,l2,e0,e1,e2,e3,ec,e8,e9];refine bF ?_ rfl ?_
   ·refine bR gz.o ?_;try exact⟨⟩
   refine bR gz.o ?_;refine aT (A.cs _ _ _ _) ak ?_;cases hq:lt d4[x - 1]! d4[p]! with
   | false =>
     have hc:=A.hF hq;refine dw gz.o dx ep hc e0 e1 e2 e3 ec e8 e9 ?_;refine gQ (wpeq.o ρ A xu fZ af hn (a:=x) (b:=y) (pivot:=p) af af af) ?_;rintro⟨u,M2,n2⟩ ⟨k1,⟨k2,_⟩,k3,k4⟩;simp only at k1 k2 k3 k4;subst k1;obtain⟨mid,d5,AS⟩:∃mid d5,partitionEqual lt d4 x y p=(mid,d5):=⟨_,_,rfl⟩;rw[AS]at k2 ⊢;simp only at k2 ⊢;obtain⟨r1,r2,r3,r4,r5⟩:=round_eq A.swo (partitionEqual_holds _) (d3:=d4) af hp.1 hp.2 (by rw[fZ];omega) (hB.perm (by rw[bv];omega) hP) hq AS;refine dp gz.o dx ep e0 e1 e2 e3 ec e8 e9 ?_;exact⟨y - mid,af,mid,y,iv,wb,wp,d5,rfl,rfl,rfl,rfl,rfl,k2,ho.trans k3 af,af,af,af,af,rfl,r3.trans fZ,r4,fun R q1 q2=>let ⟨u1,u2⟩:=r5 R q1 q2;hG R (permIn_trans _ _ _ _ _ hP u1) u2⟩
   | true =>
     have hc:=A.hT hq;refine dw gz.o dx ep hc e0 e1 e2 e3 ec e8 e9 ?_;refine gQ (wpart.o ρ A xu fZ af hn (a:=x) (b:=y) (pivot:=p) af af af) ?_;rintro⟨u,M2,n2⟩ ⟨k1,⟨k2,_⟩,k3,k4⟩;simp only at k1 k2 k3 k4;subst k1;obtain⟨mid,al,d5,AS⟩:∃mid al d5,partition lt d4 x y p=(mid,al,d5):=⟨_,_,_,rfl⟩;rw[AS]at k2 ⊢;simp only at k2 ⊢;have Q_:y<=d4.size:=by rw[fZ];omega
     obtain⟨r1,r2,r3,r4,r5,r6,r7⟩:=round_part A.swo (partition_holds _) (d3:=d4) hp.1 hp.2 Q_ (hB.perm (by rw[bv];omega) hP) AS;have Ju:d5.size=n:=r3.trans fZ;have bJ:=ho.trans k3 af;have aW:=k2;clear k2 k3;have v1:=dO (x:=mid) (y:=x) af af;have v2:=dO (x:=y) (y:=mid) af af;have v3:IntKind.i64.wrap (((y - x:Nat):Int).tdiv 8)=(((y - x) / 8:Nat):Int):=by
      rw[show ((y - x:Nat):Int).tdiv 8=(((y - x) / 8:Nat):Int) by rw[Int.tdiv_eq_ediv_of_nonneg af];omega,wrap_i64 af af]
     have v4:=bu (x:=mid) af;by_cases JD:((mid - x:Nat):Int)<((y - mid:Nat):Int)
     ·refine ii gz.o dx ep v1 v2 v3 v4 JD e0 e1 e2 (aI e3 (aI ec (aI e8 e9))) ?_
      refine gQ (ih (mid - x) af A aW Ju af hn (a:=x) (b:=mid) iv af af af r4) ?_;rintro⟨u,M3,n3⟩ ⟨j1,⟨L,j2,⟨j3,j4⟩,j5⟩,j6,j7⟩;simp only at j1 j5 j6 j7;subst j1;obtain⟨t1,t2⟩:=r6 L j3 j4;refine dw gz.o dx ep v4 e0 e1 e2 e3 ec e8 e9 ?_;exact⟨y - (mid+1),af,mid+1,y,iv,_,_,L,rfl,rfl,rfl,rfl,rfl,j5,bJ.trans j6 af,af,af,af,af,rfl,j2,t1,fun R q1 q2=>let ⟨u1,u2⟩:=t2 R q1 q2;hG R (permIn_trans _ _ _ _ _ hP u1) u2⟩
     ·refine ii gz.o dx ep v1 v2 v3 v4 JD e0 e1 e2 (aI e3 (aI ec (aI e8 e9))) ?_
      refine gQ (ih (y - (mid+1)) af A aW Ju af hn (a:=mid+1) (b:=y) iv af af af r5) ?_;rintro⟨u,M3,n3⟩ ⟨j1,⟨L,j2,⟨j3,j4⟩,j5⟩,j6,j7⟩;simp only at j1 j5 j6 j7;subst j1;obtain⟨t1,t2⟩:=r7 L j3 j4;refine dp gz.o dx ep e0 e1 e2 e3 ec e8 e9 ?_;exact⟨mid - x,af,x,mid,iv,_,_,L,rfl,rfl,rfl,rfl,rfl,j5,bJ.trans j6 af,af,af,af,af,rfl,j2,t1,fun R q1 q2=>let ⟨u1,u2⟩:=t2 R q1 q2;hG R (permIn_trans _ _ _ _ _ hP u1) u2⟩
  ·refine dw gz.o dx ep Q9 e0 e1 e2 e3 ec e8 e9 ?_
   refine cA ?_ ak ?_
   ·refine bR gz.o ?_;try exact⟨⟩
   refine dw gz.o dx ep Q9 e0 e1 e2 e3 ec e8 e9 ?_;refine gQ (wpart.o ρ A xu fZ af hn (a:=x) (b:=y) (pivot:=p) af af af) ?_;rintro⟨u,M2,n2⟩ ⟨k1,⟨k2,_⟩,k3,k4⟩;simp only at k1 k2 k3 k4;subst k1;obtain⟨mid,al,d5,AS⟩:∃mid al d5,partition lt d4 x y p=(mid,al,d5):=⟨_,_,_,rfl⟩;rw[AS]at k2 ⊢;simp only at k2 ⊢;have Q_:y<=d4.size:=by rw[fZ];omega
   obtain⟨r1,r2,r3,r4,r5,r6,r7⟩:=round_part A.swo (partition_holds _) (d3:=d4) hp.1 hp.2 Q_ (hB.perm (by rw[bv];omega) hP) AS;have Ju:d5.size=n:=r3.trans fZ;have bJ:=ho.trans k3 af;have aW:=k2;clear k2 k3;have v1:=dO (x:=mid) (y:=x) af af;have v2:=dO (x:=y) (y:=mid) af af;have v3:IntKind.i64.wrap (((y - x:Nat):Int).tdiv 8)=(((y - x) / 8:Nat):Int):=by
    rw[show ((y - x:Nat):Int).tdiv 8=(((y - x) / 8:Nat):Int) by rw[Int.tdiv_eq_ediv_of_nonneg af];omega,wrap_i64 af af]
   have v4:=bu (x:=mid) af;by_cases JD:((mid - x:Nat):Int)<((y - mid:Nat):Int)
   ·refine ii gz.o dx ep v1 v2 v3 v4 JD e0 e1 e2 (aI e3 (aI ec (aI e8 e9))) ?_
    refine gQ (ih (mid - x) af A aW Ju af hn (a:=x) (b:=mid) iv af af af r4) ?_;rintro⟨u,M3,n3⟩ ⟨j1,⟨L,j2,⟨j3,j4⟩,j5⟩,j6,j7⟩;simp only at j1 j5 j6 j7;subst j1;obtain⟨t1,t2⟩:=r6 L j3 j4;refine dw gz.o dx ep v4 e0 e1 e2 e3 ec e8 e9 ?_;exact⟨y - (mid+1),af,mid+1,y,iv,_,_,L,rfl,rfl,rfl,rfl,rfl,j5,bJ.trans j6 af,af,af,af,af,rfl,j2,t1,fun R q1 q2=>let ⟨u1,u2⟩:=t2 R q1 q2;hG R (permIn_trans _ _ _ _ _ hP u1) u2⟩
   ·refine ii gz.o dx ep v1 v2 v3 v4 JD e0 e1 e2 (aI e3 (aI ec (aI e8 e9))) ?_
    refine gQ (ih (y - (mid+1)) af A aW Ju af hn (a:=mid+1) (b:=y) iv af af af r5) ?_;rintro⟨u,M3,n3⟩ ⟨j1,⟨L,j2,⟨j3,j4⟩,j5⟩,j6,j7⟩;simp only at j1 j5 j6 j7;subst j1;obtain⟨t1,t2⟩:=r7 L j3 j4;refine dp gz.o dx ep e0 e1 e2 e3 ec e8 e9 ?_;exact⟨mid - x,af,x,mid,iv,_,_,L,rfl,rfl,rfl,rfl,rfl,j5,bJ.trans j6 af,af,af,af,af,rfl,j2,t1,fun R q1 q2=>let ⟨u1,u2⟩:=t2 R q1 q2;hG R (permIn_trans _ _ _ _ _ hP u1) u2⟩
 ):P:=h
end Go.Xs
