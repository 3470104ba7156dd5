/- A part of the proof: the layers and contracts it rests on. -/
import Derived.Test.YtlgnhkloikmhcaaGreatDoorXsPC
set_option maxRecDepth 100000
set_option maxHeartbeats 8000000
set_option linter.all false
set_option linter.deprecated false
namespace Go.Xs
open List Nat Option
variable{M:Hp}{b m nx:Nat}{cs:List XV}{r:aR}
open Go.Proofs
theorem c_.cells (h:c_ M b r cs):∃pk pa pb pv ve,cs=[.int .i64 r.kind,.int .u64 r.t,.int .u64 r.x,.int .u64 r.w,.int .u64 r.n,.int .u64 r.v,.int .i64 pk,.int .u64 pa,.int .u64 pb,pv,ve] /\
 (cellsOf pv=[pv]/\ax pv=true)/\(cellsOf ve=[ve]/\ax ve=true)/\jm M b ve r.es/\bG M b r.p [.int .i64 pk,.int .u64 pa,.int .u64 pb,pv]:=by
 obtain⟨kind,t,x,w,n,vv,p,es⟩:=r;obtain⟨pc,ve,rfl,he,dZ⟩:=h;have sx:=he;obtain⟨pk,pa,pb,ps⟩:=p;simp only[bG]at sx;obtain⟨v,row,rfl,cw,jd⟩:=sx;exact⟨pk,pa,pb,v,ve,rfl,cw.cell,bE.cell dZ,dZ,he⟩
theorem f164 (ρ:aK) {m:XV} (hr:c_ M b r cs):ar ao ρ 164 [m,.agg cs] M nx (fe nx M (.bool (decide (1<=r.kind)&&decide (r.kind<=7)))):=by
 obtain⟨pk,pa,pb,pv,ve,rfl,⟨p1,p2⟩,⟨q1,q2⟩,_,_⟩:=hr.cells;refine ar.wk 13 [.tmp 4] Tryz.func164 ?_;by_cases c1:1<=r.kind
 ·refine ky oU p1 p2 q1 q2 c1 @fe.eq_1 ?_
  exact⟨(aq.refl _ _).set (Nat.le_refl _) _,af⟩
 ·refine ky oU p1 p2 q1 q2 c1 @fe.eq_1 ?_
  exact⟨aj,(aq.refl _ _).set (Nat.le_refl _) _,af⟩
theorem f166 (ρ:aK) {m:XV} (hr:c_ M b r cs):ar ao ρ 166 [m,.agg cs] M nx (fe nx M (.bool (!(decide (r.t=0))))):=by
 obtain⟨pk,pa,pb,pv,ve,rfl,⟨p1,p2⟩,⟨q1,q2⟩,_,_⟩:=hr.cells;refine ar.wk 8 [.tmp 4] Tryz.func166 ?_;refine ul oU p1 p2 q1 q2 @fe.eq_1 ?_;exact⟨(aq.refl _ _).set (Nat.le_refl _) _,af⟩
def Sp (M:Hp) (b:Nat) (v:XV) (l:List (Nat×Int×Bool)):Prop:=(v = .nilm/\l=[])\/∃em c,v = .mm em/\em<b/\gG M em=some (.map (cx vB l) c)
def L5 (M:Hp) (b m:Nat) (l:List (Nat×Int×Bool)):Prop:=m<b/\∃c0 c1 c2 c3 v,gG M m=some (.row [c0,c1,c2,c3,v])/\Sp M b v l
theorem f169 (ρ:aK) {l:List (Nat×Int×Bool)} (hr:c_ M b r cs) (hm:L5 M b m l) (hb:b<=nx):ar ao ρ 169 [.mp m 0,.agg cs] M nx (fe nx M (.bool (!((aH l r.t).getD false)))):=by
 obtain⟨pk,pa,pb,pv,ve,rfl,⟨p1,p2⟩,⟨q1,q2⟩,_,_⟩:=hr.cells;obtain⟨VI,c0,c1,c2,c3,v,hM,⟨rfl,rfl⟩ | ⟨em,c,rfl,hem,hE⟩⟩:=hm
 ·refine ar.wk 13 [.tmp 4] Tryz.func169 ?_
  refine wT Fs p1 p2 q1 q2 hM @fe.eq_1 @aH.eq_1 @aH.eq_2 ?_;exact⟨(aq.refl _ _).set (Nat.le_refl _) _,af⟩
 ·refine ar.wk 13 [.tmp 4] Tryz.func169 ?_
  refine mD Fs p1 p2 q1 q2 hM hE @fe.eq_1 ?_;exact⟨(aq.refl _ _).set (Nat.le_refl _) _,af⟩
theorem f167 (ρ:aK) {l:List (Nat×Int×Bool)} (hr:c_ M b r cs) (hm:L5 M b m l) (hb:b<=nx):ar ao ρ 167 [.mp m 0,.agg cs] M nx (fe nx M (.bool (!(decide (r.kind=1)) || !(aH l r.t).isSome))):=by
 obtain⟨pk,pa,pb,pv,ve,rfl,⟨p1,p2⟩,⟨q1,q2⟩,_,_⟩:=hr.cells;obtain⟨VI,c0,c1,c2,c3,v,hM,⟨rfl,rfl⟩ | ⟨em,c,rfl,hem,hE⟩⟩:=hm
 all_goals by_cases k1:r.kind=1
 ·refine ar.wk 24 [.tmp 4] Tryz.func167 ?_
  refine rf Fs p1 p2 q1 q2 hM k1 @fe.eq_1 @aH.eq_1 @aH.eq_2 ?_;exact⟨rfl,(aq.refl _ _).set (Nat.le_refl _) _,af⟩
 ·refine ar.wk 24 [.tmp 4] Tryz.func167 ?_
  refine rf Fs p1 p2 q1 q2 hM k1 @fe.eq_1 @aH.eq_1 @aH.eq_2 ?_;exact⟨rfl,(aq.refl _ _).set (Nat.le_refl _) _,af⟩
 ·refine ar.wk 24 [.tmp 4] Tryz.func167 ?_
  refine wT Fs p1 p2 q1 q2 hM hE k1 @fe.eq_1 ?_;exact⟨aj,(aq.refl _ _).set (Nat.le_refl _) _,af⟩
 ·refine ar.wk 24 [.tmp 4] Tryz.func167 ?_
  refine wT Fs p1 p2 q1 q2 hM hE k1 @fe.eq_1 ?_;exact⟨aj,(aq.refl _ _).set (Nat.le_refl _) _,af⟩
theorem f168 (ρ:aK) {l:List (Nat×Int×Bool)} (hr:c_ M b r cs) (hm:L5 M b m l) (hb:b<=nx):ar ao ρ 168 [.mp m 0,.agg cs] M nx (fe nx M (.bool (decide (r.kind=1)||(aH l r.t).isSome))):=by
 obtain⟨pk,pa,pb,pv,ve,rfl,⟨p1,p2⟩,⟨q1,q2⟩,_,_⟩:=hr.cells;obtain⟨VI,c0,c1,c2,c3,v,hM,⟨rfl,rfl⟩ | ⟨em,c,rfl,hem,hE⟩⟩:=hm
 all_goals by_cases k1:r.kind=1
 ·refine ar.wk 23 [.tmp 4] Tryz.func168 ?_
  refine rf L7 p1 p2 q1 q2 hM k1 @fe.eq_1 @aH.eq_1 @aH.eq_2 ?_;exact⟨rfl,(aq.refl _ _).set (Nat.le_refl _) _,af⟩
 ·refine ar.wk 23 [.tmp 4] Tryz.func168 ?_
  refine rf L7 p1 p2 q1 q2 hM k1 @fe.eq_1 @aH.eq_1 @aH.eq_2 ?_;exact⟨rfl,(aq.refl _ _).set (Nat.le_refl _) _,af⟩
 ·refine ar.wk 23 [.tmp 4] Tryz.func168 ?_
  refine wT L7 p1 p2 q1 q2 hM hE k1 @fe.eq_1 ?_;exact⟨aj,(aq.refl _ _).set (Nat.le_refl _) _,af⟩
 ·refine ar.wk 23 [.tmp 4] Tryz.func168 ?_
  refine wT L7 p1 p2 q1 q2 hM hE k1 @fe.eq_1 ?_;exact⟨aj,(aq.refl _ _).set (Nat.le_refl _) _,af⟩
end Go.Xs
namespace Go.Xs
open List Nat Option
variable{M:Hp}
open Go.Proofs
def B3 (r:aR) (cs:List XV):Prop:=∃pk pa pb pv ve,cs=[.int .i64 r.kind,.int .u64 r.t,.int .u64 r.x,.int .u64 r.w,.int .u64 r.n,.int .u64 r.v,.int .i64 pk,.int .u64 pa,.int .u64 pb,pv,ve]/\(cellsOf pv=[pv]/\ax pv=true)/\cellsOf ve=[ve]/\ax ve=true
theorem c_.c {b:Nat} {r:aR} {cs:List XV} (h:c_ M b r cs):B3 r cs:=by
 obtain⟨pk,pa,pb,pv,ve,h1,h2,h3,_,_⟩:=h.cells;exact⟨pk,pa,pb,pv,ve,h1,h2,h3⟩
theorem Zb (ρ:aK) {nx lo hi h:Nat} {S:HS} {tag:Nat->Hg} {vrec vtxs vcom vmods vlook:XV} {nk vk ok cn cv co:Nat} {ptrs:List XV} {lnum:List (Nat×Int×Int)} {lver:List (Nat×List Int×Int)} {lobj:List (Nat×Int×Int)}
 (H:eM M lo hi h S tag vrec vtxs vcom vmods vlook nk vk ok cn cv co ptrs lnum lver lobj) (hh:hi<=nx) {t:Int} {k:Nat} {v:XV} (hk:S.num t=some (k:Int)) (hv:ptrs[k]?=some v) (kA:k<S.txs.length):ar ao ρ 38 [.mp h 0,.int .u64 t] M nx (fe nx M v):=by
 have hr:=H.row;have U0:=H.num;have jc:=H.numS t;rw[hk]at jc;obtain⟨n,o,jw,bC,aU⟩:=H.txs.sl.fldG (P:=ao) kA (t:=78) sr.2.2.2.1;have hl:=aU 0 v af (by simp[hv]) 84 1 Cq.1 M (aq.refl _ _);rw[Nat.add_zero]at hl;refine ar.wk 17 [.tmp 4] Tryz.func38 ?_;refine ky Io hr U0 jc bC hl @fe.eq_1 ?_;exact⟨aq.refl _ _,af⟩
end Go.Xs
namespace Go.Xs
open List Nat Option
def HS.begin (S:HS) (i:Int) (r:aR):HS:={ S with
 txs:=S.txs++[⟨r.t,i,0,3,-1⟩]
 num:=fun t=>if t=r.t then some (S.txs.length:Int) else S.num t
 places:=fun j x=>if j=S.txs.length then [] else S.places j x }
def HS.endTx (S:HS) (k:Nat) (a:ku) (com:List Int):HS:={ S with txs:=S.txs.set k a,com:=com }
section
variable {M M':Hp} {lo hi hi' h:Nat} {S:HS} {tag tag':Nat->Hg} {vrec vtxs vcom vmods vlook:XV} {nk vk ok cn cv co:Nat} {ptrs:List XV} {lnum:List (Nat×Int×Int)} {lver:List (Nat×List Int×Int)} {lobj:List (Nat×Int×Int)}
def pn (k:Nat) (g:Hg):Prop:=g = .hist\/g = .com\/g = .known k
theorem eM.endTx {vcom':XV} {com:List Int} {k:Nat} {a:ku} (H:eM M lo hi h S tag vrec vtxs vcom vmods vlook nk vk ok cn cv co ptrs lnum lver lobj)
 (keep:∀q,q<hi->¬ pn k (tag q)->gG M' q=gG M q) (cH:∀q,q<hi->tag' q=tag q) (hh:hi<=hi')
 (row:gG M' h=some (.row [vrec,vtxs,.mm nk,vcom',vmods,.mm vk,vlook,.mm ok])) (yI:bS M' lo hi' tag' .com vcom' 1 com.length (com.map (XV.int .u64)))
 (known:k<S.txs.length->∃v,ptrs[k]?=some v/\iB M' lo hi' tag' k a (S.places k) v) :
 eM M' lo hi' h (S.endTx k a com) tag' vrec vtxs vcom' vmods vlook nk vk ok cn cv co ptrs lnum lver lobj:=by
 have kk:=fun tg hc=>zf (M:=M) (M':=M') (C:=pn k) keep cH tg hc
 exact {
  lo_h:=H.lo_h,h_hi:=Nat.lt_of_lt_of_le H.h_hi hh,tg:=by rw[cH h H.h_hi];exact H.tg,row:=row
  recs:=H.recs.keep (kk _ (by simp[pn])) hh
  txs:=by have e:(S.endTx k a com).txs.length=S.txs.length:=by simp[HS.endTx]
          rw[e];exact H.txs.keep (kk _ (by simp[pn])) hh
  known:=fun j b hb=>by
   have yY:j<S.txs.length:=by
    have:=(List.getElem?_eq_some_iff.1 hb).1;simpa [HS.endTx] using this
   by_cases hj:j=k
   ·subst hj
    simp only[HS.endTx]at hb;rw[getElem?_set_self yY]at hb;cases hb;exact known yY
   ·simp only[HS.endTx]at hb
    rw[getElem?_set_ne (fun e=>hj e.symm)]at hb;obtain⟨v,h1,h2⟩:=H.known j b hb;exact⟨v,h1,h2.keep (fun q hq hg=>⟨keep q hq (by rcases hg with g | g | ⟨x,g⟩<;>rw[g]<;>simp[pn,hj]),cH q hq⟩) hh⟩
  nlo:=H.nlo,nhi:=Nat.lt_of_lt_of_le H.nhi hh,ntg:=by rw[cH nk H.nhi];exact H.ntg,num:=by rw[(kk _ (by simp[pn]) nk H.nhi H.ntg).1];exact H.num,numS:=H.numS
  com:=yI,mods:=H.mods.keep (kk _ (by simp[pn])) hh
  vlo:=H.vlo,vhi:=Nat.lt_of_lt_of_le H.vhi hh,vtg:=by rw[cH vk H.vhi];exact H.vtg,ver:=by rw[(kk _ (by simp[pn]) vk H.vhi H.vtg).1];exact H.ver,vrow:=H.vrow,verS:=H.verS
  looks:=H.looks.keep (kk _ (by simp[pn])) hh
  olo:=H.olo,ohi:=Nat.lt_of_lt_of_le H.ohi hh,otg:=by rw[cH ok H.ohi];exact H.otg,obj:=by rw[(kk _ (by simp[pn]) ok H.ohi H.otg).1];exact H.obj,objS:=H.objS }
def vo (g:Hg):Prop:=g = .hist\/g = .txs\/g = .num
theorem eM.begin {vtxs':XV} {cn':Nat} {ptr:XV} {lnum':List (Nat×Int×Int)} {r:aR} {i:Int} (H:eM M lo hi h S tag vrec vtxs vcom vmods vlook nk vk ok cn cv co ptrs lnum lver lobj)
 (keep:∀q,q<hi->¬ vo (tag q)->gG M' q=gG M q) (cH:∀q,q<hi->tag' q=tag q) (hh:hi<=hi')
 (row:gG M' h=some (.row [vrec,vtxs',.mm nk,vcom,vmods,.mm vk,vlook,.mm ok])) (txs:bS M' lo hi' tag' .txs vtxs' 1 (S.txs.length+1) (ptrs++[ptr]))
 (num:gG M' nk=some (.map (cx (vI .i64) lnum') cn')) (numS:∀t,aH lnum' t=(S.begin i r).num t)
 (known:iB M' lo hi' tag' S.txs.length ⟨r.t,i,0,3,-1⟩ (fun _=>[]) ptr) :
 eM M' lo hi' h (S.begin i r) tag' vrec vtxs' vcom vmods vlook nk vk ok cn' cv co (ptrs++[ptr]) lnum' lver lobj:=by
 have kk:=fun tg hc=>zf (M:=M) (M':=M') (C:=vo) keep cH tg hc
 have gE:ptrs.length=S.txs.length:=by have:=H.txs.2.1;omega
 exact {
  lo_h:=H.lo_h,h_hi:=Nat.lt_of_lt_of_le H.h_hi hh,tg:=by rw[cH h H.h_hi];exact H.tg,row:=row
  recs:=H.recs.keep (kk _ (by simp[vo])) hh
  txs:=by have e:(S.begin i r).txs.length=S.txs.length+1:=by simp[HS.begin]
          rw[e];exact txs
  known:=fun j b hb=>by
   simp only[HS.begin]at hb ⊢;by_cases hj:j=S.txs.length
   ·subst hj
    simp only[getElem?_concat_length,Option.some.injEq]at hb;subst hb;refine⟨ptr,by rw[<-gE,getElem?_concat_length],?_⟩;have e:(fun x=>if S.txs.length=S.txs.length then [] else S.places S.txs.length x)=(fun _:Int=>([]:List Int)):=funext fun x=>if_pos rfl
    rw[e];exact known
   ·have yY:j<S.txs.length:=by
     have:=(List.getElem?_eq_some_iff.1 hb).1;simp only[length_append,length_cons,length_nil]at this;omega
    rw[getElem?_append_left yY]at hb;obtain⟨v,h1,h2⟩:=H.known j b hb;have e:(fun x=>if j=S.txs.length then [] else S.places j x)=S.places j:=funext fun x=>if_neg hj
    rw[e];exact⟨v,by rw[getElem?_append_left af];exact h1,h2.keep (fun q hq hg=>⟨keep q hq (by rcases hg with g | g | ⟨x,g⟩<;>rw[g]<;>simp[vo]),cH q hq⟩) hh⟩
  nlo:=H.nlo,nhi:=Nat.lt_of_lt_of_le H.nhi hh,ntg:=by rw[cH nk H.nhi];exact H.ntg,num:=num,numS:=numS
  com:=H.com.keep (kk _ (by simp[vo])) hh,mods:=H.mods.keep (kk _ (by simp[vo])) hh
  vlo:=H.vlo,vhi:=Nat.lt_of_lt_of_le H.vhi hh,vtg:=by rw[cH vk H.vhi];exact H.vtg,ver:=by rw[(kk _ (by simp[vo]) vk H.vhi H.vtg).1];exact H.ver,vrow:=H.vrow,verS:=H.verS
  looks:=H.looks.keep (kk _ (by simp[vo])) hh
  olo:=H.olo,ohi:=Nat.lt_of_lt_of_le H.ohi hh,otg:=by rw[cH ok H.ohi];exact H.otg,obj:=by rw[(kk _ (by simp[vo]) ok H.ohi H.otg).1];exact H.obj,objS:=H.objS }
end
end Go.Xs
namespace Go.Xs
open List Nat Option
variable{M:Hp}{S:HS}{cs:List XV}{h hi k lo nx:Nat}{r:aR}
open Go.Proofs
structure yp (M:Hp) (nx h rk nk mm vm om m:Nat) (ys:List XV) (c0 c1 c4 c6:XV) (T B N:Int) (i:Int) (old:List Nat) (o:ew):Prop where
 post:nx<=o.2.2/\gG o.2.1 rk=some (.row [.int .u64 T,.int .i64 B,.int .i64 i,.int .i64 1,.int .i64 (m:Int),.mm mm])/\(∃nc,nx<=nc/\nc<o.2.2/\gG o.2.1 h=some (.row [c0,c1,.mm nk,.sl nc 1 0 (m+1) (m+1),c4,.mm vm,c6,.mm om])/\gG o.2.1 nc=some (.row (ys++[.int .u64 T])))/\∀j,j<nx->j≠rk->j≠h->j ∉ old->gG o.2.1 j=gG M j
theorem Sx (ρ:aK) (M:Hp) (nx h rk mm:Nat) (pp pe:XV) (T B E S N X VW VN V pk pa pb:Int) (i:Int)
 (hr:gG M rk=some (.row [.int .u64 T,.int .i64 B,.int .i64 E,.int .i64 S,.int .i64 N,.mm mm]))
 (pH:∀M' nx',aq nx M M'->nx<=nx'->ar ao ρ 38 [.mp h 0,.int .u64 T] M' nx' (fe nx' M' (.mp rk 0)))
 (b2:rk<nx) (p1:cellsOf pp=[pp]) (p2:ax pp=true) (p3:cellsOf pe=[pe]) (p4:ax pe=true) :
 ar ao ρ 30 [.mp h 0,.int .i64 i,.agg [.int .i64 7,.int .u64 T,.int .u64 X,.int .u64 VW,.int .u64 VN,.int .u64 V,.int .i64 pk,.int .u64 pa,.int .u64 pb,pp,pe]] M nx fun o =>
  o.1 = .tup []/\nx<=o.2.2/\gG o.2.1 rk=some (.row [.int .u64 T,.int .i64 B,.int .i64 i,.int .i64 2,.int .i64 N,.mm mm])/\∀j,j<nx->j≠rk->gG o.2.1 j=gG M j:=by
 refine ar.wk 134 [] Tryz.func30 ?_;refine lO BU p1 p2 p3 p4 ?_;generalize xu:aG M nx _=M1;have a1:aq nx M M1:=by rw[<-xu];exact O
 clear xu;refine gQ (pH _ _ a1 af) ?_;rintro⟨v,M2,n2⟩ ⟨g1,g2,g3⟩;simp only at g1 g2 g3;subst g1;have a2:=a1.trans (g2.le af);have zr:=(a2 rk b2).trans hr;clear g2 a1 hr pH;refine fM BU zr ?_;refine⟨af,fun j hj cf=>?_⟩;have:=a2 j hj;have k0:aw rk j=False:=by simp only[aw,eq_iff_iff,iff_false];exact fun e=>cf e.symm
 refine gk BU k0 this ?_;try exact⟨⟩
theorem PG (ρ:aK) (M:Hp) (nx h rk nk mm vm om cs m:Nat) (ys:List XV) (c0 c1 c4 c6 pp pe:XV) (T B E S N X VW VN V pk pa pb:Int) (i:Int)
 (hh:gG M h=some (.row [c0,c1,.mm nk,.nils,c4,.mm vm,c6,.mm om]))
 (hr:gG M rk=some (.row [.int .u64 T,.int .i64 B,.int .i64 E,.int .i64 S,.int .i64 N,.mm mm]))
 (pH:∀M' nx',aq nx M M'->nx<=nx'->ar ao ρ 38 [.mp h 0,.int .u64 T] M' nx' (fe nx' M' (.mp rk 0)))
 (b1:h<nx) (b2:rk<nx) (hd:aw h rk=False/\aw rk h=False) (p1:cellsOf pp=[pp]) (p2:ax pp=true) (p3:cellsOf pe=[pe]) (p4:ax pe=true) :
 ar ao ρ 30 [.mp h 0,.int .i64 i,.agg [.int .i64 6,.int .u64 T,.int .u64 X,.int .u64 VW,.int .u64 VN,.int .u64 V,.int .i64 pk,.int .u64 pa,.int .u64 pb,pp,pe]] M nx fun o =>
  o.1 = .tup []/\yp M nx h rk nk mm vm om 0 [] c0 c1 c4 c6 T B N i [] o:=by
 refine ar.wk 134 [] Tryz.func30 ?_;refine lO BU p1 p2 p3 p4 ?_;generalize xu:aG M nx _=M1;have a1:aq nx M M1:=by rw[<-xu];exact O
 have z0:gG M1 nx=some (.row [.int .i64 6,.int .u64 T,.int .u64 X,.int .u64 VW,.int .u64 VN,.int .u64 V,.int .i64 pk,.int .u64 pa,.int .u64 pb,pp,pe]):=by rw[<-xu];exact J
 clear xu;refine gQ (pH _ _ a1 af) ?_;rintro⟨v,M2,n2⟩ ⟨g1,g2,g3⟩;simp only at g1 g2 g3;subst g1;have a2:=a1.trans (g2.le af);have zr:=(a2 rk b2).trans hr;have zh:=(a2 h b1).trans hh;replace z0:=(g2 nx af).trans z0;clear g2 a1 hr hh pH;refine lO BU zr zh z0 hd ?_;have zz:=fun j hj=>a2 j hj
 refine⟨?_,⟨an,?_,⟨n2+30,af,an,?_,?_⟩,fun j hj f1 f2 fA=>?_⟩⟩
 ·(repeat' apply ap)<;>exact yj
 rotate_right
 ·have zj:=zz j hj
  have k0:aw rk j=False:=by simp only[aw,eq_iff_iff,iff_false];exact fun e=>f1 e.symm
  have k1:aw h j=False:=by simp only[aw,eq_iff_iff,iff_false];exact fun e=>f2 e.symm
  refine jz BU k0 k1 zj ?_;try exact⟨⟩
 all_goals first
  | ((refine fM BU hd ?_;try exact⟨⟩);done)
  | ((refine fM BU hd ?_;try exact⟨⟩);first | rfl | (simp;done))
  | skip
theorem PV (ρ:aK) (M:Hp) (nx h rk nk mm vm om cs m:Nat) (ys:List XV) (c0 c1 c4 c6 pp pe:XV) (T B E S N X VW VN V pk pa pb:Int) (i:Int)
 (hh:gG M h=some (.row [c0,c1,.mm nk,.sl cs 1 0 m m,c4,.mm vm,c6,.mm om])) (dI:gG M cs=some (.row ys)) (cF:ys.length=m) (b3:cs<nx) (hm:1<=m) (bm:m<=100000)
 (hr:gG M rk=some (.row [.int .u64 T,.int .i64 B,.int .i64 E,.int .i64 S,.int .i64 N,.mm mm]))
 (pH:∀M' nx',aq nx M M'->nx<=nx'->ar ao ρ 38 [.mp h 0,.int .u64 T] M' nx' (fe nx' M' (.mp rk 0)))
 (b1:h<nx) (b2:rk<nx) (hd:aw h rk=False/\aw rk h=False/\aw h cs=False/\aw cs h=False/\aw rk cs=False/\aw cs rk=False) (p1:cellsOf pp=[pp]) (p2:ax pp=true) (p3:cellsOf pe=[pe]) (p4:ax pe=true) :
 ar ao ρ 30 [.mp h 0,.int .i64 i,.agg [.int .i64 6,.int .u64 T,.int .u64 X,.int .u64 VW,.int .u64 VN,.int .u64 V,.int .i64 pk,.int .u64 pa,.int .u64 pb,pp,pe]] M nx fun o =>
  o.1 = .tup []/\yp M nx h rk nk mm vm om m ys c0 c1 c4 c6 T B N i [cs] o:=by
 refine ar.wk 134 [] Tryz.func30 ?_;refine lO BU p1 p2 p3 p4 ?_;generalize xu:aG M nx _=M1;have a1:aq nx M M1:=by rw[<-xu];exact O
 have z0:gG M1 nx=some (.row [.int .i64 6,.int .u64 T,.int .u64 X,.int .u64 VW,.int .u64 VN,.int .u64 V,.int .i64 pk,.int .u64 pa,.int .u64 pb,pp,pe]):=by rw[<-xu];exact J
 clear xu;refine gQ (pH _ _ a1 af) ?_;rintro⟨v,M2,n2⟩ ⟨g1,g2,g3⟩;simp only at g1 g2 g3;subst g1;have a2:=a1.trans (g2.le af);have zr:=(a2 rk b2).trans hr;have zh:=(a2 h b1).trans hh;replace z0:=(g2 nx af).trans z0;have zc:=(a2 cs b3).trans dI;clear dI;clear g2 a1 hr hh pH;refine ky BU zr zh z0 hd zc cF ?_;have kB:List.take m ys=ys:=take_of_length_le af;have zz:=fun j hj=>a2 j hj
 refine⟨?_,⟨an,?_,⟨n2+30,af,an,?_,?_⟩,fun j hj f1 f2 fA=>?_⟩⟩
 ·(repeat' apply ap)<;>exact yj
 rotate_right
 ·have zj:=zz j hj
  have k0:aw rk j=False:=by simp only[aw,eq_iff_iff,iff_false];exact fun e=>f1 e.symm
  have k1:aw h j=False:=by simp only[aw,eq_iff_iff,iff_false];exact fun e=>f2 e.symm
  have k2:aw cs j=False:=by simp only[aw,eq_iff_iff,iff_false];exact fun e=>fA (by rw[<-e];simp)
  refine lO BU k0 k1 k2 zj ?_;try exact⟨⟩
 all_goals first
  | ((refine gk BU hd kB ?_;try exact⟨⟩);done)
  | ((refine gk BU hd kB ?_;try exact⟨⟩);first | rfl | (simp;done))
  | skip
theorem Ni (ρ:aK) (hr:B3 r cs) (H:bX M lo hi h S) (hh:hi<=nx) (k7:r.kind=7) (hk:S.num r.t=some (k:Int)) {a:ku} (ha:S.txs[k]?=some a) (qL:a.t=r.t) (i:Int) :
 ar ao ρ 30 [.mp h 0,.int .i64 i,.agg cs] M nx fun o=>o.1 = .tup []/\bX o.2.1 lo o.2.2 h (S.endTx k ⟨r.t,a.b,i,2,a.n⟩ S.com)/\aq lo M o.2.1/\nx<=o.2.2:=by
 obtain⟨pk,pa,pb,pv,ve,rfl,⟨p1,p2⟩,⟨q1,q2⟩⟩:=hr;rw[k7];obtain⟨tag,vrec,vtxs,vcom,vmods,vlook,nk,vk,ok,cn,cv,co,ptrs,lnum,lver,lobj,H⟩:=H;have kA:k<S.txs.length:=(List.getElem?_eq_some_iff.1 ha).1;obtain⟨w,hv,rk,mk,cm,lm,rfl,r1,r2,r3,r4,m1,m2,m3,m4,l0,l1⟩:=H.known k a ha;have pH:∀M' nx',aq nx M M'->nx<=nx'->ar ao ρ 38 [.mp h 0,.int .u64 r.t] M' nx' (fe nx' M' (.mp rk 0)):=fun M' nx' ha hn=>Zb ρ (H.agr (ha.le hh)) af hk hv kA
 simp only[d_,cons_append,nil_append,qL]at r4;have vg:=H.h_hi;have mo:=H.lo_h;refine ar.mono (Sx ρ M nx h rk mk pv ve r.t a.b a.e a.s a.n r.x r.w r.n r.v pk pa pb i r4 pH af p1 p2 q1 q2) fun o ⟨g1,g2,g3,g4⟩=>⟨g1,?_,fun j hj=>g4 j af af,g2⟩
 have key:∀q,q<hi->¬ pn k (tag q)->gG o.2.1 q=gG M q:=fun q hq hc=>g4 q af fun e=>hc (by rw[e];exact .inr (.inr r3))
 have d1:=aZ H.tg r3 aj;have kc:∀(tg:Hg),tg ≠ .known k->∀q,q<hi->tag q=tg->gG o.2.1 q=gG M q/\tag q=tg:=fun tg h1 q hq hg=>⟨g4 q af fun e=>h1 (by rw[<-hg,e];exact r3),hg⟩
 refine⟨tag,vrec,vtxs,vcom,vmods,vlook,nk,vk,ok,cn,cv,co,ptrs,lnum,lver,lobj,H.endTx key (fun _ _=>rfl) af ?_ (H.com.keep (kc _ aj) af) fun _=>⟨_,hv,rk,mk,cm,lm,rfl,r1,af,r3,?_,m1,af,m3,?_,l0,fun x v hx=>?_⟩⟩
 ·rw[(kc _ aj h H.h_hi H.tg).1];exact H.row
 ·rw[g3];rfl
 ·rw[(kc _ aj mk m2 m3).1];exact m4
 ·obtain⟨e1,e2⟩:=l1 x v hx
  exact⟨e1,e2.keep (kc _ aj) af⟩
theorem Ki (ρ:aK) (hr:B3 r cs) (H:bX M lo hi h S) (hh:hi<=nx) (k6:r.kind=6) (hk:S.num r.t=some (k:Int)) {a:ku} (ha:S.txs[k]?=some a) (qL:a.t=r.t) (few:S.com.length<=100000) (i:Int) :
 ar ao ρ 30 [.mp h 0,.int .i64 i,.agg cs] M nx fun o=>o.1 = .tup []/\bX o.2.1 lo o.2.2 h (S.endTx k ⟨r.t,a.b,i,1,(S.com.length:Int)⟩ (S.com++[r.t]))/\aq lo M o.2.1/\nx<=o.2.2:=by
 obtain⟨pk,pa,pb,pv,ve,rfl,⟨p1,p2⟩,⟨q1,q2⟩⟩:=hr;rw[k6];obtain⟨tag,vrec,vtxs,vcom,vmods,vlook,nk,vk,ok,cn,cv,co,ptrs,lnum,lver,lobj,H⟩:=H;have kA:k<S.txs.length:=(List.getElem?_eq_some_iff.1 ha).1;obtain⟨w,hv,rk,mk,cm,lm,rfl,r1,r2,r3,r4,m1,m2,m3,m4,l0,l1⟩:=H.known k a ha;have pH:∀M' nx',aq nx M M'->nx<=nx'->ar ao ρ 38 [.mp h 0,.int .u64 r.t] M' nx' (fe nx' M' (.mp rk 0)):=fun M' nx' ha hn=>Zb ρ (H.agr (ha.le hh)) af hk hv kA
 simp only[d_,cons_append,nil_append,qL]at r4;have vg:=H.h_hi;have mo:=H.lo_h;have d1:=aZ H.tg r3 aj;have fin:∀(old:List Nat) (o:ew),(∀j ∈ old,tag j = .com)->(∀j ∈ old,lo<=j)->yp M nx h rk nk mk vk ok S.com.length (S.com.map (XV.int .u64)) vrec vtxs vmods vlook r.t a.b a.n i old o ->
  bX o.2.1 lo o.2.2 h (S.endTx k ⟨r.t,a.b,i,1,(S.com.length:Int)⟩ (S.com++[r.t]))/\aq lo M o.2.1/\nx<=o.2.2:=by
  intro old o h1 h2 P;obtain⟨⟨g2,g3,⟨nc,c1,c2,c3,c4⟩,g4⟩⟩:=P;have key:∀q,q<hi->¬ pn k (tag q)->gG o.2.1 q=gG M q:=fun q hq hc=>g4 q af (fun e=>hc (by rw[e];exact .inr (.inr r3))) (fun e=>hc (by rw[e];exact .inl H.tg)) fun e=>hc (.inr (.inl (h1 q e)))
  have kc:∀(tg:Hg),¬ pn k tg->∀q,q<hi->tag q=tg->gG o.2.1 q=gG M q/\(if q=nc then Hg.com else tag q)=tg:=fun tg h1 q hq hg=>⟨key q hq (by rw[hg];exact h1),by rw[if_neg af];exact hg⟩
  refine⟨⟨fun q=>if q=nc then .com else tag q,vrec,vtxs,_,vmods,vlook,nk,vk,ok,cn,cv,co,ptrs,lnum,lver,lobj,H.endTx (tag':=fun q=>if q=nc then .com else tag q) key (fun q hq=>if_neg af) af c3 ?_ fun _=>⟨_,hv,rk,mk,cm,lm,rfl,r1,af,by simp only;rw[if_neg af];exact r3,?_,m1,af,by simp only;rw[if_neg af];exact m3,?_,l0,fun x v hx=>?_⟩⟩,fun j hj=>g4 j af af af fun e=>by have:=h2 j e;omega,g2⟩
  ·have e:(S.com++[r.t]).length=S.com.length+1:=aj
   rw[e];exact⟨af,aj,.inr ⟨af,nc,rfl,af,c2,aj,by rw[c4,map_append];rfl⟩⟩
  ·rw[g3];rfl
  ·rw[key mk m2 (by rw[m3];simp[pn])];exact m4
  ·obtain⟨e1,e2⟩:=l1 x v hx
   exact⟨e1,e2.keep (kc _ (by simp[pn])) af⟩
 have bA:=H.row;obtain⟨hz,cF,⟨rfl,pG⟩ | ⟨hl,ck,rfl,s1,s2,s3,s4⟩⟩:=H.com
 ·have RM:S.com=[]:=length_eq_zero_iff.1 pG
  have hd:aw h rk=False/\aw rk h=False:=by simp only[aw,eq_iff_iff,iff_false];exact⟨d1,d1.symm⟩
  refine ar.mono (PG ρ M nx h rk nk mk vk ok 0 0 [] vrec vtxs vmods vlook pv ve r.t a.b a.e a.s a.n r.x r.w r.n r.v pk pa pb i bA r4 pH af af hd p1 p2 q1 q2) fun o ho=>⟨ho.1,fin [] o (fun j hj=>by cases hj) (fun j hj=>by cases hj) ?_⟩
  rw[RM];exact ho.2
 ·have d2:=aZ H.tg s3 aj
  have d3:=aZ r3 s3 aj;have hd:aw h rk=False/\aw rk h=False/\aw h ck=False/\aw ck h=False/\aw rk ck=False/\aw ck rk=False:=by simp only[aw,eq_iff_iff,iff_false];exact⟨d1,d1.symm,d2,d2.symm,d3,d3.symm⟩
  refine ar.mono (PV ρ M nx h rk nk mk vk ok ck S.com.length (S.com.map (XV.int .u64)) vrec vtxs vmods vlook pv ve r.t a.b a.e a.s a.n r.x r.w r.n r.v pk pa pb i bA s4 aj af hl few r4 pH af af hd p1 p2 q1 q2) fun o ho=>⟨ho.1,fin [ck] o (fun j hj=>?_) (fun j hj=>?_) ho.2⟩
  ·simp only[mem_cons,not_mem_nil,or_false]at hj;subst hj;exact s3
  ·simp only[mem_cons,not_mem_nil,or_false]at hj;subst hj;exact s1
structure nX (M:Hp) (nx h nk rk mm vm om:Nat) (old:List Nat) (cm cv co m q:Nat) (lm:List (Nat×Int×XV)) (lv:List (Nat×List Int×Int)) (lo:List (Nat×Int×Int)) (ys zs:List XV) (c0 c1 c3 c6:XV) (T B E S N K X V:Int) (i:Int) (o:ew):Prop where
 post:nx<=o.2.2/\∃ns nm cm' cv' co',nx<=ns/\nx<=nm/\ns<o.2.2/\nm<o.2.2/\ns≠nm/\(cm'=lB lm cm X/\co'=lB lo co X) /\
  gG o.2.1 h=some (.row [c0,c1,.mm nk,c3,.sl nm 8 0 (m+1) (m+1),.mm vm,c6,.mm om])/\gG o.2.1 rk=some (.row [.int .u64 T,.int .i64 B,.int .i64 E,.int .i64 S,.int .i64 N,.mm mm]) /\
  gG o.2.1 mm=some (.map (cx vX (dD lm cm X (.sl ns 1 0 (q+1) (q+1)))) cm')/\gG o.2.1 vm=some (.map (eY (vI .i64) (dD lv cv [X,T,((q+1:Nat):Int)] (m:Int))) cv') /\
  gG o.2.1 om=some (.map (cx (vI .i64) (dD lo co X ((aH lo X).getD 0+1))) co')/\gG o.2.1 ns=some (.row (zs++[.int .i64 (m:Int)])) /\
  gG o.2.1 nm=some (.row (ys++[.int .i64 i,.int .u64 T,.int .u64 X,.int .u64 T,.int .u64 ((q+1:Nat):Int),.int .u64 V,.bool (decide (K=4)),.bool false])) /\
  ∀j,j<nx->j≠h->j≠mm->j≠vm->j≠om->j ∉ old->gG o.2.1 j=gG M j
theorem PQ (ρ:aK) (M:Hp) (nx h nk rk mm vm om ms s:Nat) (cm cv co m q:Nat) (lm:List (Nat×Int×XV)) (lv:List (Nat×List Int×Int)) (lo:List (Nat×Int×Int)) (ys zs:List XV) (c0 c1 c3 c6 pp pe:XV) (T B E S N K X VW VN V pk pa pb:Int) (i:Int)
 (hh:gG M h=some (.row [c0,c1,.mm nk,c3,.nils,.mm vm,c6,.mm om])) (hr:gG M rk=some (.row [.int .u64 T,.int .i64 B,.int .i64 E,.int .i64 S,.int .i64 N,.mm mm]))
 (vY:gG M mm=some (.map (cx vX lm) cm)) (Ec:gG M vm=some (.map (eY (vI .i64) lv) cv)) (JG:gG M om=some (.map (cx (vI .i64) lo) co)) (QV:jL 3 lv) (Ba:aH lm X=none)
 (pH:∀M' nx',aq nx M M'->nx<=nx'->ar ao ρ 38 [.mp h 0,.int .u64 T] M' nx' (fe nx' M' (.mp rk 0)))
 (b1:h<nx) (b2:rk<nx) (b3:mm<nx) (b4:vm<nx) (b5:om<nx) (hd:aw h rk=False/\aw rk h=False/\aw h mm=False/\aw mm h=False/\aw h vm=False/\aw vm h=False/\aw h om=False/\aw om h=False/\aw rk mm=False/\aw mm rk=False/\aw rk vm=False/\aw vm rk=False/\aw rk om=False/\aw om rk=False/\aw mm vm=False/\aw vm mm=False/\aw mm om=False/\aw om mm=False/\aw vm om=False/\aw om vm=False) (hw:IntKind.i64.wrap ((aH lo X).getD 0+1)=(aH lo X).getD 0+1)
 (p1:cellsOf pp=[pp]) (p2:ax pp=true) (p3:cellsOf pe=[pe]) (p4:ax pe=true) :
 ar ao ρ 68 [.mp h 0,.int .i64 i,.agg [.int .i64 K,.int .u64 T,.int .u64 X,.int .u64 VW,.int .u64 VN,.int .u64 V,.int .i64 pk,.int .u64 pa,.int .u64 pb,pp,pe]] M nx fun o =>
  o.1 = .tup []/\nX M nx h nk rk mm vm om [] cm cv co 0 0 lm lv lo [] [] c0 c1 c3 c6 T B E S N K X V i o:=by
 have bV:IntKind.u64.wrap (IntKind.i64.wrap ((0:Nat)+1))=((0+1:Nat):Int):=by
  rw[wrap_i64 af af,wrap_u64 af af];omega
 simp only[Int.cast_ofNat_Int]at bV;refine ar.wk 85 [] Tryz.func68 ?_;refine ky Fl hh p2 p4 hd p1 p3 ?_;generalize xu:aG M nx _=M1;have a1:aq nx M M1:=by rw[<-xu];exact O
 have z0:gG M1 nx=some (.row [.int .i64 K,.int .u64 T,.int .u64 X,.int .u64 VW,.int .u64 VN,.int .u64 V,.int .i64 pk,.int .u64 pa,.int .u64 pb,pp,pe]):=by rw[<-xu];exact J
 clear xu;refine gQ (pH _ _ a1 af) ?_;rintro⟨v,M2,n2⟩ ⟨g1,g2,g3⟩;simp only at g1 g2 g3;subst g1;have a2:=a1.trans (g2.le af);replace z0:=(g2 nx af).trans z0;have zh:=(a2 h b1).trans hh;have zr:=(a2 rk b2).trans hr;have zm:=(a2 mm b3).trans vY;have zv:=(a2 vm b4).trans Ec;have zo:=(a2 om b5).trans JG;clear g2 a1 hh hr vY Ec JG pH;refine yq Fl z0 zh zr zm zv zo Ba QV hd hw bV ?_
 repeat' apply ap
 all_goals first
  | (refine bn _ _ _ _ _ _ ?_ ?_ ?_<;>(intro x hx hy;first | (simp only[mem_cons,not_mem_nil,or_false]at hx hy;done) | (simp only[mem_cons,not_mem_nil,or_false]at hx hy;omega));done)
  | skip
 have zz:=fun j hj=>a2 j hj
 refine⟨⟨an,n2+37,n2+67,lB lm cm X,lB lv cv [X,T,((0+1:Nat):Int)],lB lo co X,af,af,an,an,af,⟨rfl,rfl⟩,?_,?_,?_,?_,?_,?_,?_,fun j hj f1 f2 fA hW fP=>?_⟩⟩
 rotate_right
 ·have zj:=zz j hj
  have k0:aw h j=False:=by simp only[aw,eq_iff_iff,iff_false];exact fun e=>f1 e.symm
  have k1:aw mm j=False:=by simp only[aw,eq_iff_iff,iff_false];exact fun e=>f2 e.symm
  have k2:aw vm j=False:=by simp only[aw,eq_iff_iff,iff_false];exact fun e=>fA e.symm
  have k3:aw om j=False:=by simp only[aw,eq_iff_iff,iff_false];exact fun e=>hW e.symm
  refine ul Fl k0 k1 k2 k3 zj ?_;try exact⟨⟩
 all_goals first
  | ((refine gk Fl hd zr ?_;try exact⟨⟩);done)
  | ((refine gk Fl hd zr ?_;try exact⟨⟩);first | rfl | (simp;done))
  | skip
theorem Qn (ρ:aK) (M:Hp) (nx h nk rk mm vm om ms s:Nat) (cm cv co m q:Nat) (lm:List (Nat×Int×XV)) (lv:List (Nat×List Int×Int)) (lo:List (Nat×Int×Int)) (ys zs:List XV) (c0 c1 c3 c6 pp pe:XV) (T B E S N K X VW VN V pk pa pb:Int) (i:Int)
 (hh:gG M h=some (.row [c0,c1,.mm nk,c3,.sl ms 8 0 m m,.mm vm,c6,.mm om])) (hr:gG M rk=some (.row [.int .u64 T,.int .i64 B,.int .i64 E,.int .i64 S,.int .i64 N,.mm mm]))
 (vY:gG M mm=some (.map (cx vX lm) cm)) (Ec:gG M vm=some (.map (eY (vI .i64) lv) cv)) (JG:gG M om=some (.map (cx (vI .i64) lo) co)) (QV:jL 3 lv) (Ba:aH lm X=none) (F3:gG M ms=some (.row ys)) (hy:ys.length=m*8) (b6:ms<nx) (bm:m<=100000)
 (pH:∀M' nx',aq nx M M'->nx<=nx'->ar ao ρ 38 [.mp h 0,.int .u64 T] M' nx' (fe nx' M' (.mp rk 0)))
 (b1:h<nx) (b2:rk<nx) (b3:mm<nx) (b4:vm<nx) (b5:om<nx) (hd:aw h rk=False/\aw rk h=False/\aw h mm=False/\aw mm h=False/\aw h vm=False/\aw vm h=False/\aw h om=False/\aw om h=False/\aw h ms=False/\aw ms h=False/\aw rk mm=False/\aw mm rk=False/\aw rk vm=False/\aw vm rk=False/\aw rk om=False/\aw om rk=False/\aw rk ms=False/\aw ms rk=False/\aw mm vm=False/\aw vm mm=False/\aw mm om=False/\aw om mm=False/\aw mm ms=False/\aw ms mm=False/\aw vm om=False/\aw om vm=False/\aw vm ms=False/\aw ms vm=False/\aw om ms=False/\aw ms om=False) (hw:IntKind.i64.wrap ((aH lo X).getD 0+1)=(aH lo X).getD 0+1)
 (p1:cellsOf pp=[pp]) (p2:ax pp=true) (p3:cellsOf pe=[pe]) (p4:ax pe=true) :
 ar ao ρ 68 [.mp h 0,.int .i64 i,.agg [.int .i64 K,.int .u64 T,.int .u64 X,.int .u64 VW,.int .u64 VN,.int .u64 V,.int .i64 pk,.int .u64 pa,.int .u64 pb,pp,pe]] M nx fun o =>
  o.1 = .tup []/\nX M nx h nk rk mm vm om [ms] cm cv co m 0 lm lv lo ys [] c0 c1 c3 c6 T B E S N K X V i o:=by
 have bV:IntKind.u64.wrap (IntKind.i64.wrap ((0:Nat)+1))=((0+1:Nat):Int):=by
  rw[wrap_i64 af af,wrap_u64 af af];omega
 simp only[Int.cast_ofNat_Int]at bV;refine ar.wk 85 [] Tryz.func68 ?_;refine ky Fl hh p2 p4 hd p1 p3 ?_;generalize xu:aG M nx _=M1;have a1:aq nx M M1:=by rw[<-xu];exact O
 have z0:gG M1 nx=some (.row [.int .i64 K,.int .u64 T,.int .u64 X,.int .u64 VW,.int .u64 VN,.int .u64 V,.int .i64 pk,.int .u64 pa,.int .u64 pb,pp,pe]):=by rw[<-xu];exact J
 clear xu;refine gQ (pH _ _ a1 af) ?_;rintro⟨v,M2,n2⟩ ⟨g1,g2,g3⟩;simp only at g1 g2 g3;subst g1;have a2:=a1.trans (g2.le af);replace z0:=(g2 nx af).trans z0;have zh:=(a2 h b1).trans hh;have zr:=(a2 rk b2).trans hr;have zm:=(a2 mm b3).trans vY;have zv:=(a2 vm b4).trans Ec;have zo:=(a2 om b5).trans JG;have zms:=(a2 ms b6).trans F3;clear g2 a1 hh hr vY Ec JG pH;refine yq Fl z0 zh zr zm zv zo Ba QV hd hw (aI bV (aI zms hy)) ?_
 repeat' apply ap
 all_goals first
  | (refine bn _ _ _ _ _ _ ?_ ?_ ?_<;>(intro x hx hy;first | (simp only[mem_cons,not_mem_nil,or_false]at hx hy;done) | (simp only[mem_cons,not_mem_nil,or_false]at hx hy;omega));done)
  | skip
 have UQ:List.take (m*8) ys=ys:=take_of_length_le af;have zz:=fun j hj=>a2 j hj
 refine⟨⟨an,n2+37,n2+67,lB lm cm X,lB lv cv [X,T,((0+1:Nat):Int)],lB lo co X,af,af,an,an,af,⟨rfl,rfl⟩,?_,?_,?_,?_,?_,?_,?_,fun j hj f1 f2 fA hW fP=>?_⟩⟩
 rotate_right
 ·have zj:=zz j hj
  have k0:aw h j=False:=by simp only[aw,eq_iff_iff,iff_false];exact fun e=>f1 e.symm
  have k1:aw mm j=False:=by simp only[aw,eq_iff_iff,iff_false];exact fun e=>f2 e.symm
  have k2:aw vm j=False:=by simp only[aw,eq_iff_iff,iff_false];exact fun e=>fA e.symm
  have k3:aw om j=False:=by simp only[aw,eq_iff_iff,iff_false];exact fun e=>hW e.symm
  have k4:aw ms j=False:=by simp only[aw,eq_iff_iff,iff_false];exact fun e=>fP (by rw[<-e];simp)
  refine ky Fl k0 k1 k2 k3 k4 zj ?_;try exact⟨⟩
 all_goals first
  | ((refine jz Fl hd zr UQ ?_;try exact⟨⟩);done)
  | ((refine jz Fl hd zr UQ ?_;try exact⟨⟩);first | rfl | (simp;done))
  | skip
theorem Qj (ρ:aK) (M:Hp) (nx h nk rk mm vm om ms s:Nat) (cm cv co m q:Nat) (lm:List (Nat×Int×XV)) (lv:List (Nat×List Int×Int)) (lo:List (Nat×Int×Int)) (ys zs:List XV) (c0 c1 c3 c6 pp pe:XV) (T B E S N K X VW VN V pk pa pb:Int) (i:Int)
 (hh:gG M h=some (.row [c0,c1,.mm nk,c3,.nils,.mm vm,c6,.mm om])) (hr:gG M rk=some (.row [.int .u64 T,.int .i64 B,.int .i64 E,.int .i64 S,.int .i64 N,.mm mm]))
 (vY:gG M mm=some (.map (cx vX lm) cm)) (Ec:gG M vm=some (.map (eY (vI .i64) lv) cv)) (JG:gG M om=some (.map (cx (vI .i64) lo) co)) (QV:jL 3 lv) (Ba:aH lm X=some (.sl s 1 0 q q)) (hs:gG M s=some (.row zs)) (hz:zs.length=q) (b7:s<nx) (bq:q<=100000)
 (pH:∀M' nx',aq nx M M'->nx<=nx'->ar ao ρ 38 [.mp h 0,.int .u64 T] M' nx' (fe nx' M' (.mp rk 0)))
 (b1:h<nx) (b2:rk<nx) (b3:mm<nx) (b4:vm<nx) (b5:om<nx) (hd:aw h rk=False/\aw rk h=False/\aw h mm=False/\aw mm h=False/\aw h vm=False/\aw vm h=False/\aw h om=False/\aw om h=False/\aw h s=False/\aw s h=False/\aw rk mm=False/\aw mm rk=False/\aw rk vm=False/\aw vm rk=False/\aw rk om=False/\aw om rk=False/\aw rk s=False/\aw s rk=False/\aw mm vm=False/\aw vm mm=False/\aw mm om=False/\aw om mm=False/\aw mm s=False/\aw s mm=False/\aw vm om=False/\aw om vm=False/\aw vm s=False/\aw s vm=False/\aw om s=False/\aw s om=False) (hw:IntKind.i64.wrap ((aH lo X).getD 0+1)=(aH lo X).getD 0+1)
 (p1:cellsOf pp=[pp]) (p2:ax pp=true) (p3:cellsOf pe=[pe]) (p4:ax pe=true) :
 ar ao ρ 68 [.mp h 0,.int .i64 i,.agg [.int .i64 K,.int .u64 T,.int .u64 X,.int .u64 VW,.int .u64 VN,.int .u64 V,.int .i64 pk,.int .u64 pa,.int .u64 pb,pp,pe]] M nx fun o =>
  o.1 = .tup []/\nX M nx h nk rk mm vm om [s] cm cv co 0 q lm lv lo [] zs c0 c1 c3 c6 T B E S N K X V i o:=by
 have bV:IntKind.u64.wrap (IntKind.i64.wrap ((q:Nat)+1))=((q+1:Nat):Int):=by
  rw[wrap_i64 af af,wrap_u64 af af];omega
 try simp only[Int.cast_ofNat_Int]at bV
 refine ar.wk 85 [] Tryz.func68 ?_;refine ky Fl hh p2 p4 hd p1 p3 ?_;generalize xu:aG M nx _=M1;have a1:aq nx M M1:=by rw[<-xu];exact O
 have z0:gG M1 nx=some (.row [.int .i64 K,.int .u64 T,.int .u64 X,.int .u64 VW,.int .u64 VN,.int .u64 V,.int .i64 pk,.int .u64 pa,.int .u64 pb,pp,pe]):=by rw[<-xu];exact J
 clear xu;refine gQ (pH _ _ a1 af) ?_;rintro⟨v,M2,n2⟩ ⟨g1,g2,g3⟩;simp only at g1 g2 g3;subst g1;have a2:=a1.trans (g2.le af);replace z0:=(g2 nx af).trans z0;have zh:=(a2 h b1).trans hh;have zr:=(a2 rk b2).trans hr;have zm:=(a2 mm b3).trans vY;have zv:=(a2 vm b4).trans Ec;have zo:=(a2 om b5).trans JG;have zs':=(a2 s b7).trans hs;clear g2 a1 hh hr vY Ec JG pH;refine yq Fl z0 zh zr zm zv zo Ba QV hd hw (aI bV (aI zs' hz)) ?_;have e1:s≠rk:=by intro e;subst e;simp[aw]at hd
 repeat' apply ap
 all_goals first
  | (refine bn _ _ _ _ _ _ ?_ ?_ ?_<;>(intro x hx hy;first | (simp only[mem_cons,not_mem_nil,or_false]at hx hy;done) | (simp only[mem_cons,not_mem_nil,or_false]at hx hy;omega));done)
  | skip
 have UR:List.take q zs=zs:=take_of_length_le af;have zz:=fun j hj=>a2 j hj
 refine⟨⟨an,n2+37,n2+67,lB lm cm X,lB lv cv [X,T,((q+1:Nat):Int)],lB lo co X,af,af,an,an,af,⟨rfl,rfl⟩,?_,?_,?_,?_,?_,?_,?_,fun j hj f1 f2 fA hW fP=>?_⟩⟩
 rotate_right
 ·have zj:=zz j hj
  have k0:aw h j=False:=by simp only[aw,eq_iff_iff,iff_false];exact fun e=>f1 e.symm
  have k1:aw mm j=False:=by simp only[aw,eq_iff_iff,iff_false];exact fun e=>f2 e.symm
  have k2:aw vm j=False:=by simp only[aw,eq_iff_iff,iff_false];exact fun e=>fA e.symm
  have k3:aw om j=False:=by simp only[aw,eq_iff_iff,iff_false];exact fun e=>hW e.symm
  have k4:aw s j=False:=by simp only[aw,eq_iff_iff,iff_false];exact fun e=>fP (by rw[<-e];simp)
  refine ky Fl k0 k1 k2 k3 k4 zj ?_;try exact⟨⟩
 all_goals first
  | ((refine jz Fl hd zr UR ?_;try exact⟨⟩);done)
  | ((refine jz Fl hd zr UR ?_;try exact⟨⟩);first | rfl | (simp;done))
  | skip
theorem OI (ρ:aK) (M:Hp) (nx h nk rk mm vm om ms s:Nat) (cm cv co m q:Nat) (lm:List (Nat×Int×XV)) (lv:List (Nat×List Int×Int)) (lo:List (Nat×Int×Int)) (ys zs:List XV) (c0 c1 c3 c6 pp pe:XV) (T B E S N K X VW VN V pk pa pb:Int) (i:Int)
 (hh:gG M h=some (.row [c0,c1,.mm nk,c3,.sl ms 8 0 m m,.mm vm,c6,.mm om])) (hr:gG M rk=some (.row [.int .u64 T,.int .i64 B,.int .i64 E,.int .i64 S,.int .i64 N,.mm mm]))
 (vY:gG M mm=some (.map (cx vX lm) cm)) (Ec:gG M vm=some (.map (eY (vI .i64) lv) cv)) (JG:gG M om=some (.map (cx (vI .i64) lo) co)) (QV:jL 3 lv) (Ba:aH lm X=some (.sl s 1 0 q q)) (hs:gG M s=some (.row zs)) (hz:zs.length=q) (b7:s<nx) (bq:q<=100000) (F3:gG M ms=some (.row ys)) (hy:ys.length=m*8) (b6:ms<nx) (bm:m<=100000)
 (pH:∀M' nx',aq nx M M'->nx<=nx'->ar ao ρ 38 [.mp h 0,.int .u64 T] M' nx' (fe nx' M' (.mp rk 0)))
 (b1:h<nx) (b2:rk<nx) (b3:mm<nx) (b4:vm<nx) (b5:om<nx) (hd:aw h rk=False/\aw rk h=False/\aw h mm=False/\aw mm h=False/\aw h vm=False/\aw vm h=False/\aw h om=False/\aw om h=False/\aw h s=False/\aw s h=False/\aw h ms=False/\aw ms h=False/\aw rk mm=False/\aw mm rk=False/\aw rk vm=False/\aw vm rk=False/\aw rk om=False/\aw om rk=False/\aw rk s=False/\aw s rk=False/\aw rk ms=False/\aw ms rk=False/\aw mm vm=False/\aw vm mm=False/\aw mm om=False/\aw om mm=False/\aw mm s=False/\aw s mm=False/\aw mm ms=False/\aw ms mm=False/\aw vm om=False/\aw om vm=False/\aw vm s=False/\aw s vm=False/\aw vm ms=False/\aw ms vm=False/\aw om s=False/\aw s om=False/\aw om ms=False/\aw ms om=False/\aw s ms=False/\aw ms s=False) (hw:IntKind.i64.wrap ((aH lo X).getD 0+1)=(aH lo X).getD 0+1)
 (p1:cellsOf pp=[pp]) (p2:ax pp=true) (p3:cellsOf pe=[pe]) (p4:ax pe=true) :
 ar ao ρ 68 [.mp h 0,.int .i64 i,.agg [.int .i64 K,.int .u64 T,.int .u64 X,.int .u64 VW,.int .u64 VN,.int .u64 V,.int .i64 pk,.int .u64 pa,.int .u64 pb,pp,pe]] M nx fun o =>
  o.1 = .tup []/\nX M nx h nk rk mm vm om [s,ms] cm cv co m q lm lv lo ys zs c0 c1 c3 c6 T B E S N K X V i o:=by
 have bV:IntKind.u64.wrap (IntKind.i64.wrap ((q:Nat)+1))=((q+1:Nat):Int):=by
  rw[wrap_i64 af af,wrap_u64 af af];omega
 try simp only[Int.cast_ofNat_Int]at bV
 refine ar.wk 85 [] Tryz.func68 ?_;refine ky Fl hh p2 p4 hd p1 p3 ?_;generalize xu:aG M nx _=M1;have a1:aq nx M M1:=by rw[<-xu];exact O
 have z0:gG M1 nx=some (.row [.int .i64 K,.int .u64 T,.int .u64 X,.int .u64 VW,.int .u64 VN,.int .u64 V,.int .i64 pk,.int .u64 pa,.int .u64 pb,pp,pe]):=by rw[<-xu];exact J
 clear xu;refine gQ (pH _ _ a1 af) ?_;rintro⟨v,M2,n2⟩ ⟨g1,g2,g3⟩;simp only at g1 g2 g3;subst g1;have a2:=a1.trans (g2.le af);replace z0:=(g2 nx af).trans z0;have zh:=(a2 h b1).trans hh;have zr:=(a2 rk b2).trans hr;have zm:=(a2 mm b3).trans vY;have zv:=(a2 vm b4).trans Ec;have zo:=(a2 om b5).trans JG;have zs':=(a2 s b7).trans hs;have zms:=(a2 ms b6).trans F3;clear g2 a1 hh hr vY Ec JG pH;refine yq Fl z0 zh zr zm zv zo Ba QV hd hw (aI bV (aI zs' (aI hz (aI zms hy)))) ?_;have e1:s≠rk:=by intro e;subst e;simp[aw]at hd
 repeat' apply ap
 all_goals first
  | (refine bn _ _ _ _ _ _ ?_ ?_ ?_<;>(intro x hx hy;first | (simp only[mem_cons,not_mem_nil,or_false]at hx hy;done) | (simp only[mem_cons,not_mem_nil,or_false]at hx hy;omega));done)
  | skip
 have UR:List.take q zs=zs:=take_of_length_le af;have UQ:List.take (m*8) ys=ys:=take_of_length_le af;have zz:=fun j hj=>a2 j hj
 refine⟨⟨an,n2+37,n2+67,lB lm cm X,lB lv cv [X,T,((q+1:Nat):Int)],lB lo co X,af,af,an,an,af,⟨rfl,rfl⟩,?_,?_,?_,?_,?_,?_,?_,fun j hj f1 f2 fA hW fP=>?_⟩⟩
 rotate_right
 ·have zj:=zz j hj
  have k0:aw h j=False:=by simp only[aw,eq_iff_iff,iff_false];exact fun e=>f1 e.symm
  have k1:aw mm j=False:=by simp only[aw,eq_iff_iff,iff_false];exact fun e=>f2 e.symm
  have k2:aw vm j=False:=by simp only[aw,eq_iff_iff,iff_false];exact fun e=>fA e.symm
  have k3:aw om j=False:=by simp only[aw,eq_iff_iff,iff_false];exact fun e=>hW e.symm
  have k4:aw s j=False:=by simp only[aw,eq_iff_iff,iff_false];exact fun e=>fP (by rw[<-e];simp)
  have k5:aw ms j=False:=by simp only[aw,eq_iff_iff,iff_false];exact fun e=>fP (by rw[<-e];simp)
  refine mD Fl k0 k1 k2 k3 k4 k5 zj ?_;try exact⟨⟩
 all_goals first
  | ((refine lO Fl hd zr UR UQ ?_;try exact⟨⟩);done)
  | ((refine lO Fl hd zr UR UQ ?_;try exact⟨⟩);first | rfl | (simp;done))
  | skip
end Go.Xs
namespace Go.Xs
open List Nat Option
variable{k nx:Nat}{r:aR}
open Go.Proofs
section
variable {M M':Hp} {lo hi h:Nat} {S:HS} {tag:Nat->Hg} {vrec vtxs vcom vmods vlook:XV} {nk vk ok cn cv co:Nat} {ptrs:List XV} {lnum:List (Nat×Int×Int)} {lver:List (Nat×List Int×Int)} {lobj:List (Nat×Int×Int)}
theorem eM.modPost (H:eM M lo hi h S tag vrec vtxs vcom vmods vlook nk vk ok cn cv co ptrs lnum lver lobj) (hh:hi<=nx) {rk mk cm:Nat} {a:ku} {lm:List (Nat×Int×XV)} (ha:S.txs[k]?=some a) (hv:ptrs[k]?=some (.mp rk 0)) (r1:lo<=rk) (r2:rk<hi) (r3:tag rk = .known k) (m1:lo<=mk) (m2:mk<hi) (m3:tag mk = .kmap k)
 (FX:kD lm cm) (l0:∀x,aH lm x=none->S.places k x=[]) (l1:∀x v,aH lm x=some v->S.places k x≠[]/\bS M lo hi tag (.slot k x) v 1 (S.places k x).length ((S.places k x).map (XV.int .i64)))
 {i:Int} {old:List Nat} (dz:∀j ∈ old,tag j = .mods\/tag j = .slot k r.x) (UD:∀j ∈ old,lo<=j) (fm:S.mods.length<=100000) (fp:(S.places k r.x).length<=100000) {o:ew}
 (P:nX M nx h nk rk mk vk ok old cm cv co S.mods.length (S.places k r.x).length lm lver lobj (S.mods.flatMap cO) ((S.places k r.x).map (XV.int .i64)) vrec vtxs vcom vlook a.t a.b a.e a.s a.n r.kind r.x r.v i o) (qL:a.t=r.t) :
 bX o.2.1 lo o.2.2 h (S.modify i r k)/\aq lo M o.2.1/\nx<=o.2.2:=by
 obtain⟨hn,ns,nm,cm',cv',co',n1,n2,n3,n4,n5,⟨ec,ec2⟩,p1,p2,p3,p4,p5,p6,p7,p8⟩:=P;have vg:=H.h_hi;have mo:=H.lo_h;rw[qL]at p4 p7;have key:∀q,q<hi->¬ vH k r.x (tag q)->gG o.2.1 q=gG M q:=fun q hq hc=>by
  refine p8 q af (fun e=>hc (by rw[e];exact .inl H.tg)) (fun e=>hc (by rw[e];exact .inr (.inr (.inr (.inr (.inl m3)))))) (fun e=>hc (by rw[e];exact .inr (.inr (.inl H.vtg)))) (fun e=>hc (by rw[e];exact .inr (.inr (.inr (.inl H.otg))))) fun hm=>?_
  rcases dz q hm with e | e
  ·exact hc (.inr (.inl e))
  ·exact hc (.inr (.inr (.inr (.inr (.inr e)))))
 refine⟨⟨fun q=>if q=ns then .slot k r.x else if q=nm then .mods else tag q,vrec,vtxs,vcom,.sl nm 8 0 (S.mods.length+1) (S.mods.length+1),vlook,nk,vk,ok,cn,cv',co',ptrs,lnum,dD lver cv [r.x,r.t,(((S.places k r.x).length+1:Nat):Int)] (S.mods.length:Int),dD lobj co r.x ((aH lobj r.x).getD 0+1),?_⟩,fun q hq=>?_,hn⟩
 ·refine H.modify key (fun q hq=>by rw[if_neg af,if_neg af]) af p1 ?_ p4 (wZ H.vrow rfl) (fun x w n=>?_) p5 ⟨by rw[ec2];exact zV H.objS.1,fun x=>?_⟩ fun b hb=>?_
  ·refine⟨af,?_,.inr ⟨af,nm,rfl,af,n4,by simp only;rw[if_neg fun e=>n5 e.symm];simp,?_⟩⟩
   ·have:=H.mods.2.1
    simp only[HS.modify,flatMap_append,length_append,this];simp[cO];omega
   ·rw[p7]
    simp only[HS.modify,flatMap_append];rfl
  ·rw[cQ,H.verS]
   simp only[HS.modify];by_cases e:x=r.x/\w=r.t/\n=(((S.places k r.x).length+1:Nat):Int)
   ·obtain⟨rfl,rfl,rfl⟩:=e
    rw[if_pos rfl,if_pos ⟨rfl,rfl,rfl⟩]
   ·rw[if_neg e,if_neg fun q=>e (by cases q;exact⟨rfl,rfl,rfl⟩)]
  ·rw[cQ,H.objS.2,H.objS.2]
   rfl
  ·rw[ha]at hb
   cases hb;refine⟨_,hv,rk,mk,cm',_,rfl,r1,af,by simp only;rw[if_neg af,if_neg af];exact r3,?_,m1,af,by simp only;rw[if_neg af,if_neg af];exact m3,p3,⟨by rw[ec];exact zV FX,fun x hx=>?_⟩,fun x v hx=>?_⟩
   ·rw[p2];rfl
   ·rw[cQ]at hx
    split at hx
    ·cases hx
    ·rename_i e
     simp only[HS.modify];rw[if_neg fun q=>e q.2];exact l0 x hx
   ·rw[cQ]at hx
    split at hx
    ·rename_i e
     subst e;cases hx;have ep:(S.modify i r k).places k r.x=S.places k r.x++[(S.mods.length:Int)]:=if_pos ⟨rfl,rfl⟩;rw[ep];refine⟨aj,am,aj,.inr ⟨aj,ns,aj,af,n3,aj,?_⟩⟩;rw[p6,map_append];rfl
    ·rename_i e
     simp only[HS.modify];rw[if_neg fun q=>e q.2];obtain⟨g1,g2⟩:=l1 x v hx;refine⟨g1,g2.keep (fun q hq hg=>⟨key q hq (by rw[hg];simp[vH,e]),by rw[if_neg af,if_neg af];exact hg⟩) af⟩
 ·exact p8 q af af af (by have:=H.vlo;omega) (by have:=H.olo;omega) fun hm=>by have:=UD q hm;omega
end
theorem f68 (ρ:aK) {M:Hp} {lo hi h:Nat} {S:HS} {cs:List XV} (hr:B3 r cs) (H:bX M lo hi h S) (hh:hi<=nx) (few:S.mods.length<=100000) (hk:S.num r.t=some (k:Int)) {a:ku} (ha:S.txs[k]?=some a) (qL:a.t=r.t) (fewp:(S.places k r.x).length<=100000) (i:Int)
 (cnt:0<=(S.obj r.x).getD 0/\(S.obj r.x).getD 0<=1000000000) :
 ar ao ρ 68 [.mp h 0,.int .i64 i,.agg cs] M nx fun o=>o.1 = .tup []/\bX o.2.1 lo o.2.2 h (S.modify i r k)/\aq lo M o.2.1/\nx<=o.2.2:=by
 obtain⟨pk,pa,pb,pv,ve,rfl,⟨p1,p2⟩,⟨q1,q2⟩⟩:=hr;obtain⟨tag,vrec,vtxs,vcom,vmods,vlook,nk,vk,ok,cn,cv,co,ptrs,lnum,lver,lobj,H⟩:=H;have jc:=H.objS.2 r.x;rw[<-jc]at cnt;have hw:IntKind.i64.wrap ((aH lobj r.x).getD 0+1)=(aH lobj r.x).getD 0+1:=wrap_i64 af af;have kA:k<S.txs.length:=(List.getElem?_eq_some_iff.1 ha).1;obtain⟨w,hv,rk,mk,cm,lm,rfl,r1,r2,r3,r4,m1,m2,m3,m4,⟨FX,l0⟩,l1⟩:=H.known k a ha;have pH:∀M' nx',aq nx M M'->nx<=nx'->ar ao ρ 38 [.mp h 0,.int .u64 r.t] M' nx' (fe nx' M' (.mp rk 0)):=fun M' nx' ha hn=>Zb ρ (H.agr (ha.le hh)) af hk hv kA
 simp only[d_,cons_append,nil_append,qL]at r4;have d1:=aZ H.tg r3 aj;have d2:=aZ H.tg m3 aj;have d3:=aZ H.tg H.vtg aj;have d4:=aZ H.tg H.otg aj;have d5:=aZ r3 m3 aj;have d6:=aZ r3 H.vtg aj;have d7:=aZ r3 H.otg aj;have d8:=aZ m3 H.vtg aj;have d9:=aZ m3 H.otg aj;have NE:=aZ H.vtg H.otg aj;have o1:h<nx:=Nat.lt_of_lt_of_le H.h_hi hh;have o2:rk<nx:=Nat.lt_of_lt_of_le r2 hh;have o3:mk<nx:=Nat.lt_of_lt_of_le m2 hh;have o4:vk<nx:=Nat.lt_of_lt_of_le H.vhi hh;have o5:ok<nx:=Nat.lt_of_lt_of_le H.ohi hh;have fin:∀(old:List Nat) (o:ew),(∀j ∈ old,tag j = .mods\/tag j = .slot k r.x)->(∀j ∈ old,lo<=j) ->
  nX M nx h nk rk mk vk ok old cm cv co S.mods.length (S.places k r.x).length lm lver lobj (S.mods.flatMap cO) ((S.places k r.x).map (XV.int .i64)) vrec vtxs vcom vlook r.t a.b a.e a.s a.n r.kind r.x r.v i o ->
  bX o.2.1 lo o.2.2 h (S.modify i r k)/\aq lo M o.2.1/\nx<=o.2.2:=fun old o g1 g2 P=>by
  rw[<-qL]at P;exact H.modPost hh ha hv r1 r2 r3 m1 m2 m3 FX l0 l1 g1 g2 few fewp P qL
 have bA:=H.row;obtain⟨hz,cF,⟨rfl,pG⟩ | ⟨hl,ms,rfl,s1,s2,s3,s4⟩⟩:=H.mods
 ·have NO:S.mods=[]:=length_eq_zero_iff.1 pG
  cases Ba:aH lm r.x with
  | none =>
    have sV:=l0 r.x Ba;have hd:aw h rk=False/\aw rk h=False/\aw h mk=False/\aw mk h=False/\aw h vk=False/\aw vk h=False/\aw h ok=False/\aw ok h=False/\aw rk mk=False/\aw mk rk=False/\aw rk vk=False/\aw vk rk=False/\aw rk ok=False/\aw ok rk=False/\aw mk vk=False/\aw vk mk=False/\aw mk ok=False/\aw ok mk=False/\aw vk ok=False/\aw ok vk=False:=by simp only[aw,eq_iff_iff,iff_false];exact⟨d1,d1.symm,d2,d2.symm,d3,d3.symm,d4,d4.symm,d5,d5.symm,d6,d6.symm,d7,d7.symm,d8,d8.symm,d9,d9.symm,NE,NE.symm⟩
    refine ar.mono (PQ ρ M nx h nk rk mk vk ok 0 0 cm cv co 0 0 lm lver lobj [] [] vrec vtxs vcom vlook pv ve r.t a.b a.e a.s a.n r.kind r.x r.w r.n r.v pk pa pb i bA r4 m4 H.ver H.obj H.vrow Ba pH o1 o2 o3 o4 o5 hd hw p1 p2 q1 q2) fun o ho=>⟨ho.1,fin [] o ?_ ?_ ?_⟩
    ·intro j hj;cases hj
    ·intro j hj;cases hj
    ·rw[NO,sV];exact ho.2
  | some sv =>
    obtain⟨cf,hzz,hcz,⟨_,e0⟩ | ⟨ht,s,rfl,t1,t2,t3,t4⟩⟩:=l1 r.x sv Ba
    ·exact(cf (length_eq_zero_iff.1 e0)).elim
    have g1:=aZ H.tg t3 aj;have g2:=aZ r3 t3 aj;have g3:=aZ m3 t3 aj;have g4:=aZ H.vtg t3 aj;have g5:=aZ H.otg t3 aj;have hd:aw h rk=False/\aw rk h=False/\aw h mk=False/\aw mk h=False/\aw h vk=False/\aw vk h=False/\aw h ok=False/\aw ok h=False/\aw h s=False/\aw s h=False/\aw rk mk=False/\aw mk rk=False/\aw rk vk=False/\aw vk rk=False/\aw rk ok=False/\aw ok rk=False/\aw rk s=False/\aw s rk=False/\aw mk vk=False/\aw vk mk=False/\aw mk ok=False/\aw ok mk=False/\aw mk s=False/\aw s mk=False/\aw vk ok=False/\aw ok vk=False/\aw vk s=False/\aw s vk=False/\aw ok s=False/\aw s ok=False:=by simp only[aw,eq_iff_iff,iff_false];exact⟨d1,d1.symm,d2,d2.symm,d3,d3.symm,d4,d4.symm,g1,g1.symm,d5,d5.symm,d6,d6.symm,d7,d7.symm,g2,g2.symm,d8,d8.symm,d9,d9.symm,g3,g3.symm,NE,NE.symm,g4,g4.symm,g5,g5.symm⟩
    refine ar.mono (Qj ρ M nx h nk rk mk vk ok 0 s cm cv co 0 (S.places k r.x).length lm lver lobj [] ((S.places k r.x).map (XV.int .i64)) vrec vtxs vcom vlook pv ve r.t a.b a.e a.s a.n r.kind r.x r.w r.n r.v pk pa pb i bA r4 m4 H.ver H.obj H.vrow Ba t4 aj (Nat.lt_of_lt_of_le t2 hh) fewp pH o1 o2 o3 o4 o5 hd hw p1 p2 q1 q2) fun o ho=>⟨ho.1,fin [s] o ?_ ?_ ?_⟩
    ·intro j hj;simp only[mem_cons,not_mem_nil,or_false]at hj;subst hj;exact .inr t3
    ·intro j hj;simp only[mem_cons,not_mem_nil,or_false]at hj;subst hj;exact t1
    ·rw[NO];exact ho.2
 ·cases Ba:aH lm r.x with
  | none =>
    have sV:=l0 r.x Ba;have g1:=aZ H.tg s3 aj;have g2:=aZ r3 s3 aj;have g3:=aZ m3 s3 aj;have g4:=aZ H.vtg s3 aj;have g5:=aZ H.otg s3 aj;have hd:aw h rk=False/\aw rk h=False/\aw h mk=False/\aw mk h=False/\aw h vk=False/\aw vk h=False/\aw h ok=False/\aw ok h=False/\aw h ms=False/\aw ms h=False/\aw rk mk=False/\aw mk rk=False/\aw rk vk=False/\aw vk rk=False/\aw rk ok=False/\aw ok rk=False/\aw rk ms=False/\aw ms rk=False/\aw mk vk=False/\aw vk mk=False/\aw mk ok=False/\aw ok mk=False/\aw mk ms=False/\aw ms mk=False/\aw vk ok=False/\aw ok vk=False/\aw vk ms=False/\aw ms vk=False/\aw ok ms=False/\aw ms ok=False:=by simp only[aw,eq_iff_iff,iff_false];exact⟨d1,d1.symm,d2,d2.symm,d3,d3.symm,d4,d4.symm,g1,g1.symm,d5,d5.symm,d6,d6.symm,d7,d7.symm,g2,g2.symm,d8,d8.symm,d9,d9.symm,g3,g3.symm,NE,NE.symm,g4,g4.symm,g5,g5.symm⟩
    refine ar.mono (Qn ρ M nx h nk rk mk vk ok ms 0 cm cv co S.mods.length 0 lm lver lobj (S.mods.flatMap cO) [] vrec vtxs vcom vlook pv ve r.t a.b a.e a.s a.n r.kind r.x r.w r.n r.v pk pa pb i bA r4 m4 H.ver H.obj H.vrow Ba s4 cF (Nat.lt_of_lt_of_le s2 hh) few pH o1 o2 o3 o4 o5 hd hw p1 p2 q1 q2) fun o ho=>⟨ho.1,fin [ms] o ?_ ?_ ?_⟩
    ·intro j hj;simp only[mem_cons,not_mem_nil,or_false]at hj;subst hj;exact .inl s3
    ·intro j hj;simp only[mem_cons,not_mem_nil,or_false]at hj;subst hj;exact s1
    ·rw[sV];exact ho.2
  | some sv =>
    obtain⟨cf,hzz,hcz,⟨_,e0⟩ | ⟨ht,s,rfl,t1,t2,t3,t4⟩⟩:=l1 r.x sv Ba
    ·exact(cf (length_eq_zero_iff.1 e0)).elim
    have g1:=aZ H.tg t3 aj;have g2:=aZ H.tg s3 aj;have g3:=aZ r3 t3 aj;have g4:=aZ r3 s3 aj;have g5:=aZ m3 t3 aj;have g6:=aZ m3 s3 aj;have g7:=aZ H.vtg t3 aj;have g8:=aZ H.vtg s3 aj;have g9:=aZ H.otg t3 aj;have RG:=aZ H.otg s3 aj;have XI:=aZ t3 s3 aj;have hd:aw h rk=False/\aw rk h=False/\aw h mk=False/\aw mk h=False/\aw h vk=False/\aw vk h=False/\aw h ok=False/\aw ok h=False/\aw h s=False/\aw s h=False/\aw h ms=False/\aw ms h=False/\aw rk mk=False/\aw mk rk=False/\aw rk vk=False/\aw vk rk=False/\aw rk ok=False/\aw ok rk=False/\aw rk s=False/\aw s rk=False/\aw rk ms=False/\aw ms rk=False/\aw mk vk=False/\aw vk mk=False/\aw mk ok=False/\aw ok mk=False/\aw mk s=False/\aw s mk=False/\aw mk ms=False/\aw ms mk=False/\aw vk ok=False/\aw ok vk=False/\aw vk s=False/\aw s vk=False/\aw vk ms=False/\aw ms vk=False/\aw ok s=False/\aw s ok=False/\aw ok ms=False/\aw ms ok=False/\aw s ms=False/\aw ms s=False:=by simp only[aw,eq_iff_iff,iff_false];exact⟨d1,d1.symm,d2,d2.symm,d3,d3.symm,d4,d4.symm,g1,g1.symm,g2,g2.symm,d5,d5.symm,d6,d6.symm,d7,d7.symm,g3,g3.symm,g4,g4.symm,d8,d8.symm,d9,d9.symm,g5,g5.symm,g6,g6.symm,NE,NE.symm,g7,g7.symm,g8,g8.symm,g9,g9.symm,RG,RG.symm,XI,XI.symm⟩
    refine ar.mono (OI ρ M nx h nk rk mk vk ok ms s cm cv co S.mods.length (S.places k r.x).length lm lver lobj (S.mods.flatMap cO) ((S.places k r.x).map (XV.int .i64)) vrec vtxs vcom vlook pv ve r.t a.b a.e a.s a.n r.kind r.x r.w r.n r.v pk pa pb i bA r4 m4 H.ver H.obj H.vrow Ba t4 aj (Nat.lt_of_lt_of_le t2 hh) fewp s4 cF (Nat.lt_of_lt_of_le s2 hh) few pH o1 o2 o3 o4 o5 hd hw p1 p2 q1 q2) fun o ho=>⟨ho.1,fin [s,ms] o ?_ ?_ ?_⟩
    ·intro j hj;simp only[mem_cons,not_mem_nil,or_false]at hj;rcases hj with rfl | rfl;exact .inr t3;exact .inl s3
    ·intro j hj;simp only[mem_cons,not_mem_nil,or_false]at hj;rcases hj with rfl | rfl;exact t1;exact s1
    ·exact ho.2
end Go.Xs
namespace Go.Xs
open List Nat Option
variable{M M':Hp}{S:HS}{b h hi lo nx:Nat}{cs:List XV}{r:aR}
open Go.Proofs
theorem bX.agr (H:bX M lo hi h S) (ha:aq hi M M'):bX M' lo hi h S:=by
 obtain⟨tag,vrec,vtxs,vcom,vmods,vlook,nk,vk,ok,cn,cv,co,ptrs,lnum,lver,lobj,H⟩:=H;exact⟨tag,vrec,vtxs,vcom,vmods,vlook,nk,vk,ok,cn,cv,co,ptrs,lnum,lver,lobj,H.agr ha⟩
theorem bX.lo_le (H:bX M lo hi h S):lo<=h/\h<hi:=by
 obtain⟨tag,vrec,vtxs,vcom,vmods,vlook,nk,vk,ok,cn,cv,co,ptrs,lnum,lver,lobj,H⟩:=H;exact⟨H.lo_h,H.h_hi⟩
theorem Ry (ρ:aK) (hr:B3 r cs) (H:bX M lo hi h S) (hh:hi<=nx) (k2:r.kind=2) (few:S.looks.length<=100000) (cnt:0<=(S.obj r.x).getD 0/\(S.obj r.x).getD 0<=1000000000) (i:Int) :
 ar ao ρ 30 [.mp h 0,.int .i64 i,.agg cs] M nx fun o=>o.1 = .tup []/\bX o.2.1 lo o.2.2 h (S.look ⟨i,0,r.t,r.x,r.w,r.n,false,false⟩)/\aq lo M o.2.1/\nx<=o.2.2:=by
 obtain⟨pk,pa,pb,pv,ve,rfl,⟨p1,p2⟩,⟨q1,q2⟩⟩:=hr;have mo:=H.lo_le;have N_:=fun(M1:Hp) (n1:Nat) (ha:aq nx M M1) (hn:nx<=n1)=>f67 ρ (H.agr (ha.le hh)) (show hi<=n1 by omega) few ⟨i,0,r.t,r.x,r.w,r.n,false,false⟩ cnt
 simp only[cX]at N_;clear H;rw[k2];refine ar.wk 134 [] Tryz.func30 ?_;refine lO BU p1 p2 q1 q2 ?_;generalize xu:aG M nx _=M1;have a1:aq nx M M1:=by rw[<-xu];exact O
 clear xu;refine gQ (N_ M1 _ a1 af) ?_;rintro⟨u,M2,n2⟩ ⟨g1,g2,g3,g4⟩;simp only at g1 g2 g3 g4;subst g1;refine dt BU ?_;exact⟨g2,(a1.le af).trans g3,af⟩
theorem UM (ρ:aK) (hr:B3 r cs) (H:bX M lo hi h S) (hh:hi<=nx) (k34:r.kind=3\/r.kind=4) (few:S.mods.length<=100000) {k:Nat} (hk:S.num r.t=some (k:Int)) {a:ku} (ha:S.txs[k]?=some a) (qL:a.t=r.t) (fewp:(S.places k r.x).length<=100000) (i:Int)
 (cnt:0<=(S.obj r.x).getD 0/\(S.obj r.x).getD 0<=1000000000) :
 ar ao ρ 30 [.mp h 0,.int .i64 i,.agg cs] M nx fun o=>o.1 = .tup []/\bX o.2.1 lo o.2.2 h (S.modify i r k)/\aq lo M o.2.1/\nx<=o.2.2:=by
 have mo:=H.lo_le;have vZ:=fun(M1:Hp) (n1:Nat) (Qw:aq nx M M1) (hn:nx<=n1)=>f68 ρ hr (H.agr (Qw.le hh)) (show hi<=n1 by omega) few hk ha qL fewp i cnt
 obtain⟨pk,pa,pb,pv,ve,rfl,⟨p1,p2⟩,⟨q1,q2⟩⟩:=hr;clear H hk ha qL
 rcases k34 with e | e
 all_goals
  rw[e]at vZ ⊢
 all_goals
  refine ar.wk 134 [] Tryz.func30 ?_
 all_goals
  refine lO BU p1 p2 q1 q2 ?_;try exact⟨⟩
 all_goals
  generalize xu:aG M nx _=M1;have a1:aq nx M M1:=by rw[<-xu];exact O
  clear xu;refine gQ (vZ M1 _ a1 af) ?_;rintro⟨u,M2,n2⟩ ⟨g1,g2,g3,g4⟩;simp only at g1 g2 g3 g4;subst g1
 all_goals
  refine dt BU ?_;try exact⟨⟩
 all_goals
  exact⟨g2,(a1.le af).trans g3,af⟩
structure xT (M:Hp) (nx h nk vm om m cn:Nat) (ln:List (Nat×Int×Int)) (ys:List XV) (c0 c3 c4 c6:XV) (T:Int) (i:Int) (old:List Nat) (o:ew):Prop where
 post:nx<=o.2.2/\(∃ts R mk cn',nx<=ts/\ts<o.2.2/\nx<=R/\R<o.2.2/\nx<=mk/\mk<o.2.2/\ts≠R/\ts≠mk/\R≠mk/\gG o.2.1 h=some (.row [c0,.sl ts 1 0 (m+1) (m+1),.mm nk,c3,c4,.mm vm,c6,.mm om])/\gG o.2.1 nk=some (.map (cx (vI .i64) (dD ln cn T (m:Int))) cn') /\
  gG o.2.1 ts=some (.row (ys++[.mp R 0]))/\gG o.2.1 R=some (.row [.int .u64 T,.int .i64 i,.int .i64 0,.int .i64 3,.int .i64 (-1),.mm mk])/\gG o.2.1 mk=some (.map [] 0))/\∀j,j<nx->j≠h->j≠nk->j ∉ old->gG o.2.1 j=gG M j
theorem OU (ρ:aK) (M:Hp) (nx h nk vm om cs m cn:Nat) (ln:List (Nat×Int×Int)) (ys:List XV) (c0 c3 c4 c6 pp pe:XV) (T X VW VN V pk pa pb:Int) (i:Int)
 (hh:gG M h=some (.row [c0,.nils,.mm nk,c3,c4,.mm vm,c6,.mm om])) (hn:gG M nk=some (.map (cx (vI .i64) ln) cn))
 (b1:h<nx) (b2:nk<nx) (hd:aw h nk=False/\aw nk h=False) (p1:cellsOf pp=[pp]) (p2:ax pp=true) (p3:cellsOf pe=[pe]) (p4:ax pe=true) :
 ar ao ρ 30 [.mp h 0,.int .i64 i,.agg [.int .i64 1,.int .u64 T,.int .u64 X,.int .u64 VW,.int .u64 VN,.int .u64 V,.int .i64 pk,.int .u64 pa,.int .u64 pb,pp,pe]] M nx fun o =>
  o.1 = .tup []/\xT M nx h nk vm om 0 cn ln [] c0 c3 c4 c6 T i [] o:=by
 refine ar.wk 134 [] Tryz.func30 ?_;refine mD BU p1 p2 p3 p4 hh hn hd ?_
 repeat' apply ap
 all_goals first
  | (refine bn _ _ _ _ _ _ ?_ ?_ ?_<;>(intro x hx hy;first | (simp only[mem_cons,not_mem_nil,or_false]at hx hy;done) | (simp only[mem_cons,not_mem_nil,or_false]at hx hy;omega));done)
  | skip
 refine⟨an,⟨nx+30,nx+28,nx+26,lB ln cn T,af,an,af,an,af,an,af,af,af,?_,?_,?_,?_,?_⟩,fun j hj f1 f2 fA=>?_⟩
 rotate_right
 ·have k0:aw h j=False:=by simp only[aw,eq_iff_iff,iff_false];exact fun e=>f1 e.symm
  have k1:aw nk j=False:=by simp only[aw,eq_iff_iff,iff_false];exact fun e=>f2 e.symm
  refine gk BU k0 k1 ?_;try exact⟨⟩
 all_goals first
  | ((refine fM BU hd ?_;try exact⟨⟩);done)
  | ((refine fM BU hd ?_;try exact⟨⟩);first | rfl | (simp;done))
  | skip
theorem OA (ρ:aK) (M:Hp) (nx h nk vm om cs m cn:Nat) (ln:List (Nat×Int×Int)) (ys:List XV) (c0 c3 c4 c6 pp pe:XV) (T X VW VN V pk pa pb:Int) (i:Int)
 (hh:gG M h=some (.row [c0,.sl cs 1 0 m m,.mm nk,c3,c4,.mm vm,c6,.mm om])) (hn:gG M nk=some (.map (cx (vI .i64) ln) cn)) (dI:gG M cs=some (.row ys)) (cF:ys.length=m) (b3:cs<nx) (hm:1<=m) (bm:m<=100000)
 (b1:h<nx) (b2:nk<nx) (hd:aw h nk=False/\aw nk h=False/\aw h cs=False/\aw cs h=False/\aw nk cs=False/\aw cs nk=False) (p1:cellsOf pp=[pp]) (p2:ax pp=true) (p3:cellsOf pe=[pe]) (p4:ax pe=true) :
 ar ao ρ 30 [.mp h 0,.int .i64 i,.agg [.int .i64 1,.int .u64 T,.int .u64 X,.int .u64 VW,.int .u64 VN,.int .u64 V,.int .i64 pk,.int .u64 pa,.int .u64 pb,pp,pe]] M nx fun o =>
  o.1 = .tup []/\xT M nx h nk vm om m cn ln ys c0 c3 c4 c6 T i [cs] o:=by
 refine ar.wk 134 [] Tryz.func30 ?_;refine rf BU p1 p2 p3 p4 hh hn hd dI cF ?_;have kB:List.take m ys=ys:=take_of_length_le af
 repeat' apply ap
 all_goals first
  | (refine bn _ _ _ _ _ _ ?_ ?_ ?_<;>(intro x hx hy;first | (simp only[mem_cons,not_mem_nil,or_false]at hx hy;done) | (simp only[mem_cons,not_mem_nil,or_false]at hx hy;omega));done)
  | skip
 refine⟨an,⟨nx+30,nx+28,nx+26,lB ln cn T,af,an,af,an,af,an,af,af,af,?_,?_,?_,?_,?_⟩,fun j hj f1 f2 fA=>?_⟩
 rotate_right
 ·have k0:aw h j=False:=by simp only[aw,eq_iff_iff,iff_false];exact fun e=>f1 e.symm
  have k1:aw nk j=False:=by simp only[aw,eq_iff_iff,iff_false];exact fun e=>f2 e.symm
  have k2:aw cs j=False:=by simp only[aw,eq_iff_iff,iff_false];exact fun e=>fA (by rw[<-e];simp)
  refine jz BU k0 k1 k2 ?_;try exact⟨⟩
 all_goals first
  | ((refine gk BU hd kB ?_;try exact⟨⟩);done)
  | ((refine gk BU hd kB ?_;try exact⟨⟩);first | rfl | (simp;done))
  | skip
theorem OJ (ρ:aK) (hr:B3 r cs) (H:bX M lo hi h S) (hh:hi<=nx) (k1:r.kind=1) (few:S.txs.length<=100000) (i:Int) :
 ar ao ρ 30 [.mp h 0,.int .i64 i,.agg cs] M nx fun o=>o.1 = .tup []/\bX o.2.1 lo o.2.2 h (S.begin i r)/\aq lo M o.2.1/\nx<=o.2.2:=by
 obtain⟨pk,pa,pb,pv,ve,rfl,⟨p1,p2⟩,⟨q1,q2⟩⟩:=hr;rw[k1];obtain⟨tag,vrec,vtxs,vcom,vmods,vlook,nk,vk,ok,cn,cv,co,ptrs,lnum,lver,lobj,H⟩:=H;have vg:=H.h_hi;have mo:=H.lo_h;have ZW:=H.nhi;have hnlo:=H.nlo;have d1:=aZ H.tg H.ntg aj;have fin:∀(old:List Nat) (o:ew),(∀j ∈ old,tag j = .txs)->(∀j ∈ old,lo<=j)->xT M nx h nk vk ok S.txs.length cn lnum ptrs vrec vcom vmods vlook r.t i old o ->
  bX o.2.1 lo o.2.2 h (S.begin i r)/\aq lo M o.2.1/\nx<=o.2.2:=by
  intro old o h1 h2 P;obtain⟨⟨g2,⟨ts,R,mk,cn',c1,c2,c3,c4,c5,c6,c7,c8,c9,e1,e2,e3,e4,e5⟩,g4⟩⟩:=P;have key:∀q,q<hi->¬ vo (tag q)->gG o.2.1 q=gG M q:=fun q hq hc=>g4 q af (fun e=>hc (by rw[e];exact .inl H.tg)) (fun e=>hc (by rw[e];exact .inr (.inr H.ntg))) fun e=>hc (.inr (.inl (h1 q e)))
  refine⟨⟨fun q=>if q=ts then .txs else if q=R then .known S.txs.length else if q=mk then .kmap S.txs.length else tag q,vrec,_,vcom,vmods,vlook,nk,vk,ok,cn',cv,co,ptrs++[.mp R 0],_,lver,lobj,
   H.begin (tag':=fun q=>if q=ts then .txs else if q=R then .known S.txs.length else if q=mk then .kmap S.txs.length else tag q) key (fun q hq=>by rw[if_neg af,if_neg af,if_neg af]) af e1 ?_ e2 (fun t=>?_) ⟨R,mk,0,[],rfl,af,c4,?_,e4,af,c6,?_,e5,⟨AH _,fun _ _=>rfl⟩,fun x v hx=>by simp[aH]at hx⟩⟩,fun j hj=>g4 j af af af fun e=>by have:=h2 j e;omega,g2⟩
  ·have:=H.txs.2.1
   exact⟨af,am,.inr ⟨af,ts,rfl,af,c2,aj,e3⟩⟩
  ·rw[cQ,H.numS]
   rfl
  ·simp only;rw[if_neg (fun e=>c7 e.symm)];simp
  ·simp only;rw[if_neg (fun e=>c8 e.symm),if_neg (fun e=>c9 e.symm)];simp
 have bA:=H.row;obtain⟨hz,cF,⟨rfl,pG⟩ | ⟨hl,ck,rfl,s1,s2,s3,s4⟩⟩:=H.txs
 ·have sV:ptrs=[]:=length_eq_zero_iff.1 af
  have hd:aw h nk=False/\aw nk h=False:=by simp only[aw,eq_iff_iff,iff_false];exact⟨d1,d1.symm⟩
  refine ar.mono (OU ρ M nx h nk vk ok 0 0 cn lnum [] vrec vcom vmods vlook pv ve r.t r.x r.w r.n r.v pk pa pb i bA H.num af af hd p1 p2 q1 q2) fun o ho=>⟨ho.1,fin [] o (fun j hj=>by cases hj) (fun j hj=>by cases hj) ?_⟩
  rw[pG,sV];exact ho.2
 ·have d2:=aZ H.tg s3 aj
  have d3:=aZ H.ntg s3 aj;have hd:aw h nk=False/\aw nk h=False/\aw h ck=False/\aw ck h=False/\aw nk ck=False/\aw ck nk=False:=by simp only[aw,eq_iff_iff,iff_false];exact⟨d1,d1.symm,d2,d2.symm,d3,d3.symm⟩
  refine ar.mono (OA ρ M nx h nk vk ok ck S.txs.length cn lnum ptrs vrec vcom vmods vlook pv ve r.t r.x r.w r.n r.v pk pa pb i bA H.num s4 af af hl few af af hd p1 p2 q1 q2) fun o ho=>⟨ho.1,fin [ck] o (fun j hj=>?_) (fun j hj=>?_) ho.2⟩
  ·simp only[mem_cons,not_mem_nil,or_false]at hj;subst hj;exact s3
  ·simp only[mem_cons,not_mem_nil,or_false]at hj;subst hj;exact s1
theorem re:∀(es:List En),(es.flatMap fI).all ax=true
 | []=>rfl
 | e::es=>by
   rw[flatMap_cons,all_append,re es];rfl
theorem dm.shape {p:Nat->Prop} {e:Ex} (h:dm M p e cs):∃k x y v,cs=[.int .i64 k,.int .u64 x,.int .u64 y,v]/\cellsOf v=[v]/\ax v=true:=by
 obtain⟨k,x,y,ps⟩:=e;simp only[dm]at h;obtain⟨v,row,rfl,h2,_⟩:=h;exact⟨k,x,y,v,rfl,h2.cell⟩
def eL (M:Hp) (p:Nat->Prop) (r:aR) (cs:List XV):Prop :=
 ∃pc ve,cs=[.int .i64 r.kind,.int .u64 r.t,.int .u64 r.x,.int .u64 r.w,.int .u64 r.n,.int .u64 r.v]++pc++[ve]/\dm M p r.p pc/\dN M p ve 4 r.es.length (r.es.flatMap fI)
theorem eL.keep {p q:Nat->Prop} (h:eL M p r cs) (hk:∀k,p k->gG M' k=gG M k/\q k):eL M' q r cs:=by
 obtain⟨pc,ve,h1,h2,h3⟩:=h;exact⟨pc,ve,h1,h2.keep hk,h3.keep hk⟩
theorem c_.pp:c_ M b r cs ↔ eL M (· < b) r cs:=by
 unfold c_ eL jm;exact⟨fun⟨pc,ve,h1,h2,h3⟩=>⟨pc,ve,h1,bG.pp.1 h2,h3⟩,fun⟨pc,ve,h1,h2,h3⟩=>⟨pc,ve,h1,bG.pp.2 h2,h3⟩⟩
theorem eL.lt {p:Nat->Prop} (h:eL M p r cs) (hp:∀k,p k->k<b):c_ M b r cs:=c_.pp.2 (h.keep fun k hk=>⟨rfl,hp k hk⟩)
theorem Tv (ρ:aK) (hr:c_ M b r cs) (hb:b<=nx) (hc:dV r.p<=100000) (he:r.es.length<=100000):ar ao ρ 29 [.agg cs] M nx fun o=>(∃cs',o.1 = .agg cs'/\eL o.2.1 (PK b nx o.2.2) r cs')/\aq nx M o.2.1/\nx<=o.2.2:=by
 refine ar.closed fun cF aX=>?_
 obtain⟨pk,pa,pb,pv,ve,rfl,⟨p1,p2⟩,⟨q1,q2⟩,dZ,hp⟩:=hr.cells;unfold jm at dZ;simp only[aE]at aX;have px:aE nx [.int .i64 r.kind,.int .u64 r.t,.int .u64 r.x,.int .u64 r.w,.int .u64 r.n,.int .u64 r.v,.int .i64 pk,.int .u64 pa,.int .u64 pb,pv,ve]=true:=by
  cases hh:aE nx [.int .i64 r.kind,.int .u64 r.t,.int .u64 r.x,.int .u64 r.w,.int .u64 r.n,.int .u64 r.v,.int .i64 pk,.int .u64 pa,.int .u64 pb,pv,ve] with
  | true=>rfl
  | false=>simp only[kltV,hh]at aX;cases aX
 have vh:kltV nx pv=true:=cq px aj;have F0:kltV nx ve=true:=cq px aj;refine ar.wk 12 [.cell 2 47] Tryz.func29 ?_;refine lO oU p1 p2 q1 q2 ?_;generalize xu:aG (aG M _ _) _ _=M1;have a1:aq nx M M1:=by rw[<-xu];exact O
 have m1:gG M1 nx=some (.row [.int .i64 r.kind,.int .u64 r.t,.int .u64 r.x,.int .u64 r.w,.int .u64 r.n,.int .u64 r.v,.int .i64 pk,.int .u64 pa,.int .u64 pb,pv,ve]):=by rw[<-xu];exact J
 have m2:gG M1 (nx+1)=some (.row [.int .i64 0,.int .u64 0,.int .u64 0,.int .u64 0,.int .u64 0,.int .u64 0,.int .i64 0,.int .u64 0,.int .u64 0,.nils,.nils]):=by rw[<-xu];exact J
 have sR:Cl (nx+2) M1:=by
  rw[<-xu];exact((cF.le af).set af (by simp only[cp];exact aE.le af px)).set af rfl
 clear xu;obtain⟨v1,N1,h1,hC1,⟨TR,qx,sP⟩,NK,Uv,Uf,mN⟩:=bN.made (P:=ao) (ρ:=ρ) (g:=65) (args:=[.agg [.int .i64 pk,.int .u64 pa,.int .u64 pb,pv]]) (M:=M1) (nx:=nx+4) (Q:=Cc b (nx+4) r.p) (sR.le af)
  (by simp only[aE,kltV];rw[kltV.le af vh]) (fun N hN=>f65 _ { ρ with det:=true } r.p N (nx+4) b _ (lt_succ_self _) (hp.agr ((a1.trans (hN.le af)).le hb)) af hc)
  (.agg [.int .i64 pk,.int .u64 pa,.int .u64 pb,pv]) (by simp only[kltV,aE];rw[kltV.le af vh])
  (fun N hN=>⟨_,rfl,(bG.pp.1 (hp.agr ((a1.trans (hN.le af)).le hb))).keep fun q hq=>⟨rfl,show (q<b\/nx+4<=q)/\q<nx+4 from ⟨.inl hq,by have:q<b:=hq;omega⟩⟩⟩)
 simp only at qx sP;subst qx;obtain⟨k1,x1,y1,w1,rfl,w1c,w1p⟩:=sP.shape;have QO:=eI N1 (nx+4) h1;have Oa:∀q,q<nx+4->gG (aY M1 (dH N1 (nx+4) h1)) q=gG M1 q:=fun q hq=>by rw[bW,if_neg af]
 have z1:=(Oa nx af).trans m1;refine aT hC1 ak ?_;refine gk oU z1 @aA ?_;have Mi:aq (nx+4) M1 (aY M1 (dH N1 (nx+4) h1)):=Oa;have AV:Cl h1 (aY M1 (dH N1 (nx+4) h1)):=fun q o ho=>by
  rw[bW]at ho;split at ho
  ·exact Uf q o ho
  ·exact sR.le af q o ho
 have TY:dm (aY M1 (dH N1 (nx+4) h1)) (PK b (nx+4) h1) r.p [.int .i64 k1,.int .u64 x1,.int .u64 y1,w1]:=sP.keep fun q hq=>by
  refine⟨?_,hq⟩;obtain⟨r1,r2⟩:(q<b\/nx+4<=q)/\q<h1:=hq;rw[bW];split
  ·rfl
  ·exact(NK q af).symm
 generalize aW:aY M1 (dH N1 (nx+4) h1)=M2 at Mi AV TY z1;have Mx:bE M2 b ve 4 r.es.length (r.es.flatMap fI):=dZ.agr ((a1.trans (Mi.le af)).le hb);have z2:=(Mi (nx+1) af).trans m2;obtain⟨v2,N2,h2,hC2,YY,Qs,hle2,hclN2,hkv2⟩:=bN.made (P:=ao) (ρ:=ρ) (g:=66) (args:=[ve]) (M:=M2) (nx:=h1+2) (Q:=fun o=>dN o.2.1 (PK b (h1+2) o.2.2) o.1 4 r.es.length (r.es.flatMap fI)) (AV.le af)
  (by simp only[aE];rw[kltV.le af F0]) (fun N hN=>(f66 { ρ with det:=true } (Mx.agr (hN.le af)) af he (re _)).mono fun o ho=>by
    obtain⟨o1,o2,o3⟩:=ho;refine⟨?_,o1,o2⟩;have je:=dZ.row_len;rcases o3 with ⟨e1,e2⟩ | ⟨_,K,e1,e2,e3,e4⟩
    ·rw[e2]
     subst e1;rcases dZ.2 with ⟨_,g1,g2⟩ | ⟨_,_,_,_,g1,_⟩
     ·exact⟨dZ.1,.inl ⟨rfl,g1,g2⟩⟩
     ·cases g1
    ·rw[e1]
     exact⟨dZ.1,.inr ⟨K,0,r.es.length,_,rfl,⟨.inr e2,e3⟩,by unfold vR;rw[e4],af,by rw[drop_zero,take_of_length_le af]⟩⟩)
  ve (kltV.le af F0) (fun N hN=>(Mx.agr (hN.le af)).pp.keep fun q hq=>⟨rfl,show (q<b\/h1+2<=q)/\q<h1+2 from ⟨.inl hq,by have:q<b:=hq;omega⟩⟩)
 simp only at YY;have sW:=YY.cell;have ZD:=eI N2 (h1+2) h2;have D6:∀q,q<h1+2->gG (aY M2 (dH N2 (h1+2) h2)) q=gG M2 q:=fun q hq=>by rw[bW,if_neg af]
 have z3:=(D6 nx af).trans z1;have z4:=(D6 (nx+1) af).trans z2;refine aT hC2 ak ?_;refine mD oU z3 z4 @aA sW.1 sW.2 w1c w1p ?_;refine⟨bn _ _ _ _ _ _ (fun q hq=>by simp at hq) (fun q hq=>by simp at hq) (fun q hq=>by have:=QO q hq;simp only[mem_singleton];omega),⟨_,rfl,[.int .i64 k1,.int .u64 x1,.int .u64 y1,w1],v2,rfl,?_,?_⟩,fun q hq=>?_,af⟩
 ·refine TY.keep fun q hq=>?_
  obtain⟨r1,r2⟩:(q<b\/nx+4<=q)/\q<h1:=hq;refine⟨?_,show (q<b\/nx<=q)/\q<h2+6 by omega⟩;have:=D6 q af;exact J
 ·refine YY.keep fun q hq=>?_
  obtain⟨r1,r2⟩:(q<b\/h1+2<=q)/\q<h2:=hq;refine⟨?_,show (q<b\/nx<=q)/\q<h2+6 by omega⟩;have e:gG (aY M2 (dH N2 (h1+2) h2)) q=gG N2 q:=by
   rw[bW];split
   ·rfl
   ·exact(Qs q af).symm
  exact J
 ·have e:gG (aY M2 (dH N2 (h1+2) h2)) q=gG M q:=((D6 q af).trans (Mi q af)).trans (a1 q hq)
  exact J
end Go.Xs
namespace Go.Xs
open List Nat Option
variable{M M' N N':Hp}{S:HS}{cs:List XV}{h lo nx:Nat}{r:aR}
open Go.Proofs
def ng (i:Int) (r:aR) (n:Nat) (e:En):my:=⟨i,(n:Int),r.t,e.x,e.w,e.n,true,e.m⟩
def HS.preds (S:HS) (i:Int) (r:aR):Nat->HS
 | 0=>S
 | n+1=>match r.es[n]? with | some e=>(S.preds i r n).look (ng i r n e) | none=>S.preds i r n
theorem nF {S:HS} {i:Int} {r:aR}:∀(n:Nat),(S.preds i r n).looks.length<=S.looks.length+n/\∀x,(0<=(S.obj x).getD 0->0<=((S.preds i r n).obj x).getD 0)/\((S.preds i r n).obj x).getD 0<=max ((S.obj x).getD 0) 0+n
 | 0=>⟨by simp[HS.preds],fun x=>⟨fun h=>h,by simp only[HS.preds];omega⟩⟩
 | n+1=>by
   obtain⟨h1,h2⟩:=nF (S:=S) (i:=i) (r:=r) n;unfold HS.preds;cases he:r.es[n]? with
   | some e =>
     have hl:∀x,((S.preds i r n).look (ng i r n e)).obj x=if x=(ng i r n e).x then some (((S.preds i r n).obj (ng i r n e).x).getD 0+1) else (S.preds i r n).obj x:=fun x=>rfl
     refine⟨by simp[HS.look];omega,fun x=>?_⟩;have:=h2 x;show (0<=(S.obj x).getD 0->0<=(((S.preds i r n).look (ng i r n e)).obj x).getD 0)/\(((S.preds i r n).look (ng i r n e)).obj x).getD 0<=max ((S.obj x).getD 0) 0+((n+1:Nat):Int);rw[hl];by_cases hx:x=(ng i r n e).x
     ·rw[if_pos hx,getD_some,<-hx]
      omega
     ·rw[if_neg hx]
      omega
   | none=>exact⟨an,fun x=>by have:=h2 x;simp only;omega⟩
theorem f67h (ρ:aK) (H:HF M nx N lo h S) (few:S.looks.length<=100000) (a:my) (cnt:0<=(S.obj a.x).getD 0/\(S.obj a.x).getD 0<=1000000000) :
 ar ao ρ 67 [.mp h 0,.agg (cX a)] M nx (Dg M nx N lo h (S.look a) (.tup [])):=ar.hist H fun _ hh hH=>f67 ρ hH hh few a cnt
def iJ (nx:Nat) (N:Hp) (k:Nat):Prop:=k<nx/\gG N k=none
theorem dN.some {M:Hp} {p:Nat->Prop} {v:XV} {sz len:Nat} {row:List XV} (h:dN M p v sz len row):dN M (fun k=>p k/\∃x,gG M k = .some x) v sz len row:=by
 refine⟨h.1,?_⟩;rcases h.2 with h | ⟨n,off,cap,cs,h1,h2,h3,h4⟩
 ·exact .inl h
 ·refine .inr ⟨n,off,cap,cs,h1,⟨h2,?_⟩,h3,h4⟩
  unfold vR at h3;cases hm:gG M n with
  | none=>rw[hm]at h3;cases h3
  | some x=>exact⟨x,rfl⟩
mutual
theorem dm.some {M:Hp} {p:Nat->Prop}:∀{e:Ex} {cs:List XV},dm M p e cs->dm M (fun k=>p k/\∃x,gG M k = .some x) e cs
 | .mk k x y ps,cs,h=>by
   simp only[dm]at h ⊢;obtain⟨v,row,h1,h2,h3⟩:=h;exact⟨v,row,h1,h2.some,bP.some h3⟩
theorem bP.some {M:Hp} {p:Nat->Prop}:∀{es:List Ex} {row:List XV},bP M p es row->bP M (fun k=>p k/\∃x,gG M k = .some x) es row
 | [],_,_=>by simp only[bP]
 | e::es,row,h=>by
   simp only[bP]at h ⊢;exact⟨dm.some h.1,bP.some h.2⟩
end
theorem dN.aside {v:XV} {sz len:Nat} {row:List XV} (h:dN M (iJ nx N) v sz len row) (hA:gM nx N M N' M') {q:Nat->Prop} (hq:∀k,iJ nx N' k->q k):dN M' q v sz len row :=
 h.some.keep fun k ⟨⟨h1,h2⟩,x,h3⟩=>⟨by rw[(hA k x h1 h2 h3).1,h3],hq k ⟨h1,(hA k x h1 h2 h3).2⟩⟩
theorem eL.aside (h:eL M (iJ nx N) r cs) (hA:gM nx N M N' M') {q:Nat->Prop} (hq:∀k,iJ nx N' k->q k):eL M' q r cs:=by
 obtain⟨pc,ve,h1,h2,h3⟩:=h;exact⟨pc,ve,h1,h2.some.keep fun k ⟨⟨h1,h2⟩,x,h3⟩=>⟨by rw[(hA k x h1 h2 h3).1,h3],hq k ⟨h1,(hA k x h1 h2 h3).2⟩⟩,h3.aside hA hq⟩
theorem Rs (ρ:aK) (hr:eL M (iJ nx N) r cs) (H:HF M nx N lo h S) (k5:r.kind=5) (few:S.looks.length+r.es.length<=100000) (cnt:∀x,0<=(S.obj x).getD 0/\(S.obj x).getD 0<=100000000) (i:Int) :
 ar ao ρ 30 [.mp h 0,.int .i64 i,.agg cs] M nx (Dg M nx N lo h (S.preds i r r.es.length) (.tup [])):=by
 obtain⟨pk,pa,pb,pv,ve,rfl,⟨p1,p2⟩,⟨q1,q2⟩,_,_⟩:=(hr.lt fun k hk=>hk.1).cells;have QH:dN M (iJ nx N) ve 4 r.es.length (r.es.flatMap fI):=by
  obtain⟨pc,ve',h1,h2,h3⟩:=hr;obtain⟨a1,a2,a3,a4,rfl,_,_⟩:=h2.shape;simp only[cons_append,nil_append,List.cons.injEq,and_true,true_and]at h1;rw[h1.2.2.2.2];exact h3
 have dZ:bE M nx ve 4 r.es.length (r.es.flatMap fI):=dN.lt (QH.keep fun k hk=>⟨rfl,hk.1⟩);have ay:=fun N=>dZ.len (P:=ao) (t:=45) gX.2.2.2.2.2 N
 have YS:=H.out (Nat.le_refl nx);have mo:lo<=nx:=by obtain⟨hi,q1,q2⟩:=H.at';have:=q2.lo_lt;omega
 have Jr:r.es.length<=100000:=af;clear hr;rw[k5];refine ar.wk 134 [] Tryz.func30 ?_;rw[G8];refine ul BU p1 p2 q1 q2 ay ?_;refine aC (fun m' s=>∃(j:Nat) (N':Hp),j<=r.es.length/\m'=r.es.length - j/\gG s.env 0=some (.mp h 0)/\gG s.env 1=some (.int .i64 i)/\gG s.env 5=some (.mp nx 0)/\gG s.env 63=some ve/\gG s.env 64=some (.int .i64 r.es.length)/\gG s.env 65=some (.int .i64 j) /\
  gG s.M nx=some (.row [.int .i64 5,.int .u64 r.t,.int .u64 r.x,.int .u64 r.w,.int .u64 r.n,.int .u64 r.v,.int .i64 pk,.int .u64 pa,.int .u64 pb,pv,ve])/\gG N' nx=none/\HF s.M s.nx N' lo h (S.preds i r j)/\nx+1<=s.nx/\gM nx N M N' s.M/\aq lo M s.M)
  r.es.length ⟨0,N,af,af,?_⟩ ?_
 ·refine dt BU ?_
  exact⟨YS,H.agr O af,af,fun k x k1 k2 k3=>⟨J,k2⟩,O⟩
 ·rintro m' ⟨env,M',nx'⟩ ⟨j,N',hj,ir,e0,e1,e5,Vm,Vn,Vo,sQ,YN,hF,hn,hA,hG⟩
  simp only at e0 e1 e5 Vm Vn Vo sQ hF hn hA hG;have Mw:bE M' nx ve 4 r.es.length (r.es.flatMap fI):=dN.lt (QH.aside hA fun k hk=>hk.1);clear dZ QH ay H;by_cases aL:(j:Int)<r.es.length
  ·have aP:j<r.es.length:=af
   obtain⟨e,VC⟩:∃e,r.es[j]?=some e:=⟨r.es[j],by simp[aP]⟩;obtain⟨n,o,jw,bC,aU⟩:=Mw.elem (P:=ao) aP (t:=45) (t':=67) gX.2.2.2.1 G2.1;have aU:=aU M' (aq.refl _ _);rw[iz _ _ _ VC]at aU;simp only[fI]at aU;have bV:=eF j;have JZ:=nF (S:=S) (i:=i) (r:=r) j;have hcx:=JZ.2 e.x;have RM:=cnt e.x;have dW:=fun(M1:Hp) (n1:Nat) (ha:aq nx' M' M1) (bT:nx'<=n1)=>f67h ρ (hF.agr ha bT) (show (S.preds i r j).looks.length<=100000 by have:=JZ.1;omega) (ng i r j e) (by simp only[ng];omega)
   simp only[ng,cX]at dW;have Vt:S.preds i r (j+1)=(S.preds i r j).look (ng i r j e):=by
    conv=>lhs;unfold HS.preds
    rw[VC]
   clear JZ hcx RM cnt few;refine zQ BU e0 e1 e5 Vm Vn Vo aL bC aU sQ ?_;generalize xu:aG (aG M' _ _) _ _=M1;have a1:aq nx' M' M1:=by rw[<-xu];exact O
   clear xu;refine gQ (dW M1 _ a1 af) ?_;rintro⟨u,M2,n2⟩ ⟨k1,k2,N2,k3,k4,k5⟩;simp only at k1 k2 k3 k4 k5;subst k1;have NK:gM nx' N' M' N2 M2:=fun k x h1 h2 h3=>k4 k x af h2 (by rw[a1 k h1];exact h3)
   obtain⟨c1,c2⟩:=NK nx _ af YN sQ;refine mD BU e0 e1 e5 Vm Vn Vo bV ?_;refine⟨r.es.length - (j+1),af,j+1,N2,af,rfl,rfl,c1,c2,by rw[Vt];exact k3.agr (aq.refl _ _) af,af,hA.trans NK af,(hG.trans (a1.le af)).trans k5⟩
  ·clear cnt few
   refine wT BU e0 e1 e5 Vm Vn Vo aL @Pv ?_;have gB:j=r.es.length:=af;rw[gB]at hF;exact⟨rfl,an,N',hF.agr (aq.refl _ _) an,hA,hG⟩
def HS.take (S:HS) (i:Nat) (r:aR):HS :=
 if r.kind=1 then S.begin i r
 else if r.kind=2 then S.look ⟨i,0,r.t,r.x,r.w,r.n,false,false⟩
 else if r.kind=3\/r.kind=4 then S.modify i r ((S.num r.t).getD 0).toNat
 else if r.kind=5 then S.preds i r r.es.length
 else if r.kind=6 then match S.txs[((S.num r.t).getD 0).toNat]? with | some a=>S.endTx ((S.num r.t).getD 0).toNat ⟨r.t,a.b,i,1,(S.com.length:Int)⟩ (S.com++[r.t]) | none=>S
 else match S.txs[((S.num r.t).getD 0).toNat]? with | some a=>S.endTx ((S.num r.t).getD 0).toNat ⟨r.t,a.b,i,2,a.n⟩ S.com | none=>S
structure kK (S:HS) (r:aR):Prop where
 kind:1<=r.kind/\r.kind<=7
 tx:r.kind≠1->∃(k:Nat) (a:ku),S.num r.t=some (k:Int)/\S.txs[k]?=some a/\a.t=r.t/\(S.places k r.x).length<=100000
 txs:S.txs.length<=100000
 mods:S.mods.length<=100000
 com:S.com.length<=100000
 looks:S.looks.length+r.es.length+1<=100000
 cnt:∀x,0<=(S.obj x).getD 0/\(S.obj x).getD 0<=100000000
theorem Yt (ρ:aK) (hr:eL M (iJ nx N) r cs) (H:HF M nx N lo h S) (i:Nat) (ok:kK S r) :
 ar ao ρ 30 [.mp h 0,.int .i64 i,.agg cs] M nx (Dg M nx N lo h (S.take i r) (.tup [])):=by
 have UK:=(hr.lt fun k hk=>hk.1).c;have hc:=ok.cnt r.x;obtain⟨k1,k2⟩:=ok.kind;have MD:=ok.looks;by_cases e1:r.kind=1
 ·simp only[HS.take,e1,if_true]
  exact ar.hist H fun hi hh hH=>OJ ρ UK hH hh e1 ok.txs i
 by_cases e5:r.kind=5
 ·have:S.take i r=S.preds i r r.es.length:=by simp[HS.take,e5]
  rw[this];exact Rs ρ hr H e5 af ok.cnt i
 by_cases e2:r.kind=2
 ·have:S.take i r=S.look ⟨i,0,r.t,r.x,r.w,r.n,false,false⟩:=by simp[HS.take,e2]
  rw[this];exact ar.hist H fun hi hh hH=>Ry ρ UK hH hh e2 af af i
 obtain⟨k,a,q1,q2,q3,q4⟩:=ok.tx e1;have hk:((S.num r.t).getD 0).toNat=k:=by rw[q1];rfl
 by_cases DW:r.kind=3\/r.kind=4
 ·have:S.take i r=S.modify i r k:=by simp only[HS.take,if_neg e1,if_neg e2,if_pos DW,hk]
  rw[this];exact ar.hist H fun hi hh hH=>UM ρ UK hH hh DW ok.mods q1 q2 q3 q4 i af
 by_cases e6:r.kind=6
 ·have:S.take i r=S.endTx k ⟨r.t,a.b,i,1,(S.com.length:Int)⟩ (S.com++[r.t]):=by simp only[HS.take,if_neg e1,if_neg e2,if_neg DW,if_neg e5,if_pos e6,hk,q2]
  rw[this];exact ar.hist H fun hi hh hH=>Ki ρ UK hH hh e6 q1 q2 q3 ok.com i
 ·have:S.take i r=S.endTx k ⟨r.t,a.b,i,2,a.n⟩ S.com:=by simp only[HS.take,if_neg e1,if_neg e2,if_neg DW,if_neg e5,if_neg e6,hk,q2]
  rw[this];exact ar.hist H fun hi hh hH=>Ni ρ UK hH hh af q1 q2 q3 i
end Go.Xs
namespace Go.Xs
open List Nat Option
variable{a b:Nat}
noncomputable section
variable {M M' N N':Hp} {nx nx' lo hi hi' h:Nat} {S S':HS}
def vF:HS:=⟨0,[],[],fun _ _=>[],fun _=>none,[],[],fun _ _ _=>none,[],fun _=>none⟩
def HS.addr (S:HS) (cs:List XV):HS:={ S with nrec:=S.nrec+1,crec:=S.crec++cs }
theorem IV {c:Nat} (ha:a<hi) (hb:b<hi) (hc:c<hi) (hh:h<hi) (ab:a≠b) (ac:a≠c) (ah:a≠h) (bc:b≠c) (bh:b≠h) (ch:c≠h) (la:lo<=a) (lb:lo<=b) (lc:lo<=c) (lh:lo<=h)
 (ga:gG M a=some (.map [] 0)) (gb:gG M b=some (.map [] 0)) (gc:gG M c=some (.map [] 0)) (gh:gG M h=some (.row [.nils,.nils,.mm a,.nils,.nils,.mm b,.nils,.mm c])):bX M lo hi h vF:=by
 refine⟨fun k=>if k=a then .num else if k=b then .ver else if k=c then .obj else .hist,.nils,.nils,.nils,.nils,.nils,a,b,c,0,0,0,[],[],[],[],?_⟩;have nn:∀tg:Hg,bS M lo hi (fun k=>if k=a then Hg.num else if k=b then .ver else if k=c then .obj else .hist) tg .nils 11 0 []:=fun tg=>⟨af,rfl,.inl ⟨rfl,rfl⟩⟩
 exact {
  lo_h:=lh,h_hi:=hh,tg:=by rw[if_neg ah.symm,if_neg bh.symm,if_neg ch.symm],row:=gh
  recs:=⟨ak,rfl,.inl ⟨rfl,rfl⟩⟩,txs:=⟨ak,rfl,.inl ⟨rfl,rfl⟩⟩
  known:=fun i x hx=>by simp[vF]at hx
  nlo:=la,nhi:=ha,ntg:=if_pos rfl,num:=ga,numS:=fun t=>rfl
  com:=⟨ak,rfl,.inl ⟨rfl,rfl⟩⟩,mods:=⟨ak,rfl,.inl ⟨rfl,rfl⟩⟩
  vlo:=lb,vhi:=hb,vtg:=by rw[if_neg ab.symm,if_pos rfl],ver:=gb,vrow:=by intro e he;cases he
  verS:=fun _ _ _=>rfl,looks:=⟨ak,rfl,.inl ⟨rfl,rfl⟩⟩
  olo:=lc,ohi:=hc,otg:=by rw[if_neg ac.symm,if_neg bc.symm,if_pos rfl],obj:=gc,objS:=⟨AH _,fun _=>rfl⟩ }
theorem Pj {c:Nat} (ha:a<nx) (hb:b<nx) (hc:c<nx) (hh:h<nx) (ab:a≠b) (ac:a≠c) (ah:a≠h) (bc:b≠c) (bh:b≠h) (ch:c≠h) (la:lo<=a) (lb:lo<=b) (lc:lo<=c) (lh:lo<=h)
 (ga:gG M a=some (.map [] 0)) (gb:gG M b=some (.map [] 0)) (gc:gG M c=some (.map [] 0)) (gh:gG M h=some (.row [.nils,.nils,.mm a,.nils,.nils,.mm b,.nils,.mm c])) :
 ∃N,HF M nx N lo h vF/\∀k,k≠a->k≠b->k≠c->k≠h->gG N k=none:=by
 obtain⟨N,hN⟩:=zX (fun k=>if k=a\/k=b\/k=c\/k=h then gG M k else none) nx;have g:∀k,k<nx->(k=a\/k=b\/k=c\/k=h)->gG N k=gG M k:=fun k h1 h2=>by rw[hN,if_pos h1];exact if_pos h2
 refine⟨N,⟨fun k o ho=>?_,fun k x hx=>?_,fun k x hx=>?_,nx,Nat.le_refl _,IV ha hb hc hh ab ac ah bc bh ch la lb lc lh ((g a ha (.inl rfl)).trans ga) ((g b hb (.inr (.inl rfl))).trans gb) ((g c hc (.inr (.inr (.inl rfl)))).trans gc) ((g h hh (.inr (.inr (.inr rfl)))).trans gh)⟩,fun k h1 h2 h3 h4=>?_⟩
 ·rw[hN]at ho
  split at ho<;>(try (cases ho;done))
  skip
  split at ho<;>(try (cases ho;done))
  rename_i hk;refine⟨ho,?_⟩;rcases hk with rfl | rfl | rfl | rfl
  ·rw[ga]at ho;cases ho;rfl
  ·rw[gb]at ho;cases ho;rfl
  ·rw[gc]at ho;cases ho;rfl
  ·rw[gh]at ho;cases ho;rfl
 ·rw[hN]at hx
  split at hx
  ·assumption
  ·cases hx
 ·rw[hN]at hx
  split at hx
  ·split at hx
   ·omega
   ·cases hx
  ·cases hx
 ·rw[hN]
  split
  ·exact if_neg af
  ·rfl
section
variable {tag tag':Nat->Hg} {vrec vtxs vcom vmods vlook:XV} {nk vk ok cn cv co:Nat} {ptrs:List XV} {lnum:List (Nat×Int×Int)} {lver:List (Nat×List Int×Int)} {lobj:List (Nat×Int×Int)}
theorem eM.addr {vrec':XV} {cs:List XV} (H:eM M lo hi h S tag vrec vtxs vcom vmods vlook nk vk ok cn cv co ptrs lnum lver lobj)
 (keep:∀q,q<hi->¬ (fun g=>g=Hg.hist\/g = .recs) (tag q)->gG M' q=gG M q) (cH:∀q,q<hi->tag' q=tag q) (hh:hi<=hi')
 (row:gG M' h=some (.row [vrec',vtxs,.mm nk,vcom,vmods,.mm vk,vlook,.mm ok])) (recs:bS M' lo hi' tag' .recs vrec' 11 (S.nrec+1) (S.crec++cs)) :
 eM M' lo hi' h (S.addr cs) tag' vrec' vtxs vcom vmods vlook nk vk ok cn cv co ptrs lnum lver lobj:=by
 have kk:=fun tg hc=>zf (M:=M) (M':=M') (C:=fun g=>g=Hg.hist\/g = .recs) keep cH tg hc
 exact {
  lo_h:=H.lo_h,h_hi:=Nat.lt_of_lt_of_le H.h_hi hh,tg:=by rw[cH h H.h_hi];exact H.tg,row:=row
  recs:=recs,txs:=H.txs.keep (kk _ aj) hh
  known:=fun i b hb=>by
   obtain⟨v,h1,h2⟩:=H.known i b hb;exact⟨v,h1,h2.keep (fun k hk hg=>⟨keep k hk (by rcases hg with q | q | ⟨x,q⟩<;>rw[q]<;>simp),cH k hk⟩) hh⟩
  nlo:=H.nlo,nhi:=Nat.lt_of_lt_of_le H.nhi hh,ntg:=by rw[cH nk H.nhi];exact H.ntg,num:=by rw[(kk _ aj nk H.nhi H.ntg).1];exact H.num,numS:=H.numS
  com:=H.com.keep (kk _ aj) hh,mods:=H.mods.keep (kk _ aj) hh
  vlo:=H.vlo,vhi:=Nat.lt_of_lt_of_le H.vhi hh,vtg:=by rw[cH vk H.vhi];exact H.vtg,ver:=by rw[(kk _ aj vk H.vhi H.vtg).1];exact H.ver,vrow:=H.vrow,verS:=H.verS
  looks:=H.looks.keep (kk _ aj) hh
  olo:=H.olo,ohi:=Nat.lt_of_lt_of_le H.ohi hh,otg:=by rw[cH ok H.ohi];exact H.otg,obj:=by rw[(kk _ aj ok H.ohi H.otg).1];exact H.obj,objS:=H.objS }
end
theorem Ip {knew:Nat} {old:List Nat} {x y:bx} (hM:Mu N M) (aL:∀k o,gG N k=some o->k<nx) (hx:kF x=true) (hy:kF y=true) (hk:nx<=knew) (ia:knew<nx') (hh:h<nx) (cf:h ∉ old) (gone:∀j,j<nx->j≠h->j ∉ old->gG M' j=gG M j)
 (e1:gG M' h=some x) (e2:gG M' knew=some y) (hN:gG N h≠none) (dz:∀j ∈ old,gG N j≠none):∃N',Mu N' M'/\(∀k o,gG N' k=some o->k<nx'/\(k=knew\/gG N k≠none))/\gM nx N M N' M'/\(∀k,k<nx->k≠h->k ∉ old->gG N' k=gG N k)/\gG N' h=some x/\gG N' knew=some y:=by
 obtain⟨N',JT⟩:=zX (fun k=>if k=knew then some y else if k=h then some x else if k ∈ old then none else gG N k) nx';have g:∀k,k<nx'->gG N' k=if k=knew then some y else if k=h then some x else if k ∈ old then none else gG N k:=fun k hk=>by rw[JT,if_pos hk]
 refine⟨N',fun k o ho=>?_,fun k o ho=>?_,fun k z k1 k2 k3=>⟨?_,?_⟩,fun k k1 k2 k3=>?_,?_,?_⟩
 ·have kA:k<nx':=by rw[JT]at ho;split at ho;assumption;cases ho
  rw[g k kA]at ho;split at ho
  ·rename_i e;subst e;cases ho;exact⟨e2,hy⟩
  ·split at ho
   ·rename_i e;subst e;cases ho;exact⟨e1,hx⟩
   ·split at ho
    ·cases ho
    ·rename_i f1 f2 f3
     obtain⟨q1,q2⟩:=hM k o ho;exact⟨by rw[gone k (aL k o ho) f2 f3];exact q1,q2⟩
 ·have kA:k<nx':=by rw[JT]at ho;split at ho;assumption;cases ho
  refine⟨kA,?_⟩;rw[g k kA]at ho;split at ho
  ·rename_i e;exact .inl e
  ·right
   split at ho
   ·rename_i e;rw[e];exact hN
   ·split at ho
    ·cases ho
    ·rw[ho];simp
 ·rw[gone k k1 (fun e=>hN (by rw[<-e];exact k2)) (fun e=>dz k e k2)];exact k3
 ·rw[g k af,if_neg af,if_neg (fun e=>hN (by rw[<-e];exact k2)),if_neg (fun e=>dz k e k2)];exact k2
 ·rw[g k af,if_neg af,if_neg k2,if_neg k3]
 ·rw[g h af,if_neg af,if_pos rfl]
 ·rw[g knew ia,if_pos rfl]
theorem HF.addr (H:HF M nx N lo h S) {cs:List XV} (dI:cs.length=11) (few:S.nrec<=100000):∃vrec c1 nk c3 c4 vm c6 om old,gG M h=some (.row [vrec,c1,.mm nk,c3,c4,.mm vm,c6,.mm om])/\h<nx/\S.crec.length=S.nrec*11 /\
 ((vrec = .nils/\S.nrec=0/\old=[])\/∃sk,vrec = .sl sk 11 0 S.nrec S.nrec/\1<=S.nrec/\sk<nx/\h≠sk/\gG M sk=some (.row S.crec)/\gG N sk≠none/\lo<=sk/\old=[sk]) /\
 ∀M' nx' knew,nx<=knew->knew<nx'->(∀j,j<nx->j≠h->j ∉ old->gG M' j=gG M j)->gG M' h=some (.row [.sl knew 11 0 (S.nrec+1) (S.nrec+1),c1,.mm nk,c3,c4,.mm vm,c6,.mm om])->gG M' knew=some (.row (S.crec++cs)) ->
  ∃N',HF M' nx' N' lo h (S.addr cs)/\gM nx N M N' M':=by
 obtain⟨mu,lt,ge,hi,vg,tag,vrec,vtxs,vcom,vmods,vlook,nk,vk,ok,cn,cv,co,ptrs,lnum,lver,lobj,H⟩:=H;have bA:=H.row;have hh:=H.h_hi;have hr:=H.recs;obtain⟨r1,r2,r3⟩:=hr;have main:∀old:List Nat,h ∉ old->(∀j ∈ old,j<hi/\tag j = .recs/\gG N j≠none)->∀M' nx' knew,nx<=knew->knew<nx'->(∀j,j<nx->j≠h->j ∉ old->gG M' j=gG M j)->gG M' h=some (.row [.sl knew 11 0 (S.nrec+1) (S.nrec+1),vtxs,.mm nk,vcom,vmods,.mm vk,vlook,.mm ok])->gG M' knew=some (.row (S.crec++cs)) ->
  ∃N',HF M' nx' N' lo h (S.addr cs)/\gM nx N M N' M':=by
  intro old CO bJ M' nx' knew k1 k2 k3 k4 k5;obtain⟨N',p1,p2,p3,p4,p5,p6⟩:=Ip mu lt rfl rfl k1 k2 af CO k3 k4 k5 (by rw[bA];simp) fun j hj=>(bJ j hj).2.2
  refine⟨N',⟨p1,fun k o ho=>(p2 k o ho).1,fun k o ho=>?_,nx',Nat.le_refl _,fun k=>if k=knew then .recs else tag k,_,vtxs,vcom,vmods,vlook,nk,vk,ok,cn,cv,co,ptrs,lnum,lver,lobj,H.addr (hi':=nx') (fun q q1 q2=>p4 q af (fun e=>q2 (by rw[e];exact .inl H.tg)) fun e=>q2 (.inr (bJ q e).2.1)) (fun q hq=>if_neg af) af p5 ⟨af,by rw[length_append,r2,dI];omega,.inr ⟨af,knew,rfl,by have:=H.lo_h;omega,k2,if_pos rfl,p6⟩⟩⟩,p3⟩;rcases(p2 k o ho).2 with e | e
  ·have:=H.lo_h;omega
  ·cases hn:gG N k with
   | none=>exact(e hn).elim
   | some x=>exact ge k x hn
 rcases r3 with ⟨e1,e2⟩ | ⟨e0,sk,e1,e2,e3,e4,e5⟩
 ·subst e1
  exact⟨.nils,vtxs,nk,vcom,vmods,vk,vlook,ok,[],(mu h _ bA).1,af,r2,.inl ⟨rfl,e2,rfl⟩,main [] aj aj⟩
 ·subst e1
  have cf:h≠sk:=aZ H.tg e4 aj;exact⟨_,vtxs,nk,vcom,vmods,vk,vlook,ok,[sk],(mu h _ bA).1,af,r2,.inr ⟨sk,rfl,e0,af,cf,(mu sk _ e5).1,by rw[e5];simp,e2,rfl⟩,main [sk] (by simpa using cf) (fun j hj=>by simp only[mem_singleton]at hj;subst hj;exact⟨e3,e4,by rw[e5];simp⟩)⟩
end
end Go.Xs
namespace Go.Xs
open List Nat Option
variable{args:List XV}{fn:Func}{g:Nat}
noncomputable section
abbrev YW:=List XV->Hp->Nat->(Hp->Nat->Prop)->Prop
section
variable {P:Program} {a:Act} {w w' w0:World} {ρ:aK} {σ σ' σ0:cb} {M N M' M0:Hp} {env be:eX} {ds:List Deferred} {nx nx0 n:Nat}
def HdW (P:Program) (ρ:aK) (w0:World) (σ0:cb) (M0:Hp) (nx0:Nat) (l:Nat) (rec:Loop) (H:YW):Prop :=
 ∀args M nx Q,H args M nx Q->∀w σ us,Ok ρ w σ M->(∀k,nx<=k->σ k=none)->zN w0 σ0 M0 w σ M->nx0<=nx->ce ρ σ args us ->
  us.length=rec.params.size/\∀fr,RoundIn (FW fr) 0 P l rec.fn ((rec.params.zip us.toArray).foldl (fun tmps (t,a)=>tmps.setIfInBounds t a) rec.tmps) rec.assign rec.body w
   fun e w'=>e = .returned (.bool true)/\∃M' nx',Q M' nx'/\∃σ',Ok ρ w' σ' M'/\zN w σ M w' σ' M'/\nx<=nx'/\∀k,σ' k=σ k\/(nx<=k/\k<nx')
def Rx (P:Program) (ρ:aK) (w0:World) (σ0:cb) (M0:Hp) (nx0:Nat):Option (Nat×YW)->Prop
 | none=>True
 | some (k,H)=>∃l rec room,σ0 k=some (l,room)/\oB w0 σ0 M0 l (.loop rec)/\HdW P ρ w0 σ0 M0 nx0 l rec H
theorem Rx.mono {Y:Option (Nat×YW)} (h:Rx P ρ w0 σ0 M0 nx0 Y) (e:zN w0 σ0 M0 w σ M) (jT:nx0<=nx):Rx P ρ w σ M nx Y:=by
 cases Y with
 | none=>trivial
 | some Y =>
   obtain⟨k,H⟩:=Y;obtain⟨l,rec,room,h1,h2,h3⟩:=h;exact⟨l,rec,room,e.sig _ _ h1,h2.ext e,fun args M' nx' Q hH w' σ' us aQ aO mM QS j_=>h3 args M' nx' Q hH w' σ' us aQ aO (e.trans mM) (Nat.le_trans jT QS) j_⟩
def OQ (P:Program) (ρ:aK) (g:Nat) (args:List XV) (Y:Nat×YW) (M:Hp) (nx:Nat) (R:Hp->Nat->Prop):Prop :=
 ∀w σ vs,Ok ρ w σ M->(∀k,nx<=k->σ k=none)->ce ρ σ args vs->Rx P ρ w σ M nx (some Y) ->
  (∃fn c,P.funcs[g]?=some fn/\fn.body=some c/\(fn.name == "runtime.NumGoroutine")=false) /\
  CallsIn (FW none) 0 P g vs.toArray w fun e w'=>(∃v,e = .returned v)/\∃M' nx',R M' nx'/\∃σ',Ok ρ w' σ' M'/\zN w σ M w' σ' M'/\nx<=nx'/\∀k,σ' k=σ k\/(nx<=k/\k<nx')
def xB (P:Program) (ρ:aK) (n:Nat) (asg body:Code) (ps:List Nat) (env:eX):YW:=fun args M nx Q =>
 ∃be,qj n ps args env=some be/\wx P ρ n asg (fun e s=>e = .normal/\wx P ρ n body (fun e s'=>e = .normal/\Q s'.M s'.nx) s) ⟨be,M,nx⟩
def FT (P:Program) (ρ:aK) (n:Nat) (Y:Option (Nat×YW)) (all:List Oper):List Oper->XS->(XS->Prop)->Prop
 | [],s,Q=>Q s
 | o::os,s,Q=>match a_ all s.env o.guard with
   | none=>False
   | some false=>∃env,cu n s.env o.dst .udf=some env/\FT P ρ n Y all os ⟨env,s.M,s.nx⟩ Q
   | some true=>(OX P ρ s.env s.M s.nx o.op fun r=>∃env,cu n s.env o.dst r.1=some env/\FT P ρ n Y all os ⟨env,r.2.1,r.2.2⟩ Q) \/
     ∃c k H args,o.op = .call c/\Y=some (k,H)/\EU s.env c=some (k,args)/\H args s.M s.nx fun M' nx'=>∃env,cu n s.env o.dst (.bool true)=some env/\FT P ρ n Y all os ⟨env,M',nx'⟩ Q
theorem ob {Y:Option (Nat×YW)} {all:List Oper} {Q:XS->Prop} {post:List Oper}:∀(pre:List Oper) (s:XS),RN P ρ n all pre s (fun s=>FT P ρ n Y all post s Q)->FT P ρ n Y all (pre++post) s Q
 | [],s,h=>h
 | o::os,s,h=>by
   unfold RN at h;simp only[cons_append];unfold FT;split at h<;>rename_i hg
   ·exact h.elim
   ·rw[hg]
    obtain⟨env,h1,h2⟩:=h;exact⟨env,h1,ob os _ h2⟩
   ·rw[hg]
    exact .inl (Dv h fun r ⟨env,h1,h2⟩=>⟨env,h1,ob os _ h2⟩)
def qD (P:Program) (ρ:aK) (n:Nat) (Y:Option (Nat×YW)):Code->(bg->XS->Prop)->XS->Prop
 | .skip,K,s=>K .normal s
 | .ret,K,s=>K .ret s
 | .exit id,K,s=>K (.exit id) s
 | .seq a b,K,s=>qD P ρ n Y a (fx (qD P ρ n Y b K) K) s
 | .block id c,K,s=>qD P ρ n Y c (fun e s'=>K (Cj id e) s') s
 | .cond c a b,K,s=>∃v,cG s.env c = .bool v/\(v=true->qD P ρ n Y a K s)/\(v=false->qD P ρ n Y b K s)
 | .loop c,K,s=>∃I:Nat->XS->Prop,(∃k,I k s)/\∀k s',I k s'->qD P ρ n Y c (w_ I k K) s'
 | .region id ops draw,K,s=>match draw with
   | false=>FT P ρ n Y ops.toList ops.toList s (K .normal)
   | true=>wx P ρ n (.region id ops true) K s
 | .rangeFunc g ps asg body,K,s=>∃h caps R,cG s.env g = .fn (.func h) [] caps/\OQ P ρ h (.yd s.nx::caps) (s.nx,xB P ρ n asg body ps.toList s.env) s.M (s.nx+1) R/\∀M' nx',R M' nx'->K .normal ⟨s.env,M',nx'⟩
 | _,_,_=>False
theorem Ix {Y:Option (Nat×YW)}:∀(c:Code) (K:bg->XS->Prop) (s:XS),wx P ρ n c K s->qD P ρ n Y c K s:=by
 intro c
 induction c with
 | skip=>intro K s h;exact h
 | ret=>intro K s h;exact h
 | exit id=>intro K s h;exact h
 | region id ops draw =>
   intro K s h;cases draw with
   | false =>
     have:ops.toList=ops.toList++[]:=aj;simp only[qD]
     conv=>arg 6;rw[this]
     exact ob _ _ h
   | true=>exact h
 | seq x y ihx ihy =>
   intro K s h;refine ihx _ s (cC x _ _ s (fun e s' q=>?_) h);cases e with
   | normal=>exact ihy _ _ q
   | exit id=>exact q
   | ret=>exact q
 | cond c x y ihx ihy =>
   intro K s h;obtain⟨v,hv,h1,h2⟩:=h;exact⟨v,hv,fun e=>ihx _ s (h1 e),fun e=>ihy _ s (h2 e)⟩
 | block id c ih=>intro K s h;exact ih _ s h
 | loop c ih =>
   intro K s h;obtain⟨I,h0,h1⟩:=h;exact⟨I,h0,fun k s' hi=>ih _ _ (h1 k s' hi)⟩
 | _=>intro K s h;exact h.elim
theorem Eo (hp:P.follows .mixedOrders=true) {asg body:Code} {fn:FuncId} {tmps:Array Value} {ps:Array Tmp} {D l:Nat}
 (bI:fX ρ σ0 env tmps) (Ea:tmps.size=n) (hl:oB w0 σ0 M0 l (.loop { state:=.ready,pending:=none,fn,tmps,params:=ps,assign:=asg,body,defers:=D })) :
 HdW P ρ w0 σ0 M0 nx0 l { state:=.ready,pending:=none,fn,tmps,params:=ps,assign:=asg,body,defers:=D } (xB P ρ n asg body ps.toList env):=by
 intro args M nx Q ⟨be,he,h⟩ w σ us aQ aO mM jT j_;obtain⟨e1,e2,e3⟩:=uI ps.toList args us env be tmps he j_ (fun t v hv=>⟨(bI t v hv).1,(bI t v hv).2.mono mM.sig⟩) Ea;refine⟨by rw[e1];simp,fun fr=>?_⟩;refine roundIn_of_wpIn (F:=FW fr) (jh fr _) ?_;rw[Ng];have ez:((ps.zip us.toArray).foldl (fun tmps (t,a)=>tmps.setIfInBounds t a) tmps)=((ps.toList.zip us).foldl (fun tmps (t,a)=>tmps.setIfInBounds t a) tmps):=by
  rw[<-Array.foldl_toList];simp
 simp only[ez];have pG:=hl.ext mM;have aL:=pG.lt;refine Dh hp (fr:=some l) (B:=l+1) asg _ ⟨be,M,nx⟩ _ w σ h ⟨[],⟨e2,e3,aQ,aO,.refl w σ M,Nat.le_refl _,fun _=>.inl rfl,rfl⟩,[],rfl,nodup_nil,fun _ h=>by cases h⟩ _ fun e s1 a1 w1 σ1 ⟨X1,h1⟩ ⟨Yp,bw,Bi⟩=>?_
 subst X1;have r1:=pG.ext bw.ext;refine⟨_,run_beginRound r1.here rfl,?_⟩;have s2:fV w1 σ1 s1.M (w1.putObj l (.loop { state:=.busy,pending:=none,fn,tmps,params:=ps,assign:=asg,body,defers:=D })):=fV.putObj r1 rfl _;have r2:oB (w1.putObj l (.loop { state:=.busy,pending:=none,fn,tmps,params:=ps,assign:=asg,body,defers:=D })) σ1 s1.M l (.loop { state:=.busy,pending:=none,fn,tmps,params:=ps,assign:=asg,body,defers:=D }):=r1.put;have bV:∀c,c≠l->(w1.putObj l (.loop { state:=.busy,pending:=none,fn,tmps,params:=ps,assign:=asg,body,defers:=D })).heap[c]?=w1.heap[c]?:=fun c hc=>World.putObj_heap_other hc
 generalize w1.putObj l (.loop { state:=.busy,pending:=none,fn,tmps,params:=ps,assign:=asg,body,defers:=D })=w2 at s2 r2 bV ⊢;have vj:=bw.ext.size;refine Dh hp (fr:=some l) (B:=l+1) body _ s1 a1 w2 σ1 h1 ⟨Yp,⟨bw.envr,bw.size,s2.ok bw.ok,bw.free,.refl _ _ _,Nat.le_refl _,fun _=>.inl rfl,bw.def0⟩,?_⟩ _ fun e s3 a3 w3 σ3 ⟨he3,h3⟩ ⟨ds3,gT,_⟩=>?_
 ·obtain⟨Ds,q1,q2,q3⟩:=Bi
  exact⟨Ds,q1,q2,fun D hD=>⟨(q3 D hD).1,(q3 D hD).2.side (bV D (by have:=(q3 D hD).1;omega))⟩⟩
 ·subst he3
  have r3:=r2.ext gT.ext;have s4:=fV.putObj r3 rfl (.loop { state:=.ready,pending:=none,fn,tmps,params:=ps,assign:=asg,body,defers:=D });refine⟨_,_,run_endRound none r3.here,rfl,s3.M,s3.nx,h3,σ3,s4.ok gT.ok,?_,Nat.le_trans bw.le gT.le,fun k=>?_⟩
  ·have RU:=s2.size
   have hz3:=gT.ext.size;refine⟨gT.ext.os.trans (s2.os.trans bw.ext.os),gT.ext.tape.trans (s2.tape.trans bw.ext.tape),gT.ext.output.trans (s2.output.trans bw.ext.output),am,fun c hc sy=>?_,fun c hc=>?_,fun k p hp=>gT.ext.sig k p (bw.ext.sig k p hp),fun c hc=>?_⟩
   ·by_cases cF:c=l
    ·subst cF
     rw[pG.here];exact World.putObj_heap_same r3.lt
    ·have QY:¬ eB σ1 s1.M c:=fun q=>by
      rcases bw.ext.own c q with q | q
      ·exact sy q
      ·omega
     refine(World.putObj_heap_other cF).trans ?_;rw[gT.ext.blk c af QY,bV c cF,bw.ext.blk c hc sy]
   ·rcases gT.ext.own c hc with q | q
    ·exact bw.ext.own c q
    ·exact .inr af
   ·rcases gT.ext.held c hc with q | q
    ·exact bw.ext.held c q
    ·exact .inr af
  ·have CH:=gT.free k
   have Uv:nx<=s1.nx:=bw.le;have ZL:s1.nx<=s3.nx:=gT.le;by_cases hk:s3.nx<=k
   ·left;rw[CH hk,aO k af]
   ·rcases gT.old k with e | e
    ·rcases bw.old k with e' | e'
     ·left;rw[e,e']
     ·have e2:nx<=k:=e'
      right;omega
    ·right;omega
theorem xK {Y:Option (Nat×YW)} {all:List Oper} {fr:Option Nat} {Q:Exit->Act->World->Prop} {F:XS->Prop} (hY:Rx P ρ w0 σ0 M0 nx0 Y) :
 ∀(os:List Oper) (s:XS) (a:Act) (w:World) (σ:cb),FT P ρ n Y all os s F->St ds ρ w0 σ0 M0 nx0 n s a w σ ->
  (∀s' a' w' σ',F s'->St ds ρ w0 σ0 M0 nx0 n s' a' w' σ'->Q .normal a' w')->wpListIn (FW fr) 0 P all.toArray Q os a w
 | [],s,a,w,σ,h,hs,hQ=>hQ s a w σ h hs
 | o::os,s,a,w,σ,h,hs,hQ=>by
   unfold FT at h;unfold wpListIn;split at h<;>rename_i hg
   ·exact h.elim
   ·rw[iL hs.envr hg]
    rw[if_neg aj];obtain⟨be,he,h⟩:=h;exact⟨fun f _=>jh fr f,xK hY os _ _ w σ h (hs.skip he) hQ⟩
   ·rw[iL hs.envr hg,if_pos rfl]
    rcases h with h | ⟨c,k,H,args,df,hYe,hy,hH⟩
    ·refine Ns hs.ok hs.envr hs.free h _ _ fun v w' ⟨r,⟨be,he,h'⟩,hp⟩=>?_
     obtain⟨σ',lJ⟩:=hs.step hp he;exact xK hY os _ _ w' σ' h' lJ hQ
    ·subst hYe
     have hY0:=hY;obtain⟨l,rec,room,VP,h_,Mz⟩:=hY;obtain⟨us,b,room',hb,j_,gy⟩:=AG (P:=P) (w:=w) hs.envr df hy;rw[hs.ext.sig _ _ VP]at hb;cases hb;obtain⟨hz,CP⟩:=Mz args s.M s.nx _ hH w σ us hs.ok hs.free hs.ext hs.le j_;refine⟨fun f _=>jh fr f,?_⟩;rw[mZ,Oper.semAt_eq fr a.eval o (fun c' jY=>by rw[df]at jY;cases jY),gy,run_yield (h_.ext hs.ext).here (by simpa using hz)];refine⟨fun q=>(by rw[lD]at q;cases q),(CP fr).mono fun e w' hq=>?_⟩;obtain⟨rfl,M',nx',⟨be,he,h'⟩,σ',g1,g2,g3,g4⟩:=hq;obtain⟨σ2,lJ⟩:=hs.step (r:=(.bool true,M',nx')) (v:=.bool true) ⟨σ',by simp only[VR],g1,g2,g3,g4⟩ he;exact xK hY0 os _ _ w' σ2 h' lJ hQ
theorem He (hp:P.follows .mixedOrders=true):∀(c:Code) (Y:Option (Nat×YW)) (B:Nat) (w0:World) (σ0:cb) (M0:Hp) (nx0:Nat),Rx P ρ w0 σ0 M0 nx0 Y->B<=w0.heap.size ->
 ∀(K:bg->XS->Prop) (s:XS) (a:Act) (w:World) (σ:cb),qD P ρ n Y c K s->Sm ρ B w0 σ0 M0 nx0 n s a w σ ->
 ∀Qm:Exit->Act->World->Prop,(∀e s' a' w' σ',K e s'->Sm ρ B w0 σ0 M0 nx0 n s' a' w' σ'->Qm e.to a' w')->c.wpIn (FW none) 0 P Qm a w:=by
 intro c
 induction c with
 | skip=>intro Y B w0 σ0 M0 nx0 hY hB K s a w σ h hs Qm hQ;exact wpIn_skip (hQ .normal s a w σ h hs)
 | ret=>intro Y B w0 σ0 M0 nx0 hY hB K s a w σ h hs Qm hQ;exact wpIn_ret (hQ .ret s a w σ h hs)
 | exit id=>intro Y B w0 σ0 M0 nx0 hY hB K s a w σ h hs Qm hQ;exact wpIn_exit (hQ (.exit id) s a w σ h hs)
 | region id ops draw =>
   intro Y B w0 σ0 M0 nx0 hY hB K s a w σ h ⟨ds,hs,hk⟩ Qm hQ;cases draw with
   | true=>exact Dh hp _ K s a w σ h ⟨ds,hs,hk⟩ Qm hQ
   | false =>
     simp only[qD]at h;refine wpIn_region_list ?_;have:=xK (fr:=none) (Q:=Qm) (hY.mono hs.ext hs.le) ops.toList s a w σ h hs.rebase fun s' a' w' σ' hF bw=>hQ .normal s' a' w' σ' hF ⟨ds,hs.join bw,hk.ext bw.ext⟩
     simpa using this
 | seq x y ihx ihy =>
   intro Y B w0 σ0 M0 nx0 hY hB K s a w σ h hs Qm hQ;refine wpIn_seq (ihx Y B w0 σ0 M0 nx0 hY hB _ s a w σ h hs _ fun e s' a' w' σ' hK bw=>?_);cases e with
   | normal=>exact ihy Y B w0 σ0 M0 nx0 hY hB K s' a' w' σ' hK bw Qm hQ
   | exit id=>exact hQ (.exit id) s' a' w' σ' hK bw
   | ret=>exact hQ .ret s' a' w' σ' hK bw
 | cond c x y ihx ihy =>
   intro Y B w0 σ0 M0 nx0 hY hB K s a w σ h hs Qm hQ;obtain⟨v,hv,h1,h2⟩:=h;have US:VR ρ σ (cG s.env c) (a.eval c):=let ⟨_,bw,_⟩:=hs;bf bw.envr c
   rw[hv]at US;simp only[VR]at US;exact wpIn_cond_split US (fun e=>ihx Y B w0 σ0 M0 nx0 hY hB K s a w σ (h1 e) hs Qm hQ) fun e=>ihy Y B w0 σ0 M0 nx0 hY hB K s a w σ (h2 e) hs Qm hQ
 | block id c ih =>
   intro Y B w0 σ0 M0 nx0 hY hB K s a w σ h hs Qm hQ;refine wpIn_block (ih Y B w0 σ0 M0 nx0 hY hB _ s a w σ h hs _ fun e s' a' w' σ' hK bw=>?_);have:=hQ (Cj id e) s' a' w' σ' hK bw;cases e with
   | normal=>exact this
   | ret=>exact this
   | exit i =>
     simp only[bg.to,Exit.inBlock];simp only[Cj]at this;cases hb:Nat.beq i id with
     | true =>
       rw[hb]at this;rw[if_pos (eq_of_beq_eq_true hb)];exact this
     | false =>
       rw[hb]at this;rw[if_neg (ne_of_beq_eq_false hb)];exact this
 | loop c ih =>
   intro Y B w0 σ0 M0 nx0 hY hB K s a w σ h hs Qm hQ;obtain⟨I,⟨k0,h0⟩,hr⟩:=h;refine wpIn_loop_ghost (fun k a w=>∃s σ,I k s/\Sm ρ B w0 σ0 M0 nx0 n s a w σ) k0 ⟨s,σ,h0,hs⟩ ?_;rintro k a w ⟨s,σ,hi,bw⟩;refine ih Y B w0 σ0 M0 nx0 hY hB _ s a w σ (hr k s hi) bw _ fun e s' a' w' σ' hK kU=>?_
   cases e with
   | normal =>
     obtain⟨j,hj,mS⟩:=hK;exact⟨j,hj,s',σ',mS,kU⟩
   | exit id=>exact hQ (.exit id) s' a' w' σ' hK kU
   | ret=>exact hQ .ret s' a' w' σ' hK kU
 | rangeFunc f ps asg body iha ihb =>
   intro Y B w0 σ0 M0 nx0 hY hB K s a w σ h ⟨ds,hs,hk⟩ Qm hQ;obtain⟨g,caps,RR,Jz,hI,hKR⟩:=h;have hv:=bf hs.envr f;rw[Jz]at hv;simp only[VR,ce]at hv;obtain⟨us0,us,j_,CM,Jt⟩:=hv;have CM:us0 = #[]:=by apply Array.ext';simpa using CM
   subst CM;refine wpIn_rangeFunc ?_;intro fc _;obtain⟨R,hR⟩:∃R:Loop,R = { state:=.ready,pending:=none,fn:=fc,tmps:=a.tmps,params:=ps,assign:=asg,body,defers:=w.heap.size }:=⟨_,rfl⟩;obtain⟨W1,Mo⟩:∃W1,W1=(w.alloc (.deferred (some []))).alloc (.loop R):=⟨_,rfl⟩;have vj:(w.alloc (.deferred (some []))).heap.size=w.heap.size+1:=World.size_alloc ..;have s1:fV w σ s.M (w.alloc (.deferred (some []))):=fV.alloc hs.ok _;have Rd:=s1.ok hs.ok;have s2:fV (w.alloc (.deferred (some []))) σ s.M W1:=by rw[Mo];exact fV.alloc Rd _
   have d1:oB (w.alloc (.deferred (some []))) σ s.M w.heap.size (.deferred (some [])):=oB.new hs.ok _;have Yo:∀b,b<w.heap.size->(w.alloc (.deferred (some []))).heap[b]?=w.heap[b]?:=fun b hb=>by
    show (w.heap.push _)[b]?=_;rw[Array.getElem?_push,if_neg af]
   have TQ:∀b,b<w.heap.size+1->W1.heap[b]?=(w.alloc (.deferred (some []))).heap[b]?:=fun b hb=>by
    rw[Mo];show ((w.alloc _).heap.push _)[b]?=_;rw[Array.getElem?_push,if_neg af]
   have d2:oB W1 σ s.M w.heap.size (.deferred (some [])):=d1.side (TQ _ af);have r2:oB W1 σ s.M (w.heap.size+1) (.loop R):=by
    have:=oB.new (o:=.loop R) Rd;rw[vj]at this;rw[Mo];exact this
   have x2:zN w σ s.M W1 σ s.M:=s2.ext (s1.ext (.refl _ _ _) fun b hb _=>Yo b hb) fun b hb _=>TQ b af
   obtain⟨ok3,x3⟩:=(s2.ok Rd).upd (hs.free s.nx (Nat.le_refl _)) (w.heap.size+1,0);have hσ1:∀k,s.nx+1<=k->(σ.upd s.nx (w.heap.size+1,0)) k=none:=fun k hk=>by
    rw[cb.upd_other _ _ af];exact hs.free k af
   have Wc:=x2.trans x3;have r3:=r2.ext x3;have d3:=d2.ext x3;have aX:ce ρ (σ.upd s.nx (w.heap.size+1,0)) (.yd s.nx::caps) (.func (.yield (w.heap.size+1)) #[] #[]::us.toList):=by
    simp only[ce,VR];exact⟨_,_,rfl,⟨_,_,cb.upd_same ..,rfl⟩,Jt.mono Wc.sig⟩
   have Jy:fX ρ (σ.upd s.nx (w.heap.size+1,0)) s.env a.tmps:=fun t v hv=>⟨(hs.envr t v hv).1,(hs.envr t v hv).2.mono Wc.sig⟩
   have Mz:=Eo (nx0:=s.nx+1) hp (asg:=asg) (body:=body) (fn:=fc) (ps:=ps) (D:=w.heap.size) Jy hs.size (by rw[<-hR];exact r3);rw[<-hR]at Mz;obtain⟨⟨fn,c,QK,Js,zb⟩,CG⟩:=hI W1 _ _ ok3 hσ1 aX ⟨w.heap.size+1,R,0,cb.upd_same ..,r3,Mz⟩;refine⟨w.heap.size+1,[nK w.heap.size],W1,{ target:=.fn (.func g) us,args:=#[.func (.yield (w.heap.size+1)) #[] #[]] },W1,g,#[.func (.yield (w.heap.size+1)) #[] #[]]++us,W1,?_,?_,fun f' _=>jh none f',?_,fun q=>(by rw[lD]at q;cases q),?_⟩
   ·rw[Mo,hR,mZ];exact run_enterLoop_outer _ _ _ _ _
   ·simp[resolve,j_,Deferred.ofValue]
    rfl
   ·simp only[invoke,callFunc,Sem.run_bind,run_program,Result.andThen_ok,QK,zb,Js,isNone_some,Bool.false_eq_true,if_false,Sem.run_pure]
   ·have ez:(#[.func (.yield (w.heap.size+1)) #[] #[]]++us:Array Value)=(.func (.yield (w.heap.size+1)) #[] #[]::us.toList).toArray:=by
     apply Array.ext';simp
    rw[ez];refine CG.mono fun e w3 hq=>?_
    obtain⟨⟨v,rfl⟩,r1',r2',hr,σ',g1,g2,g3,g4⟩:=hq;have r4:=r3.ext g2;have s4:=fV.putObj r4 rfl (.loop { R with state:=.exhausted });have x4:=Wc.trans g2;refine⟨none,w3.putObj (w.heap.size+1) (.loop { R with state:=.exhausted }),?_,?_⟩
    ·have Z0:R.pending=none:=by rw[hR]
     have Wj:R.state = .ready:=by rw[hR]
     have:=run_endLoop (P:=P) r4.here (by rw[Wj];simp);rw[this,Z0]
    ·refine hQ .normal ⟨s.env,r1',r2'⟩ _ _ σ' (hKR _ _ hr) ⟨nK w.heap.size::ds,⟨fun t v hv=>⟨(hs.envr t v hv).1,(hs.envr t v hv).2.mono x4.sig⟩,hs.size,s4.ok g1,fun k hk=>?_,?_,by have:=hs.le;simp only;omega,fun k=>?_,?_⟩,?_⟩
     ·simp only at hk
      rcases g4 k with e | e
      ·rw[e];exact hσ1 k af
      ·omega
     ·have hz:=hs.ext.size
      exact s4.ext (hs.ext.trans x4) fun c hc _=>World.putObj_heap_other af
     ·rcases g4 k with e | e
      ·by_cases hk:k=s.nx
       ·right;rw[hk];exact hs.le
       ·rw[e,cb.upd_other _ _ hk];exact hs.old k
      ·right;have:=hs.le;omega
     ·show [nK w.heap.size]++a.defers=_
      rw[hs.def0];rfl
     ·obtain⟨Ds,e1,e2,e3⟩:=hk
      have aL:∀D ∈ Ds,D<w.heap.size:=fun D hD=>(e3 D hD).2.lt
      refine⟨w.heap.size::Ds,by rw[e1];rfl,nodup_cons.2 ⟨fun hm=>absurd (aL _ hm) af,e2⟩,fun D hD=>?_⟩;have cf:D≠w.heap.size+1:=by
       rcases mem_cons.1 hD with rfl | hD
       ·omega
       ·have:=aL D hD;omega
      have hzw:=hs.ext.size;rcases mem_cons.1 hD with rfl | hD
      ·exact⟨af,(d3.ext g2).side (World.putObj_heap_other cf)⟩
      ·exact⟨(e3 D hD).1,((e3 D hD).2.ext x4).side (World.putObj_heap_other cf)⟩
 | _=>intro Y B w0 σ0 M0 nx0 hY hB K s a w σ h;exact h.elim
theorem ar.bodyR (hp:P.follows .mixedOrders=true) (j9:ρ.det=false) {c:Code} {R:ew->Prop} (hf:P.funcs[g]?=some fn) (hn:(fn.name == "runtime.NumGoroutine")=false) (hb:fn.body=some c)
 (h:qD P ρ (args.length+(fn.ntmps - args.length)) none c (vA P fn.results.toList R) ⟨cz args 0 .nil,M,nx⟩):ar P ρ g args M nx R:=by
 refine⟨?_,fun hd=>by rw[j9]at hd;cases hd⟩;intro w σ vs aQ aO aX o a K Q hK;have gy:(callFunc g vs.toArray).run P w = .ok (.enter g vs.toArray) w:=by
  simp only[callFunc,Sem.run_bind,run_program,Result.andThen_ok,hf,hn,hb,isNone_some,Bool.false_eq_true,if_false,Sem.run_pure]
 rw[gy];show Calls P g vs.toArray w _;refine(callsIn_wide (n:=0)).1 ?_;refine callsIn_of_wp_marks (F:=FW none) hf hb (jh none _) ?_;refine He hp c none w.heap.size w σ M nx trivial (Nat.le_refl _) _ _ _ w σ h (qk aQ aO aX) _ fun e s' a' w' σ' Ml kU=>?_
 have fin:(∃vs,cB P s' fn.results.toList=some vs/\R (cR vs,s'.M,s'.nx))->LeavesInM (FW none) 0 P fn a'.tmps (fun
  | .returned v,w''=>K (a.put o.dst v) w''
  | .panicked chain,w''=>Q (.panic chain) a w''
  | .outgrown,_=>LetsOut Q) a'.defers .returning w':=by
  rintro⟨vs',CR,hR⟩;exact ue kU aO CR fun v w'' σ'' q1 q2 q3 q4 q5=>hK v w'' ⟨_,hR,σ'',q1,q2,q3,q4,q5⟩
 cases e with
 | normal=>exact fin Ml
 | ret=>exact fin Ml
 | exit id=>exact Ml.elim
theorem OQ.body (hp:P.follows .mixedOrders=true) {c:Code} {Y:Nat×YW} {R:Hp->Nat->Prop} (hf:P.funcs[g]?=some fn) (hn:(fn.name == "runtime.NumGoroutine")=false) (hb:fn.body=some c) (hr:fn.results.toList=[])
 (h:qD P ρ (args.length+(fn.ntmps - args.length)) (some Y) c (fun e s=>(∀id,e ≠ .exit id)/\R s.M s.nx) ⟨cz args 0 .nil,M,nx⟩):OQ P ρ g args Y M nx R:=by
 intro w σ vs aQ aO aX hY;refine⟨⟨fn,c,hf,hb,hn⟩,?_⟩;refine callsIn_of_wp_marks (F:=FW none) hf hb (jh none _) ?_;refine He hp c (some Y) w.heap.size w σ M nx hY (Nat.le_refl _) _ _ _ w σ h (qk aQ aO aX) _ fun e s' a' w' σ' ⟨h1,h2⟩ kU=>?_
 have fin:LeavesInM (FW none) 0 P fn a'.tmps (fun e w'=>(∃v,e = .returned v)/\∃M' nx',R M' nx'/\∃σ',Ok ρ w' σ' M'/\zN w σ M w' σ' M'/\nx<=nx'/\∀k,σ' k=σ k\/(nx<=k/\k<nx')) a'.defers .returning w' :=
  ue (vs:=[]) kU aO (by rw[hr];rfl) fun v w'' σ'' _ q2 q3 q4 q5=>⟨⟨v,rfl⟩,_,_,h2,σ'',q2,q3,q4,q5⟩
 cases e with
 | normal=>exact fin
 | ret=>exact fin
 | exit id=>exact(h1 id rfl).elim
end
end
end Go.Xs
namespace Go.Xs
open List Nat Option
variable{K:bg->XS->Prop}{Y:Option (Nat×YW)}{after:Array Edge}{args:List XV}{clock g id k key m:Nat}{fn:Func}{pos:String}{s:XS}{ty:TypeId}{Γ:eP}
noncomputable section
variable {P:Program} {ρ:aK} {n:Nat} {env:eX} {M:Hp} {nx:Nat} {all os:List Oper} {F:XS->Prop} {d:Option Nat}
def NX (P:Program) (ρ:aK) (n:Nat) (all os:List Oper) (env:eX) (M:Hp) (nx:Nat) (d:Option Nat) (F:XS->Prop) (x:XV):Prop :=
 ρ.det=false/\∃L,wE M x=some L/\∀e ∈ L,aN P ρ n all os env d F (e.val,aY M e.upd,nx+1)
theorem qv (it:Operand) :
 RN P ρ n all (⟨d,.next it false,ty,pos,after,none⟩::os) ⟨env,M,nx⟩ F=NX P ρ n all os env M nx d F (cG env it):=by
 refine propext ?_;unfold RN;simp only[a_];constructor
 ·rintro(⟨e,he,_⟩ | ⟨c',g,args,R,df,_⟩ | ⟨c',g,args,e,hi,df,_⟩ | ⟨it',L,h0,df,hL,hK⟩)
  ·simp[cY]at he
  ·cases df
  ·cases df
  ·cases df;exact⟨h0,L,hL,hK⟩
 ·rintro⟨h0,L,hL,hK⟩
  exact .inr (.inr (.inr ⟨it,L,h0,rfl,hL,hK⟩))
theorem s6 (t:Nat) (x:Operand):cY P Γ env M key (.range t x)=me P M key t (cG env x):=rfl
theorem yA (x:Operand):cY P Γ env M key (.entry x)=i7 M (cG env x):=rfl
def Xn (key m:Nat):NT->Option bx->Option bZ
 | .mp,some (.map _ clock)=>some ⟨.mp key 0,[m],[(key,some (.iter (some m) clock [] clock))]⟩
 | _,_=>none
theorem pP {t:Nat}:me P M key t (.mm m)=Xn key m (nt P t) (gG M m):=by
 unfold me Xn nt;cases hu:P.underlying t with
 | none=>rfl
 | some d =>
   cases d<;>first | rfl | skip
   simp only;cases gG M m with
   | none=>rfl
   | some o=>cases o<;>rfl
theorem tf {es:List (Nat×XV×XV)}:Xn key m .mp (some (.map es clock))=some ⟨.mp key 0,[m],[(key,some (.iter (some m) clock [] clock))]⟩:=rfl
variable {β:Type} {vf:β->XV} {l:List (Nat×Int×β)}
theorem tX (seen:List Nat):∀(l:List (Nat×Int×β)),nz seen (cx vf l)=cx vf (l.filter fun e=>decide (e.1 ∉ seen))
 | []=>rfl
 | e::l=>by
   have ih:=tX seen l;simp only[cx,map_cons,nz]at ih ⊢;by_cases h:e.1 ∈ seen
   ·rw[(eg seen e.1).2 h]
    simp only[h,not_true_eq_false,decide_false,filter_cons_of_neg,Bool.false_eq_true,not_false_eq_true];exact ih
   ·have:db seen e.1=false:=by
     cases hb:db seen e.1 with
     | false=>rfl
     | true=>exact(h ((eg seen e.1).1 hb)).elim
    rw[this];simp only[h,not_false_eq_true,decide_true,filter_cons_of_pos,map_cons];rw[ih]
theorem Cf (j9:ρ.det=false) {since st:Nat} {seen:List Nat} (hk:gG M k=some (.iter (some m) since seen st)) (hm:gG M m=some (.map (cx vf l) clock))
 (hl:∀e ∈ l,e.1<since) (h1:since<=st) (h2:since<=clock)
 (qy:(∀e ∈ l,e.1 ∈ seen)->aN P ρ n all os env d F (.tup [.bool false],M,nx+1))
 (hgo:∀e ∈ l,e.1 ∉ seen->aN P ρ n all os env d F (.tup [.bool true,.int .u64 e.2.1,vf e.2.2],aG M k (.iter (some m) since (seen++[e.1]) clock),nx+1)):NX P ρ n all os env M nx d F (.mp k 0):=by
 have ha:(cx vf l).all (fun e=>Nat.blt e.1 since)=true:=by
  simp only[cx,List.all_map,List.all_eq_true];intro e he;rw[Function.comp_apply,blt_eq];exact hl e he
 have hb:Nat.ble since st=true:=by rw[ble_eq];exact h1
 have hc:Nat.ble since clock=true:=by rw[ble_eq];exact h2
 refine⟨j9,?_⟩;unfold wE;simp only[hk,hm,ha,hb,hc,tX];cases hf:l.filter (fun e=>decide (e.1 ∉ seen)) with
 | nil =>
   refine⟨_,rfl,fun e he=>?_⟩;rw[mem_singleton]at he;subst he;refine qy fun e he=>?_
   rw[filter_eq_nil_iff]at hf;have:=hf e he;simpa using this
 | cons a r =>
   refine⟨_,rfl,fun e he=>?_⟩;simp only[cx,map_cons,mem_cons,mem_map]at he;have key:∀x ∈ a::r,aN P ρ n all os env d F (.tup [.bool true,.int .u64 x.2.1,vf x.2.2],aG M k (.iter (some m) since (seen++[x.1]) clock),nx+1):=fun x hx=>by
    rw[<-hf,mem_filter]at hx;exact hgo x hx.1 (by simpa using hx.2)
   rcases he with rfl | ⟨y,⟨x,hx,rfl⟩,rfl⟩
   ·exact key a mem_cons_self
   ·exact key x (mem_cons_of_mem _ hx)
theorem tY:∀(l:List Nat) (b:Nat),zH (l++[b])=some b
 | [],b=>rfl
 | [a],b=>rfl
 | a::c::l,b=>by
   have:=tY (c::l) b;simp only[cons_append]at this ⊢;exact this
theorem ut:∀{l:List (Nat×Int×β)},(l.map (·.1)).Nodup->∀e ∈ l,Dz e.1 (cx vf l)=some (.int .u64 e.2.1,vf e.2.2)
 | [],_,e,he=>by cases he
 | a::l,hn,e,he=>by
   simp only[cx,map_cons,Dz];rw[map_cons,nodup_cons]at hn;rcases mem_cons.1 he with rfl | he
   ·rw[beq_refl]
   ·have:Nat.beq a.1 e.1=false:=by
     cases hb:Nat.beq a.1 e.1 with
     | false=>rfl
     | true=>exact(hn.1 (by rw[eq_of_beq_eq_true hb];exact mem_map.2 ⟨e,he,rfl⟩)).elim
    rw[this];exact ut hn.2 e he
theorem rj {since:Nat} {seen:List Nat} {e:Nat×Int×β} (hk:gG M k=some (.iter (some m) since (seen++[e.1]) clock)) (hm:gG M m=some (.map (cx vf l) clock)) (hn:(l.map (·.1)).Nodup) (he:e ∈ l) :
 i7 M (.mp k 0)=some ⟨.tup [.int .u64 e.2.1,vf e.2.2],[k,m],[]⟩:=by
 unfold i7;simp only[hk,hm,tY,beq_refl,ut hn e he]
theorem ar.walkR (hp:P.follows .mixedOrders=true) (j9:ρ.det=false) {c:Code} {rs:List ResultVar} {R:ew->Prop} (hf:P.funcs[g]?=some fn) (hn:(fn.name == "runtime.NumGoroutine")=false) (hb:fn.body=some c) (hm:args.length+(fn.ntmps - args.length)=m) (hr:fn.results.toList=rs)
 (h:qD P ρ m none c (vA P rs R) ⟨cz args 0 .nil,M,nx⟩):ar P ρ g args M nx R:=by
 subst hm hr;exact ar.bodyR hp j9 hf hn hb h
theorem OQ.walk (hp:P.follows .mixedOrders=true) {c:Code} {Y:Nat×YW} {R:Hp->Nat->Prop} (hf:P.funcs[g]?=some fn) (hn:(fn.name == "runtime.NumGoroutine")=false) (hb:fn.body=some c) (hr:fn.results.toList=[]) (hm:args.length+(fn.ntmps - args.length)=m)
 (h:qD P ρ m (some Y) c (fun e s=>(∀id,e ≠ .exit id)/\R s.M s.nx) ⟨cz args 0 .nil,M,nx⟩):OQ P ρ g args Y M nx R:=by
 subst hm;exact OQ.body hp hf hn hb hr h
theorem iX (f:XS->Prop) (K:bg->XS->Prop) (s:XS):fx f K .normal s=f s:=rfl
theorem Qc (f:XS->Prop) (K:bg->XS->Prop) (i:Nat) (s:XS):fx f K (.exit i) s=K (.exit i) s:=rfl
theorem Mm (f:XS->Prop) (K:bg->XS->Prop) (s:XS):fx f K .ret s=K .ret s:=rfl
theorem Df (I:Nat->XS->Prop) (k:Nat) (K:bg->XS->Prop) (s:XS):w_ I k K .normal s = ∃j,j<k/\I j s:=rfl
theorem LC (I:Nat->XS->Prop) (k:Nat) (K:bg->XS->Prop) (i:Nat) (s:XS):w_ I k K (.exit i) s=K (.exit i) s:=rfl
theorem Nf (i:Nat):Cj i .normal = .normal:=rfl
theorem Tk (i:Nat):Cj i (.exit i) = .normal:=by simp[Cj]
theorem FD {H:YW} {c:Call} {Q:XS->Prop} (hy:EU env c=some (k,args))
 (h:H args M nx fun M' nx'=>∃be,cu n env d (.bool true)=some be/\FT P ρ n (some (k,H)) all os ⟨be,M',nx'⟩ Q):FT P ρ n (some (k,H)) all (⟨d,.call c,ty,pos,after,none⟩::os) ⟨env,M,nx⟩ Q:=by
 unfold FT;simp only[a_];exact .inr ⟨c,k,H,args,rfl,rfl,hy,h⟩
theorem Pw {l:List Oper} (h:FT P ρ n Y l l s (K .normal)):qD P ρ n Y (.region id l.toArray false) K s:=h
theorem EA {asg body:Code} {ps:List Nat} {e0 be:eX} {Q:Hp->Nat->Prop} (hp:qj m ps args e0=some be)
 (h:W P ρ m asg [] (fun e s=>e = .normal/\W P ρ m body [] (fun e s'=>e = .normal/\Q s'.M s'.nx) s) ⟨be,M,nx⟩):xB P ρ m asg body ps e0 args M nx Q:=⟨be,hp,h⟩
theorem po {x y:Code} (h:W P ρ n x [] (fx (qD P ρ n Y y K) K) s):qD P ρ n Y (.seq x y) K s:=Ix x _ s h
theorem CY {x y:Code} (h:qD P ρ n Y x (fx (qD P ρ n Y y K) K) s):qD P ρ n Y (.seq x y) K s:=h
theorem Iy {x:Code} (h:W P ρ n x [] K s):qD P ρ n Y x K s:=Ix x _ s h
theorem Cm {x:Code} (h:qD P ρ n Y x (fun e s'=>K (Cj id e) s') s):qD P ρ n Y (.block id x) K s:=h
theorem Hn {c:Code} (I:Nat->XS->Prop) (k:Nat) (h0:I k s) (h:∀k s',I k s'->qD P ρ n Y c (w_ I k K) s'):qD P ρ n Y (.loop c) K s:=⟨I,⟨k,h0⟩,h⟩
end
end Go.Xs
namespace Go.Xs
open List Nat Option
noncomputable section
open Classical
theorem fg {α:Type} {f:α->List XV} {sz:Nat} (hf:∀a,(f a).length=sz):∀(l:List α),(l.flatMap f).length=l.length*sz
 | []=>aj
 | a::l=>by rw[flatMap_cons,length_append,hf,fg hf l,length_cons];rw[Nat.add_mul];omega
theorem wY:∀(xs ys:List XV) (k:Nat) (vs:List XV),bp (xs++ys) (xs.length+k) vs=xs++bp ys k vs
 | [],ys,k,vs=>aj
 | c::xs,ys,k,vs=>by
   rw[cons_append,length_cons,show xs.length+1+k=(xs.length+k)+1 by omega,cons_append];simp only[bp];rw[wY xs ys k vs]
theorem nC {α:Type} {f:α->List XV} {g:α->α} {sz o:Nat} {vs:List XV} (hf:∀a,(f a).length=sz) (ho:o+vs.length<=sz):∀(l:List α) (i:Nat),i<l.length->(∀a,l[i]?=some a->f (g a)=bp (f a) o vs)->(l.modify i g).flatMap f=bp (l.flatMap f) (i*sz+o) vs
 | [],i,h,_=>by simp at h
 | a::l,0,_,hg=>by
   have h1:=hg a rfl;have:=hf a;rw[modify_zero_cons,flatMap_cons,flatMap_cons,h1,Nat.zero_mul,Nat.zero_add];rw[fa _ _ _ af,fa _ _ _ (by rw[length_append];omega),take_append_of_le_length af,drop_append_of_le_length af];simp
 | a::l,i+1,h,hg=>by
   have h0:=hf a;have hl:i<l.length:=by simpa using h
   have ih:=nC (g:=g) (vs:=vs) hf ho l i hl (fun b hb=>hg b (by simpa using hb));rw[modify_succ_cons,flatMap_cons,flatMap_cons,ih,show (i+1)*sz+o=(f a).length+(i*sz+o) by rw[h0,Nat.add_mul];omega,wY]
def HS.wr (S:HS) (n:Nat) (cr:List XV):HS:={ S with nrec:=n,crec:=cr }
def fJ (P:Nat->Prop) (l:List fS):List fS:=l.mapIdx fun j m=>{ m with fin:=m.fin||decide (P j) }
def xx (len:Int) (i:Nat) (l:List ku):List ku:=l.mapIdx fun k a=>if k<i/\a.s=3 then { a with e:=len } else a
def HS.done (S:HS) (len:Int) (i:Nat) (P:Nat->Prop):HS:={ S with txs:=xx len i S.txs,mods:=fJ P S.mods }
theorem im (P:Nat->Prop) (l:List fS):(fJ P l).length=l.length:=by simp[fJ]
theorem rp (len:Int) (i:Nat) (l:List ku):(xx len i l).length=l.length:=by simp[xx]
theorem ie (P:Nat->Prop) (l:List fS) (j:Nat):(fJ P l)[j]?=(l[j]?).map fun m=>{ m with fin:=m.fin||decide (P j) }:=by simp[fJ]
theorem fw (len:Int) (i:Nat) (l:List ku) (k:Nat):(xx len i l)[k]?=(l[k]?).map fun a=>if k<i/\a.s=3 then { a with e:=len } else a:=by simp[xx]
theorem Br (l:List fS):fJ (fun _=>False) l=l:=by
 refine ext_getElem? fun j=>?_
 rw[ie];cases l[j]? <;> simp
theorem ki {P Q:Nat->Prop} (h:∀j,P j ↔ Q j) (l:List fS):fJ P l=fJ Q l:=by
 have:P=Q:=funext fun j=>propext (h j)
 rw[this]
theorem BS (len:Int) (l:List ku):xx len 0 l=l:=by
 refine ext_getElem? fun j=>?_
 rw[fw];cases l[j]? <;> simp
theorem EX (P:Nat->Prop) (l:List fS) (j0:Nat):fJ (fun j=>P j\/j=j0) l=(fJ P l).modify j0 fun m=>{ m with fin:=true }:=by
 refine ext_getElem? fun j=>?_
 rw[ie,getElem?_modify,ie];by_cases h:j=j0
 ·subst h
  cases l[j]? <;> simp
 ·have h':¬ j0=j:=fun e=>h e.symm
  cases l[j]? <;> simp[h,h']
theorem tU (len:Int) (i:Nat) (l:List ku):xx len (i+1) l=(xx len i l).modify i fun a=>if a.s=3 then { a with e:=len } else a:=by
 refine ext_getElem? fun k=>?_
 rw[fw,getElem?_modify,fw];by_cases h:k=i
 ·subst h
  cases l[k]? with
  | none=>rfl
  | some a=>simp
 ·have h':¬ i=k:=fun e=>h e.symm
  cases l[k]? with
  | none=>rfl
  | some a =>
    have:(k<i+1) ↔ k<i:=af;simp[this,h']
theorem KO (P:Nat->Prop) (l:List fS) {j0:Nat} (h:j0<l.length):(fJ (fun j=>P j\/j=j0) l).flatMap cO=bp ((fJ P l).flatMap cO) (j0*8+7) [.bool true]:=by
 rw[EX];exact nC (f:=cO) (g:=fun m=>{ m with fin:=true }) (sz:=8) (o:=7) (vs:=[.bool true]) (fun a=>rfl) ak (fJ P l) j0 (by rw[im];exact h) fun a _=>rfl
section
variable {M M' N:Hp} {lo hi hi' h:Nat} {S:HS} {tag tag':Nat->Hg} {vrec vtxs vcom vmods vlook:XV} {nk vk ok cn cv co:Nat} {ptrs:List XV} {lnum:List (Nat×Int×Int)} {lver:List (Nat×List Int×Int)} {lobj:List (Nat×Int×Int)}
theorem eM.setMods {ms:List fS} (H:eM M lo hi h S tag vrec vtxs vcom vmods vlook nk vk ok cn cv co ptrs lnum lver lobj)
 (keep:∀q,q<hi->tag q ≠ .mods->gG M' q=gG M q) (mods:bS M' lo hi tag .mods vmods 8 ms.length (ms.flatMap cO)) :
 eM M' lo hi h { S with mods:=ms } tag vrec vtxs vcom vmods vlook nk vk ok cn cv co ptrs lnum lver lobj:=by
 have kk:∀tg:Hg,tg ≠ .mods->∀k,k<hi->tag k=tg->gG M' k=gG M k/\tag k=tg:=fun tg hc k hk hg=>⟨keep k hk (by rw[hg];exact hc),hg⟩
 exact {
  lo_h:=H.lo_h,h_hi:=H.h_hi,tg:=H.tg,row:=by rw[(kk _ aj h H.h_hi H.tg).1];exact H.row
  recs:=H.recs.keep (kk _ aj) (Nat.le_refl _),txs:=H.txs.keep (kk _ aj) (Nat.le_refl _)
  known:=fun i b hb=>by
   obtain⟨v,h1,h2⟩:=H.known i b hb;exact⟨v,h1,h2.keep (fun k hk hg=>⟨keep k hk (by rcases hg with q | q | ⟨x,q⟩<;>rw[q]<;>simp),rfl⟩) (Nat.le_refl _)⟩
  nlo:=H.nlo,nhi:=H.nhi,ntg:=H.ntg,num:=by rw[(kk _ aj nk H.nhi H.ntg).1];exact H.num,numS:=H.numS
  com:=H.com.keep (kk _ aj) (Nat.le_refl _),mods:=mods
  vlo:=H.vlo,vhi:=H.vhi,vtg:=H.vtg,ver:=by rw[(kk _ aj vk H.vhi H.vtg).1];exact H.ver,vrow:=H.vrow,verS:=H.verS
  looks:=H.looks.keep (kk _ aj) (Nat.le_refl _)
  olo:=H.olo,ohi:=H.ohi,otg:=H.otg,obj:=by rw[(kk _ aj ok H.ohi H.otg).1];exact H.obj,objS:=H.objS }
theorem eM.setTx {ts:List ku} {i rk mk:Nat} {a a':ku} (H:eM M lo hi h S tag vrec vtxs vcom vmods vlook nk vk ok cn cv co ptrs lnum lver lobj) (hi':ts.length=S.txs.length) (hts:∀j,j≠i->ts[j]?=S.txs[j]?) (VS:ts[i]?=some a')
 (Gr:tag rk = .known i) (hv:ptrs[i]?=some (.mp rk 0)) (Qx:S.txs[i]?=some a) (hm:gG M rk=some (.row (d_ a++[.mm mk])))
 (keep:∀q,q<hi->q≠rk->gG M' q=gG M q) (bA:gG M' rk=some (.row (d_ a'++[.mm mk]))) :
 eM M' lo hi h { S with txs:=ts } tag vrec vtxs vcom vmods vlook nk vk ok cn cv co ptrs lnum lver lobj:=by
 have kk:∀tg:Hg,tg ≠ .known i->∀k,k<hi->tag k=tg->gG M' k=gG M k/\tag k=tg:=fun tg hc k hk hg=>⟨keep k hk (fun e=>hc (by rw[<-hg,e];exact Gr)),hg⟩
 exact {
  lo_h:=H.lo_h,h_hi:=H.h_hi,tg:=H.tg,row:=by rw[(kk _ aj h H.h_hi H.tg).1];exact H.row
  recs:=H.recs.keep (kk _ aj) (Nat.le_refl _),txs:=by rw[show ({ S with txs:=ts }:HS).txs.length=S.txs.length from hi'];exact H.txs.keep (kk _ aj) (Nat.le_refl _)
  known:=fun j b hb=>by
   by_cases hj:j=i
   ·subst hj
    have rA:a'=b:=by
     have:ts[j]?=some b:=hb;rw[VS]at this;cases this;rfl
    subst rA;obtain⟨v,h1,rk2,mk2,c,lm,e1,e2,e3,e4,e5,e6,e7,e8,e9,dx,kW⟩:=H.known j a Qx;rw[hv]at h1;cases h1;cases e1;rw[hm]at e5;have emk:mk=mk2:=by
     simp only[Option.some.injEq,bx.row.injEq,append_cancel_left_eq,List.cons.injEq,XV.mm.injEq,and_true]at e5;exact e5
    subst emk;exact⟨_,hv,rk,mk,c,lm,rfl,e2,e3,e4,bA,e6,e7,e8,by rw[(kk _ aj mk e7 e8).1];exact e9,dx,fun x v hx=>⟨(kW x v hx).1,(kW x v hx).2.keep (kk _ aj) (Nat.le_refl _)⟩⟩
   ·obtain⟨v,h1,h2⟩:=H.known j b (by have:ts[j]?=some b:=hb;rw[hts j hj]at this;exact this)
    exact⟨v,h1,h2.keep (fun k hk hg=>⟨keep k hk (fun e=>by subst e;rw[Gr]at hg;rcases hg with q | q | ⟨x,q⟩<;>simp at q;exact hj q.symm),rfl⟩) (Nat.le_refl _)⟩
  nlo:=H.nlo,nhi:=H.nhi,ntg:=H.ntg,num:=by rw[(kk _ aj nk H.nhi H.ntg).1];exact H.num,numS:=H.numS
  com:=H.com.keep (kk _ aj) (Nat.le_refl _),mods:=H.mods.keep (kk _ aj) (Nat.le_refl _)
  vlo:=H.vlo,vhi:=H.vhi,vtg:=H.vtg,ver:=by rw[(kk _ aj vk H.vhi H.vtg).1];exact H.ver,vrow:=H.vrow,verS:=H.verS
  looks:=H.looks.keep (kk _ aj) (Nat.le_refl _)
  olo:=H.olo,ohi:=H.ohi,otg:=H.otg,obj:=by rw[(kk _ aj ok H.ohi H.otg).1];exact H.obj,objS:=H.objS }
end
theorem zl {M N:Hp} {nx:Nat} (mu:Mu N M) (lt:∀k o,gG N k=some o->k<nx) {k:Nat} (hk:k<nx) (hN:gG N k≠none) {x:bx} (hx:kF x=true) {M':Hp} (h1:gG M' k=some x) (h2:∀j,j<nx->j≠k->gG M' j=gG M j) :
 Mu (aG N k x) M'/\(∀j o,gG (aG N k x) j=some o->j<nx)/\gM nx N M (aG N k x) M':=by
 refine⟨fun j o ho=>?_,fun j o ho=>?_,fun j z j1 j2 j3=>?_⟩
 ·rw[aB]at ho
  split at ho
  ·rename_i e;subst e;cases ho;exact⟨h1,hx⟩
  ·rename_i e
   obtain⟨q1,q2⟩:=mu j o ho;exact⟨by rw[h2 j (lt j o ho) (fun q=>e q.symm)];exact q1,q2⟩
 ·rw[aB]at ho
  split at ho
  ·rename_i e;subst e;exact hk
  ·exact lt j o ho
 ·have:k≠j:=fun e=>hN (by rw[e];exact j2)
  exact⟨by rw[h2 j j1 (fun q=>this q.symm)];exact j3,by rw[aB,if_neg this];exact j2⟩
end
end Go.Xs
namespace Go.Xs
open List Nat Option
variable{M:Hp}{S:HS}{h hi lo nx:Nat}
noncomputable section
open Go.Proofs
def By (S:HS):Prop:=∀t k,S.num t=some k->∃(j:Nat) (a:ku),k=(j:Int)/\S.txs[j]?=some a
def Ho (S:HS) (t:Int):Option ku:=match S.num t with | some k=>S.txs[k.toNat]? | none=>none
def tx0:ku:=⟨0,0,0,0,0⟩
def txR (S:HS) (t:Int):ku×Bool:=match Ho S t with | some a=>(a,true) | none=>(tx0,false)
theorem mA (ρ:aK) (H:bX M lo hi h S) (hh:hi<=nx) (hn:By S) (t:Int) :
 ar ao ρ 13 [.mp h 0,.int .u64 t] M nx (fe nx M (.tup [.agg (d_ (txR S t).1),.bool (txR S t).2])):=by
 obtain⟨tag,vrec,vtxs,vcom,vmods,vlook,nk,vk,ok,cn,cv,co,ptrs,lnum,lver,lobj,H⟩:=H;have hr:=H.row;have U0:=H.num;have jc:=H.numS t;have vg:=H.h_hi;have ZW:=H.nhi;refine ar.wk 29 [.cell 4 39,.tmp 5] Tryz.func13 ?_;cases hs:S.num t with
 | none =>
   rw[hs]at jc;refine lO Ia hr U0 jc @fe.eq_1 ?_;exact⟨by simp[txR,Ho,hs,d_,tx0],O,af⟩
 | some k =>
   obtain⟨j,a,rfl,JC⟩:=hn t k hs;rw[hs]at jc;obtain⟨v,hv,rk,mk,cm,lm,rfl,r1,r2,r3,r4,r5⟩:=H.known j a JC;simp only[d_,cons_append,nil_append]at r4;have yY:=(List.getElem?_eq_some_iff.1 JC).1;refine jz Ia hr U0 jc ?_;generalize xu:aG M nx _=M1;have a1:aq nx M M1:=by rw[<-xu];exact O
   have z1:∃z,gG M1 nx=some (.row z):=by rw[<-xu];exact⟨_,J⟩
   have z2:gG M1 nx=some (.row [.int .u64 0,.int .i64 0,.int .i64 0,.int .i64 0,.int .i64 0]):=by rw[<-xu];exact J
   clear xu;refine lG (Zb ρ (H.agr (a1.le hh)) af hs hv yY) fun M2 n2 g2 g3=>?_
   have y4:=(g2 rk af).trans ((a1 rk af).trans r4);have y2:=(g2 nx af).trans z2;refine jz Ia y4 y2 @fe.eq_1 ?_;exact⟨by simp[txR,Ho,hs,JC,d_],(by(repeat (refine aq.set ?_ af _));exact a1.trans (g2.le af)),af⟩
theorem tZ:∀(es:List fS),(es.flatMap cO).all ax=true
 | []=>rfl
 | e::es=>by
   rw[flatMap_cons,all_append,tZ es];rfl
theorem WK (ρ:aK) (H:bX M lo hi h S) (hh:hi<=nx) (few:S.mods.length<=100000) :
 ar ao ρ 127 [.mp h 0] M nx fun r=>dN r.2.1 (fun k=>nx<=k/\k<r.2.2) r.1 8 S.mods.length (S.mods.flatMap cO)/\aq nx M r.2.1/\nx<=r.2.2:=by
 obtain⟨tag,vrec,vtxs,vcom,vmods,vlook,nk,vk,ok,cn,cv,co,ptrs,lnum,lver,lobj,H⟩:=H;have hr:=H.row;have cw:=H.mods.sl;refine ar.wk 10 [.tmp 2] Tryz.func127 ?_;refine fM sJ hr ?_;refine gQ (Px ρ (cw.agr (aq.refl _ _)) af few (tZ _)) ?_;rintro⟨u,M2,n2⟩ ⟨c1,c2,c3⟩;simp only at c1 c2 c3;rcases c3 with ⟨e1,e2⟩ | ⟨_,K,e1,e2,e3,e4⟩
 ·subst e2
  subst e1;refine dt sJ ?_;rcases cw.2 with ⟨_,g2,g3⟩ | ⟨_,_,_,_,g1,_⟩
  ·exact⟨⟨cw.1,.inl ⟨rfl,g2,g3⟩⟩,c1.le af,af⟩
  ·cases g1
 ·subst e1
  refine dt sJ ?_;have:=cw.row_len;exact⟨⟨cw.1,.inr ⟨K,0,S.mods.length,_,rfl,⟨af,af⟩,by unfold vR;rw[e4],af,by rw[drop_zero,take_of_length_le af]⟩⟩,c1.le af,af⟩
theorem As:∀(es:List fS) (i:Nat) (e:fS),es[i]?=some e->((es.flatMap cO).drop (i*8)).take 8=cO e
 | [],i,e,h=>by simp at h
 | a::es,0,e,h=>by
   simp only[getElem?_cons_zero,Option.some.injEq]at h;subst h;rfl
 | a::es,i+1,e,h=>by
   simp only[getElem?_cons_succ]at h;rw[flatMap_cons,show (i+1)*8=(cO a).length+i*8 by simp[cO];omega,drop_length_add_append];exact As es i e h
def oC (S:HS):Prop:=∀x w n k,S.ver x w n=some k->∃(j:Nat) (m:fS),k=(j:Int)/\S.mods[j]?=some m
def VB:fS:=⟨0,0,0,0,0,0,false,false⟩
def xa (S:HS) (x w n:Int):fS×Bool:=match S.ver x w n with | some k=>(match S.mods[k.toNat]? with | some m=>(m,true) | none=>(VB,false)) | none=>(VB,false)
theorem Wo (ρ:aK) (H:bX M lo hi h S) (hh:hi<=nx) (hv:oC S) (few:S.mods.length<=100000) (x w n:Int) :
 ar ao ρ 132 [.mp h 0,.int .u64 x,.agg [.int .u64 w,.int .u64 n]] M nx (fe nx M (.tup [.agg (cO (xa S x w n).1),.bool (xa S x w n).2])):=by
 obtain⟨tag,vrec,vtxs,vcom,vmods,vlook,nk,vk,ok,cn,cv,co,ptrs,lnum,lver,lobj,H⟩:=H;have hr:=H.row;have Q5:=H.ver;have jc:=H.verS x w n;have vg:=H.h_hi;have hvhi:=H.vhi;have US:=H.vrow;refine ar.wk 34 [.cell 6 90,.tmp 7] Tryz.func132 ?_;cases hs:S.ver x w n with
 | none =>
   rw[hs]at jc;refine ul Ei hr Q5 jc US @fe.eq_1 ?_;exact⟨by simp[xa,hs,cO,VB],O,af⟩
 | some k =>
   obtain⟨j,a,rfl,JC⟩:=hv x w n k hs;rw[hs]at jc;have yY:=(List.getElem?_eq_some_iff.1 JC).1;obtain⟨q,o,Oc,bC,aU⟩:=H.mods.sl.elem (P:=ao) yY (t:=80) (t':=90) oi.2.2.2.1 Gx.1;have aU:=fun N hN=>aU N hN
   rw[As _ _ _ JC]at aU;simp only[cO]at aU;have QR:=aU (aG (aG M nx (.row [.int .u64 w,.int .u64 n])) (nx+1) (.row [.int .i64 0,.int .u64 0,.int .u64 0,.int .u64 0,.int .u64 0,.int .u64 0,.bool false,.bool false])) O;refine mD Ei hr Q5 jc US bC QR @fe.eq_1 ?_;exact⟨by simp[xa,hs,JC,cO],O,af⟩
end
end Go.Xs
namespace Go.Xs
open List Nat Option
variable{M:Hp}{P:Program}{key lo nx:Nat}{v:XV}
noncomputable section
open Go.Proofs
theorem f123 (ρ:aK) {b len:Nat} {row:List XV} (h:bE M b v 8 len row) (hb:b<=nx) (few:len<=100000) (gE:row.all ax=true):ar ao ρ 123 [v] M nx fun r=>iT M nx v 8 len row r:=by
 obtain⟨rds,mr,F8⟩:=h.el2;have je:=h.row_len;have hv:v = .nils\/∃n off cap,v = .sl n 8 off len cap:=by
  rcases h.2 with ⟨e,_⟩ | ⟨n,off,cap,_,e,_⟩
  ·exact .inl e
  ·exact .inr ⟨n,off,cap,e⟩
 rcases hv with rfl | ⟨n,off,cap,hv⟩
 ·refine ar.wk 8 [.tmp 2] Tryz.func123 ?_
  refine fM FI @iT.eq_1 ?_;exact⟨aq.refl _ _,aj⟩
 ·have fF:∀k o,el2 (aG M (nx+k) o) v (some 8)=some (row,len,rds):=fun k o=>F8 _ (((aq.refl nx M).set af o).le hb)
  have cf:∀yc,io ao g0 48 .eql yc v .nils=some (.bool false):=fun yc=>by rw[hv,Cy,jn.2.2.2.2.2];rfl
  have F7:v ≠ .nils:=by rw[hv];simp
  clear hv;have vR:∀k,nx+k ∉ rds:=fun k hk=>by have:=mr _ hk;omega
  by_cases h0:len=0
  ·subst h0
   have:row=[]:=length_eq_zero_iff.1 af;subst this;have dX:∀key k,tG ao (aG M (nx+k) (.row [])) key 48 (.sl (nx+k) 8 0 0 0) v (some (8,56,[.int .i64 0,.int .i64 0,.int .u64 0,.int .u64 0,.int .u64 0,.int .u64 0,.bool false,.bool false])) (some ([],0,rds))=some ⟨.sl (nx+k) 8 0 0 0,(nx+k)::rds,[(nx+k,some (.row []))]⟩:=fun key k=>uj _ _ _ _ _ _ _ af af rfl (by rw[aB,if_pos rfl])
   refine ar.wk 8 [.tmp 2] Tryz.func123 ?_;refine lO FI cf fF dX @iT.eq_1 ?_;exact⟨O,af,.inr ⟨F7,_,rfl,af,af,if_pos (show aw _ _ from rfl)⟩⟩
  ·have dX:∀key k,tG ao (aG M (nx+k) (.row [])) key 48 (.sl (nx+k) 8 0 0 0) v (some (8,56,[.int .i64 0,.int .i64 0,.int .u64 0,.int .u64 0,.int .u64 0,.int .u64 0,.bool false,.bool false])) (some (row,len,rds))=some ⟨.sl key 8 0 len len,(nx+k)::rds,[(nx+k,none),(key,some (.row row))]⟩:=fun key k=>xz _ _ _ _ _ _ _ _ _ af af rfl af (by simp only[fE];omega) gE (by rw[aB,if_pos rfl]) (vR k)
   refine ar.wk 8 [.tmp 2] Tryz.func123 ?_;refine lO FI cf fF dX @iT.eq_1 ?_;exact⟨fun j hj=>J,af,.inr ⟨F7,_,rfl,af,af,if_pos (show aw _ _ from rfl)⟩⟩
theorem rt:∀(es:List my),(es.flatMap cX).all ax=true
 | []=>rfl
 | e::es=>by
   rw[flatMap_cons,all_append,rt es];rfl
theorem f76 (ρ:aK) {hi h:Nat} {S:HS} (H:bX M lo hi h S) (hh:hi<=nx) (few:S.looks.length<=100000) :
 ar ao ρ 76 [.mp h 0] M nx (og nx M 8 cX S.looks):=by
 obtain⟨tag,vrec,vtxs,vcom,vmods,vlook,nk,vk,ok,cn,cv,co,ptrs,lnum,lver,lobj,H⟩:=H;have hr:=H.row;have cw:=H.looks.sl;refine ar.wk 10 [.tmp 2] Tryz.func76 ?_;refine fM sJ hr ?_;refine gQ (f123 ρ (cw.agr (aq.refl _ _)) af few (rt _)) ?_;rintro⟨u,M2,n2⟩ ⟨c1,c2,c3⟩;simp only at c1 c2 c3;rcases c3 with ⟨e1,e2⟩ | ⟨_,K,e1,e2,e3,e4⟩
 ·subst e2
  subst e1;refine fM sJ @og.eq_1 ?_;rcases cw.2 with ⟨_,g2,g3⟩ | ⟨_,_,_,_,g1,_⟩
  ·exact⟨⟨cw.1,by rw[g3,g2];rfl,.inl ⟨rfl,g2⟩⟩,c1.le af,af⟩
  ·cases g1
 ·subst e1
  refine fM sJ @og.eq_1 ?_;have:=cw.row_len;exact⟨⟨cw.1,af,.inr ⟨K,rfl,⟨af,af⟩,e4⟩⟩,c1.le af,af⟩
theorem pj {α:Type} {f:α->List XV} {sz:Nat} (hf:∀a,(f a).length=sz):∀(l:List α) (k:Nat) (e:α),k<l.length->(l.set k e).flatMap f=bp (l.flatMap f) (k*sz) (f e)
 | [],k,e,h=>by simp at h
 | a::l,0,e,_=>by
   rw[List.set_cons_zero,flatMap_cons,flatMap_cons,Nat.zero_mul,KQ,Db _ _ (by simp[hf]),hf e,drop_left' (hf a)]
 | a::l,k+1,e,h=>by
   have ih:=pj hf l k e (by simpa using h);rw[set_cons_succ,flatMap_cons,flatMap_cons,ih,show (k+1)*sz=(f a).length+k*sz by rw[hf];rw[succ_mul];omega,wY]
theorem ud {α:Type} {q:α->Bool}:∀{l:List α} {i j:Nat},eN q l i=(j:Int)->i<=j/\j<i+l.length/\(l.take (j+1 - i)).filter (fun e=>!q e)=l.take (j - i)
 | [],i,j,h=>by simp[eN]at h
 | e::l,i,j,h=>by
   unfold eN at h;by_cases hq:q e=true
   ·rw[if_pos hq]at h
    have:j=i:=af;subst this;refine⟨Nat.le_refl _,aj,?_⟩;rw[show j+1 - j=1 by omega,Nat.sub_self];simp[hq]
   ·rw[if_neg hq]at h
    obtain⟨h1,h2,h3⟩:=ud h;refine⟨af,am,?_⟩;rw[show j+1 - i=(j+1 - (i+1))+1 by omega,show j - i=(j - (i+1))+1 by omega,take_succ_cons,take_succ_cons,filter_cons,h3];simp[hq]
theorem nN {Γ:eP} {env:eX} (t:Nat) (x:Operand) (lo hi mx:Option Operand):cY P Γ env M key (.slice t x lo hi mx)=qY P M t (cG env x) (rN env lo) (rN env hi) (rN env mx):=rfl
theorem Nr (env:eX):rN env none=none:=rfl
theorem Nb (env:eX) (x:Operand):rN env (some x)=some (cG env x):=rfl
theorem nW {α:Type} {f:α->List XV} {sz:Nat} (hf:∀a,(f a).length=sz):∀(l:List α) (k:Nat),(l.flatMap f).take (k*sz)=(l.take k).flatMap f
 | [],k=>aj
 | a::l,0=>aj
 | a::l,k+1=>by
   rw[flatMap_cons,take_succ_cons,flatMap_cons,show (k+1)*sz=(f a).length+k*sz by rw[hf,succ_mul,Nat.add_comm],take_length_add_append,nW hf l k]
theorem Ht {t:Nat} {ts:List Nat} {d:XV}:fO P M key .clear (t::ts) [d]=rx P M t d:=rfl
def oo (lo:Nat) (M M':Hp):Prop:=∀k,k<lo->gG M' k=gG M k
theorem f75 (ρ:aK) {l:List my} (hv:di M lo nx v 8 cX l) (mo:lo<=nx) (few:l.length<=100000) {g:Nat} {first caps:List XV} (q:my->Bool)
 (hq:∀e ∈ l,∀(M':Hp) (nx':Nat),oo lo M M'->nx<=nx'->ar ao ρ g (first++[.agg (cX e)]++caps) M' nx' (fe nx' M' (.bool (q e)))) :
 ar ao ρ 75 [v,.fn (.func g) first caps] M nx fun r=>dN r.2.1 (fun k=>lo<=k/\k<r.2.2) r.1 8 (l.filter fun e=>!q e).length ((l.filter fun e=>!q e).flatMap cX)/\oo lo M r.2.1/\nx<=r.2.2:=by
 refine ar.wk 42 [.tmp 4] Tryz.func75 ?_;refine bR Kj ?_;refine lG (f43 ρ (hv.at (Nat.le_refl _)) af q fun e he M' n' ha hn=>hq e he M' n' (fun k hk=>ha k af) af) fun M1 n1 g2 g3=>?_
 have Kh:=uK (q:=q) l 0;by_cases hj:eN q l 0 = -1
 ·have hf:l.filter (fun e=>!q e)=l:=by
   rw[hj]at Kh;rw[filter_eq_self];intro e he;have:=List.any_eq_false.1 Kh.symm e he;simpa using this
  refine mI Kj hj ?_;rw[hf];exact⟨(hv.up (N:=M1) (fun q _ hq=>g2 q af) (hi':=n1+5) af).pp,fun k hk=>g2 k af,af⟩
 ·have aL:=ta q l 0
  obtain⟨j,V5⟩:∃j:Nat,eN q l 0=(j:Int):=⟨(eN q l 0).toNat,af⟩;obtain⟨_,j2,j3⟩:=ud V5;rw[Nat.sub_zero,Nat.sub_zero]at j3;rw[V5]at hj ⊢;clear aL Kh V5;obtain⟨vj,RU,⟨_,h0⟩ | ⟨K,rfl,⟨k1,k2⟩,hK⟩⟩:=hv
  ·omega
  obtain⟨nq,V7⟩:∃nq:my->Bool,nq=fun e=>!q e:=⟨_,rfl⟩
  rw[<-V7]at j3 ⊢;have Gg:=(g2 K af).trans hK;have MJ:=eF j;refine Ao Kj hj MJ ?_;refine aC (fun m' s=>∃(i k:Nat) (l':List my),i<=l.length/\k<i/\m'=l.length - i/\((l.take i).filter nq).length=k/\l'.length=l.length/\l'.take k=(l.take i).filter nq/\l'.drop i=l.drop i /\
   gG s.env 0=some (.sl K 8 0 l.length l.length)/\gG s.env 1=some (.fn (.func g) first caps)/\gG s.env 5=some (.int .i64 k)/\gG s.env 6=some (.int .i64 i)/\gG s.M K=some (.row (l'.flatMap cX))/\oo lo M s.M/\nx<=s.nx)
   (l.length - (j+1)) ⟨j+1,j,l,af,af,rfl,by rw[j3,length_take];omega,rfl,by rw[j3],rfl,?_⟩ ?_
  ·refine bR Kj ?_
   exact⟨Gg,fun k hk=>g2 k af,af⟩
  ·rintro m' ⟨env,M',nx'⟩ ⟨i,k,l',hi,hki,ir,hk,qz,kB,wS,e0,e1,e5,e6,z,ha,hn⟩
   simp only at e0 e1 e5 e6 z ha hn;by_cases aL:(i:Int)<l.length
   ·have aP:i<l.length:=af
    obtain⟨e,gA⟩:∃e,l[i]?=some e:=⟨l[i],by simp[aP]⟩;have Qr:l'[i]?=some e:=by
     have:(l'.drop i)[0]?=some e:=by rw[wS,getElem?_drop];exact gA
     rwa [getElem?_drop]at this
    have je:(l'.flatMap cX).length=l.length*8:=by rw[<-qz];clear kB wS Qr qz z;induction l' with | nil=>rfl | cons a l ih=>rw[flatMap_cons,length_append,ih,length_cons];simp[cX];omega
    have bV:=eF i;have F_:=eF k;have bC:∀kk,br ao 48 (.sl K 8 0 l.length l.length) (.int kk (i:Int))=some (.mp K (i*8)):=fun kk=>by
     rw[cy,jn.2.2.2.1,ev _ _ _ _ _ af af];simp
    have iN:∀kk,br ao 48 (.sl K 8 0 l.length l.length) (.int kk (k:Int))=some (.mp K (k*8)):=fun kk=>by
     rw[cy,jn.2.2.2.1,ev _ _ _ _ _ af af];simp
    have rC:(i+1)*8<=l.length*8:=mul_le_mul_right _ aP;have aU:b_ ao M' 51 (.mp K (i*8))=some ⟨.agg (cX e),[K],[]⟩:=by
     rw[fG (by unfold vR;rw[z]) mH.1 af,jK Qr]
    have yR:=hq e (mem_of_getElem? gA);have kS:(l.take (i+1)).filter nq=(l.take i).filter nq++(if nq e then [e] else []):=by
     rw[take_add_one,gA,toList_some,filter_append];congr 1;cases h:nq e<;>simp[h]
    have Y1:=pj (f:=cX) (sz:=8) (fun _=>rfl) l' k e af;obtain⟨p1,p2,p3,p4,p5,p6,p7,p8⟩:=e;simp only[cX]at aU yR;refine iQ Kj e0 e1 e5 e6 aL bC aU ?_;generalize oM:aG (aG M' (nx'+8) _) (nx'+8) _=M3;have a3:aq nx' M' M3:=by rw[<-oM];exact O
    have z3:gG M3 (nx'+8)=some (.row [.int .i64 p1,.int .i64 p2,.int .u64 p3,.int .u64 p4,.int .u64 p5,.int .u64 p6,.bool p7,.bool p8]):=by rw[<-oM];exact J
    clear oM;refine gQ (yR M3 _ (fun q hq=>(a3 q af).trans (ha q hq)) af) ?_;rintro⟨u,M4,n4⟩ ⟨g4,g5,g6⟩;simp only at g4 g5 g6;subst g4;have z4:=(g5 (nx'+8) af).trans z3;have a4:aq nx' M' M4:=a3.trans (g5.le af);have zK:=(a4 K af).trans z;clear z3 a3 g5;cases E0:q ⟨p1,p2,p3,p4,p5,p6,p7,p8⟩ with
    | true =>
      have ZR:nq ⟨p1,p2,p3,p4,p5,p6,p7,p8⟩=false:=by rw[V7];simp[E0]
      rw[ZR]at kS;refine gw Kj E0 bV e0 e1 e5 e6 ?_;refine⟨l.length - (i+1),af,i+1,k,l',af,af,rfl,by rw[kS];simpa using hk,qz,by rw[kS];simpa using kB,?_,rfl,rfl,zK,fun q hq=>(a4 q af).trans (ha q hq),af⟩;rw[<-drop_drop,<-drop_drop,wS]
    | false =>
      have ZR:nq ⟨p1,p2,p3,p4,p5,p6,p7,p8⟩=true:=by rw[V7];simp[E0]
      rw[ZR]at kS;simp only[cX]at Y1;refine dw Kj E0 bV F_ e0 e1 e5 e6 iN z4 zK ?_;refine⟨l.length - (i+1),af,i+1,k+1,l'.set k ⟨p1,p2,p3,p4,p5,p6,p7,p8⟩,af,af,rfl,by rw[kS];simp[hk],by simp[qz],?_,?_,rfl,rfl,?_,fun q hq=>?_,af⟩
      ·rw[kS,<-kB,take_add_one,List.take_set_of_le (Nat.le_refl _),getElem?_set_self af]
       simp
      ·rw[List.drop_set_of_lt af,<-drop_drop,<-drop_drop,wS]
      ·rw[<-Y1]
      ·rw[aB,if_neg af]
       exact(a4 q af).trans (ha q hq)
   ·have gB:i=l.length:=af
    have Kg:∀N,qY ao N 48 (.sl K 8 0 l.length l.length) (some (.int .i64 (k:Nat))) none none=some ⟨.sl K 8 (k*8) (l.length - k) (l.length - k),[],[]⟩:=fun N=>by
     unfold qY;have e:(Int.ofNat k)=((k:Nat):Int):=rfl;simp only[<-e,Lb,Tryz.underlying48,mH.2.1];rw[show Nat.ble k l.length=true by rw[ble_eq];omega,show Nat.ble l.length l.length=true by rw[ble_eq];omega];simp;rfl
    have QJ:∀N,qY ao N 48 (.sl K 8 0 l.length l.length) none (some (.int .i64 (k:Nat))) none=some ⟨.sl K 8 0 k l.length,[],[]⟩:=fun N=>by
     unfold qY;have e:(Int.ofNat k)=((k:Nat):Int):=rfl;simp only[<-e,Lb,Tryz.underlying48,mH.2.1];rw[show Nat.ble 0 k=true by rw[ble_eq];omega,show Nat.ble k l.length=true by rw[ble_eq];omega,show Nat.ble l.length l.length=true by rw[ble_eq];omega];simp;rfl
    have je:(l'.flatMap cX).length=l.length*8:=by rw[<-qz];clear kB wS qz z;induction l' with | nil=>rfl | cons a l ih=>rw[flatMap_cons,length_append,ih,length_cons];simp[cX];omega
    obtain⟨zs,VY⟩:∃zs,zs=lQ [.int .i64 0,.int .i64 0,.int .u64 0,.int .u64 0,.int .u64 0,.int .u64 0,.bool false,.bool false] (l.length - k):=⟨_,rfl⟩;have cF:rx ao M' 48 (.sl K 8 (k*8) (l.length - k) (l.length - k))=some ⟨.tup [],[K],[(K,some (.row (bp (l'.flatMap cX) (k*8) zs)))]⟩:=by
     unfold rx;simp only[Tryz.underlying48,mH.2.1,mH.2.2.1,bA,z];have hb:Nat.ble (k*8+(l.length - k)*8) (l'.flatMap cX).length=true:=by rw[ble_eq];omega
     change (match Nat.ble (k*8+(l.length - k)*8) (l'.flatMap cX).length,true with | true,true=>_ | _,_=>none)=_;rw[hb,VY]
    refine ii Kj e0 e1 e5 e6 aL @nN @Nr @Nb Kg QJ (aI @Ht cF) ?_;subst gB;rw[take_length]at hk kB;have RV:zs.length=(l.length - k)*8:=by rw[VY];exact tR _ _
    have gE:k*8+zs.length<=(l'.flatMap cX).length:=af;refine⟨⟨af,.inr ⟨K,0,l.length,_,by rw[hk],⟨k1,af⟩,by unfold vR;rw[aB,if_pos rfl],by rw[ib _ _ _ gE];omega,?_⟩⟩,fun q hq=>by rw[aB,if_neg af];exact ha q hq,af⟩;rw[drop_zero,hk,fa _ _ _ gE,take_append_of_le_length (by rw[length_take];omega),take_take,Nat.min_self,nW (f:=cX) (sz:=8) (fun _=>rfl),kB]
end
end Go.Xs
namespace Go.Xs
open List Nat Option
noncomputable section
open Go.Proofs
def cU (S:HS) (pos:Int):List my:=S.looks.filter fun k=>!(!decide (k.pos=pos))
theorem f41 (ρ:aK) {M:Hp} {nx lo hi h:Nat} {S:HS} (H:bX M lo hi h S) (hh:hi<=nx) (few:S.looks.length<=100000) (pos:Int) :
 ar ao ρ 41 [.mp h 0,.int .i64 pos] M nx fun r=>dN r.2.1 (fun k=>nx<=k/\k<r.2.2) r.1 8 (cU S pos).length ((cU S pos).flatMap cX)/\aq nx M r.2.1/\nx<=r.2.2:=by
 refine ar.wk 9 [.tmp 4] Tryz.func41 ?_;refine bR lK ?_;generalize xu:aG M nx _=M1;have a1:aq nx M M1:=by rw[<-xu];exact O
 have z1:gG M1 nx=some (.row [.int .i64 pos]):=by rw[<-xu];exact J
 clear xu;refine gQ (f76 ρ (H.agr (a1.le hh)) af few) ?_;rintro⟨u,M2,n2⟩ ⟨g1,g2,g3⟩;simp only at g1 g2 g3;have z2:=(g2 nx af).trans z1;refine bR lK ?_;have mo:∀M',oo (nx+3) M2 M'->gG M' nx=some (.row [.int .i64 pos]):=fun M' h=>(h nx af).trans z2
 refine gQ (f75 ρ (lo:=nx+3) (nx:=n2+1) (g1.up (fun _ _ _=>rfl) af) af few (fun k=>!decide (k.pos=pos)) fun e _ M' n' ha hn=>SQ ρ (mo M' ha) af e) ?_;rintro⟨u2,M3,n3⟩ ⟨g4,g5,g6⟩;simp only at g4 g5 g6;refine bR lK ?_;exact⟨g4.keep fun q hq=>⟨rfl,af,af⟩,fun q hq=>(g5 q af).trans ((g2 q af).trans (a1 q hq)),af⟩
end
end Go.Xs
namespace Go.Xs
open List Nat Option
noncomputable section
open Go.Proofs
theorem lU {α β:Type} {f:α->β}:∀{l:List α},(l.map f).Nodup->l.Nodup
 | [],_=>.nil
 | a::l,h=>by
   rw[map_cons,nodup_cons]at h;exact nodup_cons.2 ⟨fun hm=>h.1 (mem_map.2 ⟨a,hm,rfl⟩),lU h.2⟩
theorem o8 {α β:Type} {f:α->β}:∀{l:List α},(l.map f).Nodup->∀{a b:α},a ∈ l->b ∈ l->f a=f b->a=b
 | [],_,a,b,ha,_,_=>by cases ha
 | c::l,hn,a,b,ha,hb,h=>by
   rw[map_cons,nodup_cons]at hn;rcases mem_cons.1 ha with e1 | Jo <;> rcases mem_cons.1 hb with e2 | rA
   ·rw[e1,e2]
   ·exact(hn.1 (by rw[<-e1,h];exact mem_map.2 ⟨b,rA,rfl⟩)).elim
   ·exact(hn.1 (by rw[<-e2,<-h];exact mem_map.2 ⟨a,Jo,rfl⟩)).elim
   ·exact o8 hn.2 Jo rA h
theorem wt:∀{l l':List Nat},l.Nodup->(∀a ∈ l,a ∈ l')->l.length<=l'.length
 | [],_,_,_=>zero_le _
 | a::l,l',h,hs=>by
   rw[nodup_cons]at h;have ha:=hs a mem_cons_self;have ih:=wt (l:=l) (l':=l'.erase a) h.2 fun b hb=>(mem_erase_of_ne fun e=>h.1 (by rw[<-e];exact hb)).2 (hs b (mem_cons_of_mem _ hb))
   rw[length_erase_of_mem ha]at ih;have:=length_pos_of_mem ha;simp only[length_cons];omega
theorem zg {α:Type} {f:α->Nat} {seen:List Nat} {b:Nat}:∀(l:List α),(l.filter fun e=>decide (f e ∉ seen++[b])).length<=(l.filter fun e=>decide (f e ∉ seen)).length
 | []=>Nat.le_refl _
 | a::l=>by
   have ih:=zg (f:=f) (seen:=seen) (b:=b) l;rw[filter_cons,filter_cons];by_cases h:f a ∈ seen
   ·have h':f a ∈ seen++[b]:=mem_append_left _ h
    simp only[h,h',not_true_eq_false,decide_false];simpa using ih
   ·by_cases h':f a ∈ seen++[b]
    ·simp only[h,h',not_true_eq_false,not_false_eq_true,decide_false,decide_true,if_true,length_cons]
     simp only[Bool.false_eq_true,if_false];omega
    ·simp only[h,h',not_false_eq_true,decide_true,if_true,length_cons]
     omega
theorem t_ {α:Type} {f:α->Nat} {seen:List Nat}:∀{l:List α} {e:α},f e ∉ seen->e ∈ l->(l.filter fun a=>decide (f a ∉ seen++[f e])).length<(l.filter fun a=>decide (f a ∉ seen)).length
 | [],e,_,he=>by cases he
 | a::l,e,y7,he=>by
   rw[filter_cons,filter_cons];rcases mem_cons.1 he with rfl | he
   ·have h':f e ∈ seen++[f e]:=aj
    have:=zg (f:=f) (seen:=seen) (b:=f e) l;simp only[y7,h',not_true_eq_false,not_false_eq_true,decide_false,decide_true,if_true,length_cons];simp only[Bool.false_eq_true,if_false];omega
   ·have ih:=t_ (f:=f) y7 he
    by_cases h:f a ∈ seen
    ·have h':f a ∈ seen++[f e]:=mem_append_left _ h
     simp only[h,h',not_true_eq_false,decide_false];simpa using ih
    ·by_cases h':f a ∈ seen++[f e]
     ·simp only[h,h',not_true_eq_false,not_false_eq_true,decide_false,decide_true,if_true,length_cons]
      simp only[Bool.false_eq_true,if_false];omega
     ·simp only[h,h',not_false_eq_true,decide_true,if_true,length_cons]
      omega
theorem f190 (ρ:aK) (j9:ρ.det=false) {M:Hp} {nx box rm c:Nat} {l:List (Nat×Int×Int)} (sQ:gG M box=some (.row [.mm rm])) (RT:gG M rm=some (.map (cx (vI .i64) l) c)) (hb:kD l c) (h1:box<nx) (h2:rm<nx) (few:l.length<=100000) :
 ar ao ρ 190 [.nils,.fn (.func 126) [] [.mp box 0]] M nx fun r=>(∃ys:List Int,ys.Perm (l.map (·.2.1))/\bS r.2.1 nx r.2.2 (fun _=>()) () r.1 1 ys.length (ys.map (XV.int .u64)))/\aq nx M r.2.1/\nx<=r.2.2:=by
 refine ar.walkR (m:=13) (rs:=[.tmp 4]) follows j9 Tryz.func190 U rfl rfl rfl ?_
 conv in qD _ _ _ _ _ _ _=>arg 5;whnf
 refine po ?_;refine fM Ap @iX ?_;refine CY ?_;refine po ?_;refine fM Ap @iX ?_;refine Cm ?_;refine⟨126,[.mp box 0],fun M' nx'=>∃(ys:List Int) (v:XV),ys.Perm (l.map (·.2.1))/\gG M' nx=some (.row [v])/\bS M' (nx+1) nx' (fun _=>()) () v 1 ys.length (ys.map (XV.int .u64))/\aq nx M M'/\nx+4<=nx',?_,?_,?_⟩
 ·rfl
 ·generalize hY:xB ao ρ 13 _ _ _ _=H
  refine OQ.walk follows (m:=14) Tryz.func126 U rfl rfl rfl ?_
  conv in qD _ _ _ _ _ _ _=>arg 5;whnf
  refine po ?_;refine mD Kn @iX @s6 @pP @tf tC.2.2.2.2 sQ RT ?_;refine Cm ?_;refine Hn (fun m s=>∃(es:List (Nat×Int×Int)) (st:Nat) (v:XV),m=(l.filter fun e=>decide (e.1 ∉ es.map (·.1))).length/\(es.map (·.1)).Nodup/\(∀e ∈ es,e ∈ l)/\gG s.env 0=some (.yd (nx+3))/\gG s.env 5=some (.mp (nx+5) 0)/\gG s.M (nx+5)=some (.iter (some rm) c (es.map (·.1)) st)/\c<=st /\
   gG s.M nx=some (.row [v])/\bS s.M (nx+6) s.nx (fun _=>()) () v 1 es.length (es.map fun e=>XV.int .u64 e.2.1)/\aq nx M s.M/\nx+6<=s.nx) _ ⟨[],c,.nils,rfl,?_⟩ ?_
  ·refine dt Kn ?_
   exact⟨aj,aj,rfl,Nat.le_refl _,⟨af,rfl,.inl ⟨rfl,rfl⟩⟩,O,af⟩
  ·rintro m ⟨env,M',nx'⟩ ⟨es,st,v,hm,xo,oy,e0,e5,JV,bw,Vw,Bd,ha,hn⟩
   simp only at e0 e5 JV Vw Bd ha hn;have Z8:=(ha rm h2).trans RT;refine po ?_;refine jz Kn @iX e5 @qv ?_;refine Cf j9 JV Z8 hb.lt bw (Nat.le_refl _) ?_ ?_
   ·intro dy
    have UF:(es.map (·.2.1)).Perm (l.map (·.2.1)):=by
     have:es.Perm l:=(perm_ext_iff_of_nodup (lU xo) (lU hb.nd)).2 fun e=>⟨oy e,fun he=>by
      obtain⟨e',u9,DY⟩:=mem_map.1 (dy e he);have:=o8 hb.nd (oy e' u9) he DY;rw[<-this];exact u9⟩
     exact this.map _
    clear dy;refine fM Kn @iX ?_;refine po ?_;refine jz Kn @Qc @LC @Tk ?_;refine⟨(fun id h=>by cases h),es.map (·.2.1),v,UF,Vw,?_,ha,af⟩;obtain⟨o1,o2,o3⟩:=Bd;refine⟨by simpa using o1,aj,?_⟩;rcases o3 with ⟨q1,q2⟩ | ⟨q0,q,q1,q2,q3,q4,q5⟩
    ·exact .inl ⟨q1,by simpa using q2⟩
    ·exact .inr ⟨by simpa using q0,q,by simpa using q1,af,af,rfl,by rw[q5];simp⟩
   ·intro e he y7
    have Jx:i7 (aG M' (nx+5) (.iter (some rm) c (es.map (·.1)++[e.1]) c)) (.mp (nx+5) 0)=some ⟨.tup [.int .u64 e.2.1,.int .i64 e.2.2],[nx+5,rm],[]⟩:=rj (vf:=vI .i64) (l:=l) J J hb.nd he;refine fM Kn @iX ?_;refine po ?_;refine fM Kn @iX ?_;refine Cm ?_;refine po ?_;refine ul Kn @iX e0 e5 @yA Jx ?_;refine CY ?_;refine Pw (ob [_,_] _ ?_);refine fM Kn e0 ?_;refine FD (args:=[.int .u64 e.2.1]) (by simp only[EU];(refine fM Kn e0 ?_;try exact⟨⟩)) ?_;refine Eq.mp (congrFun (congrFun (congrFun (congrFun hY _) _) _) _) (EA rfl ?_);have ip:es.length<=100000:=by
     have u9:(es.map (·.1)).length<=(l.map (·.1)).length:=wt xo fun b rA=>by
      obtain⟨e',u9,rfl⟩:=mem_map.1 rA;exact mem_map.2 ⟨e',oy e' u9,rfl⟩
     simp only[length_map]at u9;omega
    have Uy:((es++[e]).map (·.1)).Nodup:=by
     rw[map_append,nodup_append];refine⟨xo,aj,fun a Jo b rA=>?_⟩;simp only[map_cons,map_nil,mem_singleton]at rA;subst rA;exact fun e1=>y7 (by rw[<-e1];exact Jo)
    have Of:∀a ∈ es++[e],a ∈ l:=fun a Jo=>by
     rcases mem_append.1 Jo with h | h
     ·exact oy a h
     ·rw[mem_singleton]at h;subst h;exact he
    have F3:(l.filter fun a=>decide (a.1 ∉ (es++[e]).map (·.1))).length<m:=by
     rw[hm,map_append];exact t_ y7 he
    have yQ:(es++[e]).map (·.1)=es.map (·.1)++[e.1]:=aj;have hq:∀q,nx'+8<=q->gG (aG M' (nx+5) (.iter (some rm) c (es.map (·.1)++[e.1]) c)) q=gG M' q:=fun q hq=>by rw[aB,if_neg af]
    obtain⟨o1,o2,⟨rfl,o3⟩ | ⟨o3,K,rfl,K1,K2,_,K4⟩⟩:=Bd
    ·have QG:es=[]:=length_eq_zero_iff.1 o3
     clear xo oy y7 hm o1 o2 yQ hq;refine fM Ap Vw ?_;refine⟨_,rfl,ob [_] _ ?_⟩;refine fM Kn @iX ?_;refine Iy ?_;refine jz Kn @iX @Df @Nf ?_;refine⟨_,F3,es++[e],c,_,rfl,Uy,Of,e0,e5,by rw[map_append];rfl,Nat.le_refl _,rfl,⟨by simp[QG],aj,.inr ⟨aj,nx'+11,by simp[QG],af,af,rfl,?_⟩⟩,fun q hq=>?_,af⟩
     ·rw[QG]
      exact J
     ·have:=ha q hq
      exact J
    ·have kB:List.take es.length (es.map fun e=>XV.int .u64 e.2.1)=es.map fun e=>XV.int .u64 e.2.1:=take_of_length_le aj
     have K5:aw (nx+5) K=False/\aw K (nx+5)=False/\aw nx K=False/\aw K nx=False:=by simp only[aw,eq_iff_iff,iff_false];omega
     clear xo oy y7 hm o2 yQ hq;refine lO Ap Vw K4 kB K5 ?_;refine⟨_,rfl,ob [_] _ ?_⟩;refine fM Kn @iX ?_;refine Iy ?_;refine lO Kn @iX @Df @Nf K5 ?_;refine⟨_,F3,es++[e],c,_,rfl,Uy,Of,e0,e5,by rw[map_append];rfl,Nat.le_refl _,rfl,⟨by simp only[length_append,length_cons,length_nil];omega,aj,.inr ⟨aj,nx'+11,aj,af,af,rfl,?_⟩⟩,fun q hq=>?_,af⟩
     ·rw[map_append]
      exact J
     ·have:=ha q hq
      exact J
 ·rintro M' nx' ⟨ys,v,y1,y2,y3,y4,y5⟩
  show qD _ _ _ _ _ _ _;refine Iy ?_;refine fM Ap y2 ?_;refine⟨⟨ys,y1,?_⟩,y4,af⟩;obtain⟨o1,o2,o3 | ⟨o3,K,q1,K1,K2,K3,K4⟩⟩:=y3
  ·exact⟨o1,o2,.inl o3⟩
  ·exact⟨o1,o2,.inr ⟨o3,K,q1,af,af,K3,K4⟩⟩
end
end Go.Xs
namespace Go.Xs
open List Nat Option
variable{M:Hp}{b hi lo m nx:Nat}{cs:List XV}{l:List aR}{r:aR}
open Go.Proofs
theorem SD (ρ:aK) (h:cZ M lo hi m l) (hh:hi<=nx) (x w n:Int):ar ao ρ 250 [.mp m 0,.int .u64 x,.agg [.int .u64 w,.int .u64 n]] M nx (fe nx M (.bool (lV l x w n))):=by
 refine ar.wk 20 [.tmp 6] Tryz.func250 ?_;refine dt Ed ?_;have a1:=fun o=>(aq.refl nx M).set (Nat.le_refl nx) o
 refine lG (TU ρ _ _ w n) fun M2 n2 g2 g3=>?_
 have a2:=(a1 _).trans (g2.le af);have y:=g2 nx af;rw[aB,if_pos rfl]at y;cases hu:(decide (w=0)&&decide (n=0)) with
 | true =>
   refine gk Ed hu @fe.eq_1 ?_;exact⟨by simp only[lV,hu,Bool.true_or],a2,af⟩
 | false =>
   refine gk Ed hu y ?_;refine lG (Qe ρ (h.agr (a2.le hh) (Nat.le_refl _)) af x w n) fun M3 n3 k2 k3=>?_
   have a3:=a2.trans (k2.le af);cases hm:rV l x w n with
   | none =>
     refine jz Ed @wy.eq_1 @wy.eq_2 @fe.eq_1 ?_;exact⟨by simp only[lV,hu,hm];rfl,((a3.set af _).set af _),af⟩
   | some d =>
     refine lO Ed @wy.eq_1 @wy.eq_2 @et.eq_1 @fe.eq_1 ?_;exact⟨by simp only[lV,hu,hm];rfl,((a3.set af _).set af _),af⟩
def Fg (t:Int) (k:Nat):XV:=match k with | 0=>.tup [.agg [.int .u64 0,.int .u64 0],.bool false] | k+1=>.tup [.agg [.int .u64 t,.int .u64 ((k+1:Nat):Int)],.bool true]
theorem ST (ρ:aK) (h:cZ M lo hi m l) (hh:hi<=nx) (t x:Int):ar ao ρ 251 [.mp m 0,.int .u64 t,.int .u64 x] M nx (fe nx M (Fg t (bd l t x).length)):=by
 obtain⟨v,cw,bA⟩:=Xf ρ h hh t x;have ay:=fun N=>cw.len (P:=ao) (t:=356) qW.2.2.2.2.2 N
 have hz:=cw.1;have a1:=fun o=>(aq.refl nx M).set (Nat.le_refl nx) o
 refine ar.wk 26 [.cell 6 33,.tmp 7] Tryz.func251 ?_;refine dt EN ?_;refine gQ (bA _ _ (a1 _) af) ?_;rintro⟨u,M2,n2⟩ ⟨g1,g2,g3⟩;simp only at g1 g2 g3;subst g1;have a2:=(a1 _).trans (g2.le af);have y:=g2 nx af;rw[aB,if_pos rfl]at y;have hw:IntKind.u64.wrap ((bd l t x).length:Int)=(bd l t x).length:=wrap_u64 af af;by_cases c0:((bd l t x).length:Int)=0
 ·refine lO EN y ay c0 @fe.eq_1 ?_
  exact⟨by rw[show (bd l t x).length=0 by omega];rfl,a2.set af _,af⟩
 ·refine ul EN y ay c0 hw @fe.eq_1 ?_
  refine⟨?_,a2.set af _,af⟩;obtain⟨k,hk⟩:∃k,(bd l t x).length=k+1:=⟨(bd l t x).length - 1,af⟩;rw[hk];rfl
theorem f170 (ρ:aK) (hr:c_ M b r cs) (h:cZ M lo hi m l) (hh:hi<=nx):ar ao ρ 170 [.mp m 0,.agg cs] M nx (fe nx M (.bool (CT l r))):=by
 obtain⟨pk,pa,pb,pv,ve,rfl,⟨p1,p2⟩,⟨q1,q2⟩,_,_⟩:=hr.cells;have a1:=fun o=>(aq.refl nx M).set (Nat.le_refl nx) o
 refine ar.wk 16 [.tmp 4] Tryz.func170 ?_;by_cases c0:r.kind=2
 ·refine ul oU p1 p2 q1 q2 c0 ?_
  refine lG (SD ρ (h.agr ((a1 _).le hh) (Nat.le_refl _)) af r.x r.w r.n) fun M2 n2 g2 g3=>?_
  refine fM oU @fe.eq_1 ?_;exact⟨by simp[CT,c0],(a1 _).trans (g2.le af),af⟩
 ·refine ky oU p1 p2 q1 q2 c0 @fe.eq_1 ?_
  exact⟨by simp[CT,c0],a1 _,af⟩
theorem f171 (ρ:aK) (hr:c_ M b r cs) (h:cZ M lo hi m l) (hh:hi<=nx):ar ao ρ 171 [.mp m 0,.agg cs] M nx (fe nx M (.bool (FB l r))):=by
 obtain⟨pk,pa,pb,pv,ve,rfl,⟨p1,p2⟩,⟨q1,q2⟩,_,_⟩:=hr.cells;have a1:=fun o=>(aq.refl nx M).set (Nat.le_refl nx) o
 refine ar.wk 29 [.tmp 4] Tryz.func171 ?_;refine lO Sn p1 p2 q1 q2 ?_;refine lG (ST ρ (h.agr ((a1 _).le hh) (Nat.le_refl _)) af r.t r.x) fun M2 n2 g2 g3=>?_
 have a2:=(a1 _).trans (g2.le af);have y:=g2 nx af;rw[aB,if_pos rfl]at y;cases hk:(bd l r.t r.x).length with
 | zero =>
   by_cases c0:r.kind=2
   ·refine ul Sn y @Fg.eq_1 @Fg.eq_2 c0 @fe.eq_1 ?_
    exact⟨by simp[FB,hk],(by(repeat (refine aq.set ?_ af _));exact a2),af⟩
   ·refine ul Sn y @Fg.eq_1 @Fg.eq_2 c0 @fe.eq_1 ?_
    exact⟨by simp[FB,hk],(by(repeat (refine aq.set ?_ af _));exact a2),af⟩
 | succ k =>
   by_cases c0:r.kind=2
   ·refine ul Sn y @Fg.eq_1 @Fg.eq_2 c0 @fe.eq_1 ?_
    exact⟨by simp[FB,hk,c0],(by(repeat (refine aq.set ?_ af _));exact a2),af⟩
   ·refine ul Sn y @Fg.eq_1 @Fg.eq_2 c0 @fe.eq_1 ?_
    exact⟨by simp[FB,hk,c0],(by(repeat (refine aq.set ?_ af _));exact a2),af⟩
end Go.Xs
namespace Go.Xs
open List Nat Option
variable{M:Hp}{b:Nat}
open Go.Proofs
mutual
def iW:Ex->Ex->Bool
 | .mk k a c ps,.mk k' a' c' ps'=>decide (k=k')&&(decide (a=a')&&(decide (c=c')&&fy ps ps'))
def fy:List Ex->List Ex->Bool
 | [],[]=>true
 | e::es,e'::es'=>iW e e'&&fy es es'
 | _,_=>false
end
theorem rQ:∀{l l':List Ex},fy l l'=true->l.length=l'.length
 | [],[],_=>rfl
 | [],_::_,h=>by simp[fy]at h
 | _::_,[],h=>by simp[fy]at h
 | a::l,c::l',h=>by simp only[fy,Bool.and_eq_true]at h;simp[rQ h.2]
theorem xN {l l':List Ex} {i:Nat} {a c:Ex} (h:l[i]?=some a) (h':l'[i]?=some c):fy (l.drop i) (l'.drop i)=(iW a c&&fy (l.drop (i+1)) (l'.drop (i+1))):=by
 obtain⟨h1,rfl⟩:=List.getElem?_eq_some_iff.1 h;obtain⟨h2,rfl⟩:=List.getElem?_eq_some_iff.1 h';rw[drop_eq_getElem_cons h1,drop_eq_getElem_cons h2];rfl
theorem bG.cells {e:Ex} {cs:List XV} (h:bG M b e cs):∃a1 a2 a3 a4,cs=[.int .i64 a1,.int .u64 a2,.int .u64 a3,a4]/\cellsOf a4=[a4]/\ax a4=true:=by
 obtain⟨k',x',y',ps'⟩:=e;simp only[bG]at h;obtain⟨v',row',rfl,ox,_⟩:=h;exact⟨_,_,_,_,rfl,ox.cell⟩
theorem f379 (ρ:aK) {l l':List Ex} {nx:Nat} {v v':XV} {row row':List XV} (h:bE M b v 4 l.length row) (hp:cj M b l row) (h':bE M b v' 4 l'.length row') (uV:cj M b l' row') (hb:b<=nx)
 (hq:∀e ∈ l,∀e' (M':Hp) (nx':Nat) (cs cs':List XV),nx<=nx'->bG M' b e cs->bG M' b e' cs'->ar ao ρ 356 [.agg cs,.agg cs'] M' nx' (fe nx' M' (.bool (iW e e')))) :
 ar ao ρ 379 [v,v',.fn (.func 356) [] []] M nx (fe nx M (.bool (fy l l'))):=by
 have ay:=fun N=>h.len (P:=ao) (t:=42) ff.2.2.2.2.2 N
 have A_:=fun N=>h'.len (P:=ao) (t:=42) ff.2.2.2.2.2 N
 have hz:=h.1;refine ar.wk 32 [.tmp 6] Tryz.func379 ?_;by_cases hl:(l.length:Int)=l'.length
 ·refine jz EZ ay A_ hl ?_
  refine aC (fun m s=>∃i:Nat,i<=l.length/\m=l.length - i/\fy (l.drop i) (l'.drop i)=fy l l'/\gG s.env 1=some v'/\gG s.env 2=some (.fn (.func 356) [] [])/\gG s.env 15=some v/\gG s.env 16=some (.int .i64 l'.length)/\gG s.env 17=some (.int .i64 i)/\aq nx M s.M/\nx<=s.nx)
   l.length ⟨0,af,af,aj,?_⟩ ?_
  ·refine dt EZ ?_
   exact⟨aq.refl _ _,af⟩
  ·rintro m ⟨env,M',nx'⟩ ⟨i,hi,hm,pA,e1,e2,gW,pE,CB,ha,hn⟩
   simp only at e1 e2 gW pE CB ha hn;by_cases aL:(i:Int)<l'.length
   ·have aP:i<l.length:=af
    have F1:i<l'.length:=af;obtain⟨a,Mt⟩:∃e,l[i]?=some e:=⟨l[i],by simp[aP]⟩;obtain⟨c,Gk⟩:∃e,l'[i]?=some e:=⟨l'[i],by simp[F1]⟩;obtain⟨n,o,jw,bC,aU⟩:=h.elem (P:=ao) aP (t:=42) (t':=44) ff.2.2.2.1 fu.1;obtain⟨n2,o2,Ux,iN,dJ⟩:=h'.elem (P:=ao) F1 (t:=42) (t':=44) ff.2.2.2.1 fu.1;have yK:=(hp.get Mt).agr (ha.le hb);have QI:=(uV.get Gk).agr (ha.le hb);generalize (row.drop (i*4)).take 4=r1 at aU yK;generalize (row'.drop (i*4)).take 4=r2 at dJ QI;have MC:∀N,aq nx M' N->b_ ao N 44 (.mp n o)=some ⟨.agg r1,[n],[]⟩:=fun N hN=>aU N ((ha.trans hN).le hb)
    have Uu:∀N,aq nx M' N->b_ ao N 44 (.mp n2 o2)=some ⟨.agg r2,[n2],[]⟩:=fun N hN=>dJ N ((ha.trans hN).le hb)
    obtain⟨a1,a2,a3,a4,rfl,p1,p2⟩:=yK.cells;obtain⟨c1,c2,c3,c4,rfl,q1,q2⟩:=QI.cells;have g1:=MC M' (aq.refl _ _);have g2:=fun o1 o2'=>Uu (aG (aG M' (nx'+4) o1) (nx'+4) o2') (((aq.refl _ _).set af _).set af _)
    have bV:=eF i;have bw:=xN Mt Gk;clear aU dJ MC Uu;refine zQ EZ e1 e2 gW pE CB aL bC iN g1 g2 ?_;generalize aW:aG (aG (aG (aG M' _ _) _ _) _ _) _ _=M2;have ag:aq nx' M' M2:=by rw[<-aW];exact((((aq.refl _ _).set af _).set af _).set af _).set af _
    clear aW g1 g2;refine gQ (hq a (mem_of_getElem? Mt) c M2 _ _ _ af (yK.agr (ag.le af)) (QI.agr (ag.le af))) ?_;rintro⟨u,M3,n3⟩ ⟨g1,g2,g3⟩;simp only at g1 g2 g3;subst g1;have a3':aq nx M M3:=ha.trans ((ag.le af).trans (g2.le af));clear g2 ag hq;cases hs:iW a c with
    | false =>
      refine mD EZ e1 e2 gW pE CB hs @fe.eq_1 ?_;exact⟨by rw[<-pA,bw,hs];rfl,a3',af⟩
    | true =>
      refine mD EZ e1 e2 gW pE CB hs bV ?_;exact⟨l.length - (i+1),af,i+1,af,rfl,by rw[<-pA,bw,hs];rfl,rfl,a3',af⟩
   ·have hd:l.drop i=[]:=drop_eq_nil_of_le af
    have py:l'.drop i=[]:=drop_eq_nil_of_le af;refine mD EZ e1 e2 gW pE CB aL @fe.eq_1 ?_;exact⟨by rw[<-pA,hd,py];rfl,ha,af⟩
 ·refine lO EZ ay A_ hl @fe.eq_1 ?_
  refine⟨?_,aq.refl _ _,af⟩;congr 1;cases hq:fy l l' with
  | false=>rfl
  | true=>have:=rQ hq;omega
theorem f356 (ρ:aK):∀(sz:Nat) (e e':Ex) (M:Hp) (nx b:Nat) (cs cs':List XV),dV e<sz->bG M b e cs->bG M b e' cs'->b<=nx->ar ao ρ 356 [.agg cs,.agg cs'] M nx (fe nx M (.bool (iW e e'))):=by
 intro sz
 induction sz with
 | zero=>intro e e' M nx b cs cs' h;omega
 | succ sz ih =>
 intro e e' M nx b cs cs' cJ he D1 hb;obtain⟨k,x,y,ps⟩:=e;obtain⟨k',x',y',ps'⟩:=e';simp only[bG]at he D1;obtain⟨v,row,rfl,cw,jd⟩:=he;obtain⟨v',row',rfl,ox,JH⟩:=D1;have hv:=cw.cell;have oP:=ox.cell;have go:∀(M1:Hp) (n1:Nat),nx<=n1->aq nx M M1->ar ao ρ 379 [v,v',.fn (.func 356) [] []] M1 n1 (fe n1 M1 (.bool (fy ps ps'))):=fun M1 n1 hn hA =>
  f379 ρ (nx:=n1) (cw.agr (hA.le hb)) (jd.agr (hA.le hb)) (ox.agr (hA.le hb)) (JH.agr (hA.le hb)) af fun e hm e' M' nx' cs cs' yZ h1 h2=>ih e e' M' nx' b cs cs' (by
   have:=fb hm;simp only[dV]at cJ;omega) h1 h2 af
 clear ih cJ;refine ar.wk 31 [.tmp 4] Tryz.func356 ?_;by_cases c1:k=k'
 ·by_cases c2:x=x'
  ·by_cases c3:y=y'
   ·refine mD fT hv.1 hv.2 oP.1 oP.2 c1 c2 c3 ?_
    refine gQ (go _ _ af (((aq.refl _ _).set af _).set af _)) ?_;rintro⟨u,M3,n3⟩ ⟨g1,g2,g3⟩;simp only at g1 g2 g3;subst g1;refine fM fT @fe.eq_1 ?_;exact⟨by simp[iW,c1,c2,c3],(((aq.refl _ _).set af _).set af _).trans (g2.le af),af⟩
   ·refine wT fT hv.1 hv.2 oP.1 oP.2 c1 c2 c3 @fe.eq_1 ?_
    exact⟨by simp[iW,c3],((aq.refl _ _).set af _).set af _,af⟩
  ·refine mD fT hv.1 hv.2 oP.1 oP.2 c1 c2 @fe.eq_1 ?_
   exact⟨by simp[iW,c2],((aq.refl _ _).set af _).set af _,af⟩
 ·refine ky fT hv.1 hv.2 oP.1 oP.2 c1 @fe.eq_1 ?_
  exact⟨by simp[iW,c1],((aq.refl _ _).set af _).set af _,af⟩
end Go.Xs
namespace Go.Xs
open List Nat Option
open Go.Proofs
def oL (k t x w n v pk pa pb:Int) (pv ve:XV) (kind:Int):List XV :=
 if kind=2 then [.int .i64 0,.int .u64 0,.int .u64 x,.int .u64 w,.int .u64 n,.int .u64 0,.int .i64 0,.int .u64 0,.int .u64 0,.nils,.nils] else
 if kind=3 then [.int .i64 0,.int .u64 0,.int .u64 x,.int .u64 0,.int .u64 0,.int .u64 v,.int .i64 0,.int .u64 0,.int .u64 0,.nils,.nils] else
 if kind=4 then [.int .i64 0,.int .u64 0,.int .u64 x,.int .u64 0,.int .u64 0,.int .u64 0,.int .i64 0,.int .u64 0,.int .u64 0,.nils,.nils] else
 if kind=5 then [.int .i64 0,.int .u64 0,.int .u64 0,.int .u64 0,.int .u64 0,.int .u64 0,.int .i64 pk,.int .u64 pa,.int .u64 pb,pv,ve] else
 [.int .i64 0,.int .u64 0,.int .u64 0,.int .u64 0,.int .u64 0,.int .u64 0,.int .i64 0,.int .u64 0,.int .u64 0,.nils,.nils]
section
variable (ρ:aK) {M:Hp} {nx:Nat} (k t x w n v pk pa pb:Int) (pv ve:XV) (hp:cellsOf pv=[pv]/\ax pv=true) (he:cellsOf ve=[ve]/\ax ve=true)
include hp he
theorem Yk:ar ao ρ 146 [.agg [.int .i64 k,.int .u64 t,.int .u64 x,.int .u64 w,.int .u64 n,.int .u64 v,.int .i64 pk,.int .u64 pa,.int .u64 pb,pv,ve]] M nx (fe nx M (.agg (oL k t x w n v pk pa pb pv ve 1))):=by
 refine ar.wk 4 [.cell 2 47] Tryz.func146 ?_;refine ul oU hp.1 hp.2 he.1 he.2 @fe.eq_1 ?_;exact⟨by simp[oL],(((aq.refl _ _).set af _).set af _).set af _,af⟩
theorem Xd:ar ao ρ 208 [.agg [.int .i64 k,.int .u64 t,.int .u64 x,.int .u64 w,.int .u64 n,.int .u64 v,.int .i64 pk,.int .u64 pa,.int .u64 pb,pv,ve]] M nx (fe nx M (.agg (oL k t x w n v pk pa pb pv ve 2))):=by
 refine ar.wk 8 [.cell 2 47] Tryz.func208 ?_;refine ul oU hp.1 hp.2 he.1 he.2 @fe.eq_1 ?_;exact⟨by simp[oL],(((aq.refl _ _).set af _).set af _).set af _,af⟩
theorem f217:ar ao ρ 217 [.agg [.int .i64 k,.int .u64 t,.int .u64 x,.int .u64 w,.int .u64 n,.int .u64 v,.int .i64 pk,.int .u64 pa,.int .u64 pb,pv,ve]] M nx (fe nx M (.agg (oL k t x w n v pk pa pb pv ve 3))):=by
 refine ar.wk 8 [.cell 2 47] Tryz.func217 ?_;refine ul oU hp.1 hp.2 he.1 he.2 @fe.eq_1 ?_;exact⟨by simp[oL],(((aq.refl _ _).set af _).set af _).set af _,af⟩
theorem f222:ar ao ρ 222 [.agg [.int .i64 k,.int .u64 t,.int .u64 x,.int .u64 w,.int .u64 n,.int .u64 v,.int .i64 pk,.int .u64 pa,.int .u64 pb,pv,ve]] M nx (fe nx M (.agg (oL k t x w n v pk pa pb pv ve 4))):=by
 refine ar.wk 6 [.cell 2 47] Tryz.func222 ?_;refine ul oU hp.1 hp.2 he.1 he.2 @fe.eq_1 ?_;exact⟨by simp[oL],(((aq.refl _ _).set af _).set af _).set af _,af⟩
theorem f227:ar ao ρ 227 [.agg [.int .i64 k,.int .u64 t,.int .u64 x,.int .u64 w,.int .u64 n,.int .u64 v,.int .i64 pk,.int .u64 pa,.int .u64 pb,pv,ve]] M nx (fe nx M (.agg (oL k t x w n v pk pa pb pv ve 5))):=by
 have p2:=hp.2;have q2:=he.2;have h1:(cellsOf ve).length=1:=by rw[he.1];rfl
 have h2:(cellsOf ve).all ax=true:=by rw[he.1];simp[he.2]
 refine ar.wk 8 [.cell 2 47] Tryz.func227 ?_;refine ul oU hp.1 hp.2 he.1 he.2 @fe.eq_1 ?_;exact⟨by simp[oL],(((aq.refl _ _).set af _).set af _).set af _,af⟩
end
def nJ (s:List Nat) (kind:Int):List XV :=
 if kind=2 then [.str s,.fn (.func 208) [] [],.fn (.func 209) [] [],.fn (.func 211) [] [],.fn (.func 214) [] [],.fn (.func 215) [] []] else
 if kind=3 then [.str s,.fn (.func 217) [] [],.fn (.func 218) [] [],.fn (.func 219) [] [],.fn (.func 220) [] [],.fn (.func 221) [] []] else
 if kind=4 then [.str s,.fn (.func 222) [] [],.fn (.func 223) [] [],.fn (.func 224) [] [],.fn (.func 225) [] [],.fn (.func 226) [] []] else
 if kind=5 then [.str s,.fn (.func 227) [] [],.fn (.func 228) [] [],.fn (.func 233) [] [],.fn (.func 236) [] [],.fn (.func 238) [] []] else
 [.str s,.fn (.func 146) [] [],.fn (.func 147) [] [],.fn (.func 148) [] [],.fn (.func 149) [] [],.fn (.func 150) [] []]
section
variable (ρ:aK) (M:Hp) (nx:Nat)
theorem WL (s s0:List Nat) (tb:Nat) (hb:tb<nx) (hM:gG M tb=some (.row (nJ s0 1))):ar ao ρ 151 [.str s,.mp tb 0] M nx (fe nx M (.agg (nJ s 1))):=by
 refine ar.wk 9 [.cell 3 206] Tryz.func151 ?_;refine jz Wq hM @nJ.eq_1 @fe.eq_1 ?_;exact⟨(((((aq.refl _ _).set af _).set af _).set af _).set af _).set af _,af⟩
theorem SZ:ar ao ρ 152 [] M nx fun r=>∃s,fe nx M (.agg (nJ s 2)) r:=by
 refine ar.wk 2 [.cell 0 206] Tryz.func152 ?_;refine gk Wq @nJ.eq_1 @fe.eq_1 ?_;exact⟨_,rfl,((aq.refl _ _).set af _).set af _,af⟩
theorem f153:ar ao ρ 153 [] M nx fun r=>∃s,fe nx M (.agg (nJ s 3)) r:=by
 refine ar.wk 2 [.cell 0 206] Tryz.func153 ?_;refine gk Wq @nJ.eq_1 @fe.eq_1 ?_;exact⟨_,rfl,((aq.refl _ _).set af _).set af _,af⟩
theorem f154:ar ao ρ 154 [] M nx fun r=>∃s,fe nx M (.agg (nJ s 4)) r:=by
 refine ar.wk 2 [.cell 0 206] Tryz.func154 ?_;refine gk Wq @nJ.eq_1 @fe.eq_1 ?_;exact⟨_,rfl,((aq.refl _ _).set af _).set af _,af⟩
theorem f155:ar ao ρ 155 [] M nx fun r=>∃s,fe nx M (.agg (nJ s 5)) r:=by
 refine ar.wk 2 [.cell 0 206] Tryz.func155 ?_;refine gk Wq @nJ.eq_1 @fe.eq_1 ?_;exact⟨_,rfl,((aq.refl _ _).set af _).set af _,af⟩
end
def knT (ws:Nat->List Nat) (z:List Nat):List XV:=[.str z,.nilf,.nilf,.nilf,.nilf,.nilf]++nJ (ws 1) 1++nJ (ws 2) 2++nJ (ws 3) 3++nJ (ws 4) 4++nJ (ws 5) 5++nJ (ws 6) 6++nJ (ws 7) 7
theorem PZ (s:List Nat):nJ s 1=[.str s,.fn (.func 146) [] [],.fn (.func 147) [] [],.fn (.func 148) [] [],.fn (.func 149) [] [],.fn (.func 150) [] []]:=rfl
theorem Pq (s:List Nat):nJ s 2=[.str s,.fn (.func 208) [] [],.fn (.func 209) [] [],.fn (.func 211) [] [],.fn (.func 214) [] [],.fn (.func 215) [] []]:=rfl
theorem Ot (s:List Nat):nJ s 3=[.str s,.fn (.func 217) [] [],.fn (.func 218) [] [],.fn (.func 219) [] [],.fn (.func 220) [] [],.fn (.func 221) [] []]:=rfl
theorem Ox (s:List Nat):nJ s 4=[.str s,.fn (.func 222) [] [],.fn (.func 223) [] [],.fn (.func 224) [] [],.fn (.func 225) [] [],.fn (.func 226) [] []]:=rfl
theorem OK (s:List Nat):nJ s 5=[.str s,.fn (.func 227) [] [],.fn (.func 228) [] [],.fn (.func 233) [] [],.fn (.func 236) [] [],.fn (.func 238) [] []]:=rfl
def kz:List XV:=[.str [],.nilf,.nilf,.nilf,.nilf,.nilf]
theorem XR (ρ:aK) (M:Hp) (nx:Nat):ar ao ρ 104 [] M nx fun r=>∃ws z,fe nx M (.agg (knT ws z)) r:=by
 refine ar.wk 16 [.cell 0 207] Tryz.func104 ?_;refine dt gu ?_;generalize rz:aG (aG (aG M _ _) _ _) _ _=M0;obtain⟨zs,VY⟩:∃zs,zs=kz++kz++kz++kz++kz++kz++kz++kz:=⟨_,rfl⟩;have a0:aq nx M M0:=by rw[<-rz];exact(((aq.refl _ _).set af _).set af _).set af _
 have t0:gG M0 (nx+2)=some (.row (nJ [] 1)):=by rw[<-rz,aB,if_pos rfl];rfl
 have z0:gG M0 nx=some (.row zs):=by rw[<-rz,aB,if_neg af,aB,if_neg af,aB,if_pos rfl,VY];rfl
 clear rz;refine lG (WL ρ _ _ _ [] (nx+2) af t0) fun M1 n1 g2 g3=>?_
 have a1:aq nx M M1:=a0.trans (g2.le af);have t1:gG M1 (nx+2)=some (.row (nJ [] 1)):=by rw[g2 _ af,t0]
 have z1:gG M1 nx=some (.row zs):=by rw[g2 _ af,z0]
 clear g2 a0 t0 z0;refine dt gu ?_;refine gQ (SZ ρ _ _) ?_;rintro⟨v,M2,n2⟩ ⟨s2,g1,g2,g3⟩;simp only at g1 g2 g3;subst g1;have a2:aq nx M M2:=a1.trans (g2.le af);have t2:gG M2 (nx+2)=some (.row (nJ [] 1)):=by rw[g2 _ af,t1]
 have z2:gG M2 nx=some (.row zs):=by rw[g2 _ af,z1]
 clear g2 a1 t1 z1;refine dt gu ?_;refine gQ (f153 ρ _ _) ?_;rintro⟨v,M3,n3⟩ ⟨s3,g1,g2,g3⟩;simp only at g1 g2 g3;subst g1;have a3:aq nx M M3:=a2.trans (g2.le af);have t3:gG M3 (nx+2)=some (.row (nJ [] 1)):=by rw[g2 _ af,t2]
 have z3:gG M3 nx=some (.row zs):=by rw[g2 _ af,z2]
 clear g2 a2 t2 z2;refine dt gu ?_;refine gQ (f154 ρ _ _) ?_;rintro⟨v,M4,n4⟩ ⟨s4,g1,g2,g3⟩;simp only at g1 g2 g3;subst g1;have a4:aq nx M M4:=a3.trans (g2.le af);have t4:gG M4 (nx+2)=some (.row (nJ [] 1)):=by rw[g2 _ af,t3]
 have z4:gG M4 nx=some (.row zs):=by rw[g2 _ af,z3]
 clear g2 a3 t3 z3;refine dt gu ?_;refine gQ (f155 ρ _ _) ?_;rintro⟨v,M5,n5⟩ ⟨s5,g1,g2,g3⟩;simp only at g1 g2 g3;subst g1;have a5:aq nx M M5:=a4.trans (g2.le af);have t5:gG M5 (nx+2)=some (.row (nJ [] 1)):=by rw[g2 _ af,t4]
 have z5:gG M5 nx=some (.row zs):=by rw[g2 _ af,z4]
 clear g2 a4 t4 z4;refine dt gu ?_;refine lG (WL ρ _ _ _ [] (nx+2) af t5) fun M6 n6 g2 g3=>?_
 have a6:aq nx M M6:=a5.trans (g2.le af);have t6:gG M6 (nx+2)=some (.row (nJ [] 1)):=by rw[g2 _ af,t5]
 have z6:gG M6 nx=some (.row zs):=by rw[g2 _ af,z5]
 clear g2 a5 t5 z5;refine dt gu ?_;refine lG (WL ρ _ _ _ [] (nx+2) af t6) fun M7 n7 g2 g3=>?_
 have a7:aq nx M M7:=a6.trans (g2.le af);have t7:gG M7 (nx+2)=some (.row (nJ [] 1)):=by rw[g2 _ af,t6]
 have z7:gG M7 nx=some (.row zs):=by rw[g2 _ af,z6]
 clear g2 a6 t6 z6;subst VY;refine mD gu z7 @kz.eq_1 @PZ @Pq @Ot @Ox @OK ?_;refine⟨fun q=>if q=1 then [98,101,103,105,110] else if q=2 then s2 else if q=3 then s3 else if q=4 then s4 else if q=5 then s5 else if q=6 then [99,111,109,109,105,116] else [97,98,111,114,116],[],rfl,a7.set af _,an⟩
end Go.Xs
namespace Go.Xs
open List Nat Option
variable{M:Hp}{b hi i k lo m mn nx:Nat}{cs rs:List XV}{l:List aR}{ps:List (Int×Int)}{r:aR}{tag:Nat->Tg}{vend vnames vnum vrows:XV}
open Go.Proofs
theorem WU (ρ:aK) (M:Hp) (nx:Nat) (k:Int) (h0:1<=k) (h1:k<=7):ar ao ρ 317 [.int .i64 k] M nx fun r=>∃s,fe nx M (.tup [.agg (nJ s k),.bool true]) r:=by
 refine ar.wk 14 [.cell 2 206,.tmp 3] Tryz.func317 ?_;have c1:¬ k<1:=af;have c2:¬ 7<k:=af;refine gk k_ c1 c2 ?_;refine gQ (XR ρ _ _) ?_;rintro⟨v,M',nx'⟩ ⟨ws,z,g1,g2,g3⟩;simp only at g1 g2 g3;subst g1;obtain⟨j,rfl,j1,j2⟩:∃j:Nat,k=j/\1<=j/\j<=7:=⟨k.toNat,af,af,af⟩;have UA:Ru (some (6,true)) ((knT ws z).drop ((j:Int).toNat*6))=some (.agg (nJ (ws j) j)):=by
  have:j=1\/j=2\/j=3\/j=4\/j=5\/j=6\/j=7:=af;rcases this with rfl | rfl | rfl | rfl | rfl | rfl | rfl<;>rfl
 have hM:gG M' nx=some (.row [.str [],.nilf,.nilf,.nilf,.nilf,.nilf]):=by rw[g2 nx af,aB,if_pos rfl]
 have ha:aq nx M M':=((aq.refl nx M).set (Nat.le_refl _) _).trans (g2.le af);clear g2;generalize hs:ws j=s at UA;have e1:∃a b c d e,nJ s j=[.str s,.fn (.func a) [] [],.fn (.func b) [] [],.fn (.func c) [] [],.fn (.func d) [] [],.fn (.func e) [] []]:=by
  have:j=1\/j=2\/j=3\/j=4\/j=5\/j=6\/j=7:=af;rcases this with rfl | rfl | rfl | rfl | rfl | rfl | rfl<;>exact⟨_,_,_,_,_,rfl⟩
 obtain⟨a,b,c,d,e,e1⟩:=e1;rw[e1]at UA;refine gk k_ UA hM ?_;exact⟨s,by rw[e1],ha.set af _,an⟩
theorem Xo (ρ:aK) (M:Hp) (nx:Nat) (k:Int) (h:¬ (1<=k/\k<=7)):ar ao ρ 317 [.int .i64 k] M nx (fe nx M (.tup [.agg [.str [],.nilf,.nilf,.nilf,.nilf,.nilf],.bool false])):=by
 refine ar.wk 14 [.cell 2 206,.tmp 3] Tryz.func317 ?_;by_cases c1:k<1
 ·refine gk k_ c1 @fe.eq_1 ?_
  exact⟨((aq.refl _ _).set af _).set af _,af⟩
 ·have c2:7<k:=af
  refine jz k_ c1 c2 @fe.eq_1 ?_;exact⟨((aq.refl _ _).set af _).set af _,af⟩
def gR (r s:aR):Bool :=
 decide (r.kind=s.kind)&&(decide (r.t=s.t)&&(decide (r.x=s.x)&&((decide (r.w=s.w)&&decide (r.n=s.n))&&(decide (r.v=s.v)&&(iW r.p s.p&&lu r.es s.es)))))
theorem XE (ρ:aK) {r':aR} {cs':List XV} (hr:c_ M b r cs) (sA:c_ M b r' cs') (hb:b<=nx):ar ao ρ 318 [.agg cs,.agg cs'] M nx (fe nx M (.bool (gR r r'))):=by
 obtain⟨pk,pa,pb,pv,ve,rfl,⟨p1,p2⟩,⟨q1,q2⟩,dZ,yK⟩:=hr.cells;obtain⟨pk',pa',pb',pv',ve',rfl,⟨MR,MS⟩,⟨MT,MU⟩,Mw,Zk⟩:=sA.cells;clear hr sA;have fin:∀{c:Bool},gR r r'=c->∀(M1:Hp) (n1:Nat),aq nx M M1->nx<=n1->fe nx M (.bool (gR r r')) (.bool c,M1,n1):=fun h M1 n1 h1 h2=>by rw[h];exact .mk h1 h2
 refine ar.wk 52 [.tmp 4] Tryz.func318 ?_;by_cases c1:r.kind=r'.kind
 case neg =>
  refine rf oU p1 p2 q1 q2 MR MS MT MU c1 ?_;exact fin (by simp[gR,c1]) _ _ (((aq.refl _ _).set af _).set af _) af
 by_cases c2:r.t=r'.t
 case neg =>
  refine zQ oU p1 p2 q1 q2 MR MS MT MU c1 c2 ?_;exact fin (by simp[gR,c2]) _ _ (((aq.refl _ _).set af _).set af _) af
 by_cases c3:r.x=r'.x
 case neg =>
  refine yq oU p1 p2 q1 q2 MR MS MT MU c1 c2 c3 ?_;exact fin (by simp[gR,c3]) _ _ (((aq.refl _ _).set af _).set af _) af
 cases c4:(decide (r.w=r'.w)&&decide (r.n=r'.n)) with
 | false =>
   refine yq oU p1 p2 q1 q2 MR MS MT MU c1 c2 (aI c3 c4) ?_;exact fin (by simp only[gR,c4];simp) _ _ (((aq.refl _ _).set af _).set af _) af
 | true =>
   by_cases c5:r.v=r'.v
   case neg =>
    refine yq oU p1 p2 q1 q2 MR MS MT MU c1 c2 (aI c3 (aI c4 c5)) ?_;exact fin (by simp[gR,c5]) _ _ (((aq.refl _ _).set af _).set af _) af
   have dy:gR r r'=(iW r.p r'.p&&lu r.es r'.es):=by simp only[gR,c1,c2,c3,c4,c5,decide_true,Bool.true_and]
   refine yq oU p1 p2 q1 q2 MR MS MT MU c1 c2 (aI c3 (aI c4 c5)) ?_;generalize xu:aG (aG M _ _) _ _=M1;have a1:aq nx M M1:=by rw[<-xu];exact((aq.refl _ _).set af _).set af _
   have z1:gG M1 nx=some (.row [.int .i64 r'.kind,.int .u64 r'.t,.int .u64 r'.x,.int .u64 r.w,.int .u64 r.n,.int .u64 r'.v,.int .i64 pk,.int .u64 pa,.int .u64 pb,pv,ve]):=by
    rw[<-xu,aB,if_neg af,aB,if_pos rfl]
   have z2:gG M1 (nx+1)=some (.row [.int .i64 r'.kind,.int .u64 r'.t,.int .u64 r'.x,.int .u64 r'.w,.int .u64 r'.n,.int .u64 r'.v,.int .i64 pk',.int .u64 pa',.int .u64 pb',pv',ve']):=by
    rw[<-xu,aB,if_pos rfl]
   clear xu;refine lG (f356 ρ _ _ _ _ _ b _ _ (lt_succ_self _) (yK.agr (a1.le hb)) (Zk.agr (a1.le hb)) af) fun M2 n2 g2 g3=>?_
   have a2:aq nx M M2:=a1.trans (g2.le af);have y1:=(g2 nx af).trans z1;have y2:=(g2 (nx+1) af).trans z2;clear g2 z1 z2 a1;cases h5:iW r.p r'.p with
   | false =>
     refine fM oU h5 ?_;exact fin (by rw[dy,h5];rfl) _ _ a2 af
   | true =>
     refine jz oU h5 y1 y2 ?_;refine lG (f357 ρ (bE.agr dZ (a2.le hb)) (bE.agr Mw (a2.le hb)) af) fun M3 n3 g2 g3=>?_
     refine dt oU ?_;exact fin (by rw[dy,h5];rfl) _ _ (a2.trans (g2.le af)) af
def Rz:Ex:=.mk 0 0 0 []
def Nh (r:aR):aR :=
 if r.kind=2 then ⟨r.kind,r.t,r.x,r.w,r.n,0,Rz,[]⟩ else if r.kind=3 then ⟨r.kind,r.t,r.x,0,0,r.v,Rz,[]⟩ else if r.kind=4 then ⟨r.kind,r.t,r.x,0,0,0,Rz,[]⟩ else
 if r.kind=5 then ⟨r.kind,r.t,0,0,0,0,r.p,r.es⟩ else ⟨r.kind,r.t,0,0,0,0,Rz,[]⟩
def fL (r:aR):Bool:=decide (1<=r.kind)&&(decide (r.kind<=7)&&(!(decide (r.kind=5) && !(yw r.p))&&gR r (Nh r)))
theorem Gc (M:Hp) (b:Nat):bG M b Rz [.int .i64 0,.int .u64 0,.int .u64 0,.nils]/\jm M b .nils []:=by
 refine⟨?_,?_⟩
 ·simp only[Rz,bG]
  exact⟨.nils,[],rfl,⟨aj,.inl ⟨rfl,rfl,rfl⟩⟩,by simp only[cj]⟩
 ·exact⟨aj,.inl ⟨rfl,rfl,rfl⟩⟩
theorem GI (ρ:aK) (r:aR) (s:List Nat) (pk pa pb:Int) (pv ve:XV) (hp:cellsOf pv=[pv]/\ax pv=true) (he:cellsOf ve=[ve]/\ax ve=true) (h1:1<=r.kind) (h7:r.kind<=7) :
 ∃(g g2 g3 g4 g5:Nat) (lx lw ln lv lpk lpa lpb:Int) (lpv lve:XV),nJ s r.kind=[.str s,.fn (.func g) [] [],.fn (.func g2) [] [],.fn (.func g3) [] [],.fn (.func g4) [] [],.fn (.func g5) [] []] /\
  (∀(M':Hp) (nx':Nat),ar ao ρ g [.agg [.int .i64 r.kind,.int .u64 r.t,.int .u64 r.x,.int .u64 r.w,.int .u64 r.n,.int .u64 r.v,.int .i64 pk,.int .u64 pa,.int .u64 pb,pv,ve]] M' nx'
   (fe nx' M' (.agg [.int .i64 0,.int .u64 0,.int .u64 lx,.int .u64 lw,.int .u64 ln,.int .u64 lv,.int .i64 lpk,.int .u64 lpa,.int .u64 lpb,lpv,lve]))) /\
  (cellsOf lpv=[lpv]/\ax lpv=true)/\(cellsOf lve=[lve]/\ax lve=true) /\
  ∀(M':Hp) (b':Nat),bG M' b' r.p [.int .i64 pk,.int .u64 pa,.int .u64 pb,pv]->jm M' b' ve r.es->c_ M' b' (Nh r) [.int .i64 r.kind,.int .u64 r.t,.int .u64 lx,.int .u64 lw,.int .u64 ln,.int .u64 lv,.int .i64 lpk,.int .u64 lpa,.int .u64 lpb,lpv,lve]:=by
 obtain⟨kind,t,x,w,n,v,p,es⟩:=r;simp only at h1 h7 ⊢;have hn:cellsOf XV.nils=[.nils]/\ax .nils=true:=⟨rfl,rfl⟩;have:kind=1\/kind=2\/kind=3\/kind=4\/kind=5\/kind=6\/kind=7:=af;rcases this with rfl | rfl | rfl | rfl | rfl | rfl | rfl
 ·exact⟨_,_,_,_,_,_,_,_,_,_,_,_,_,_,rfl,fun M' nx'=>Yk ρ 1 t x w n v pk pa pb pv ve hp he,hn,hn,fun M' b' _ _=>⟨_,_,rfl,(Gc M' b').1,(Gc M' b').2⟩⟩
 ·exact⟨_,_,_,_,_,_,_,_,_,_,_,_,_,_,rfl,fun M' nx'=>Xd ρ 2 t x w n v pk pa pb pv ve hp he,hn,hn,fun M' b' _ _=>⟨_,_,rfl,(Gc M' b').1,(Gc M' b').2⟩⟩
 ·exact⟨_,_,_,_,_,_,_,_,_,_,_,_,_,_,rfl,fun M' nx'=>f217 ρ 3 t x w n v pk pa pb pv ve hp he,hn,hn,fun M' b' _ _=>⟨_,_,rfl,(Gc M' b').1,(Gc M' b').2⟩⟩
 ·exact⟨_,_,_,_,_,_,_,_,_,_,_,_,_,_,rfl,fun M' nx'=>f222 ρ 4 t x w n v pk pa pb pv ve hp he,hn,hn,fun M' b' _ _=>⟨_,_,rfl,(Gc M' b').1,(Gc M' b').2⟩⟩
 ·exact⟨_,_,_,_,_,_,_,_,_,_,_,_,_,_,rfl,fun M' nx'=>f227 ρ 5 t x w n v pk pa pb pv ve hp he,hp,he,fun M' b' h h'=>⟨_,_,rfl,h,h'⟩⟩
 ·exact⟨_,_,_,_,_,_,_,_,_,_,_,_,_,_,rfl,fun M' nx'=>Yk ρ 6 t x w n v pk pa pb pv ve hp he,hn,hn,fun M' b' _ _=>⟨_,_,rfl,(Gc M' b').1,(Gc M' b').2⟩⟩
 ·exact⟨_,_,_,_,_,_,_,_,_,_,_,_,_,_,rfl,fun M' nx'=>Yk ρ 7 t x w n v pk pa pb pv ve hp he,hn,hn,fun M' b' _ _=>⟨_,_,rfl,(Gc M' b').1,(Gc M' b').2⟩⟩
theorem Yg (ρ:aK) (hr:c_ M b r cs) (hb:b<=nx) (hc:dV r.p<=1000):ar ao ρ 249 [.agg cs] M nx (fe nx M (.bool (fL r))):=by
 obtain⟨pk,pa,pb,pv,ve,rfl,⟨p1,p2⟩,⟨q1,q2⟩,dZ,yK⟩:=hr.cells;have fin:∀{c:Bool},fL r=c->∀(M1:Hp) (n1:Nat),aq nx M M1->nx<=n1->fe nx M (.bool (fL r)) (.bool c,M1,n1):=fun h M1 n1 h1 h2=>by rw[h];exact .mk h1 h2
 refine ar.wk 38 [.tmp 2] Tryz.func249 ?_;by_cases hk:1<=r.kind/\r.kind<=7
 case neg =>
  refine lO PC p1 p2 q1 q2 ?_;refine lG (Xo ρ _ _ _ hk) fun M2 n2 g2 g3=>?_
  refine dt PC ?_;refine fin ?_ _ _ (((((aq.refl _ _).set af _).trans (g2.le af)).set af _).set af _) af;by_cases h1:1<=r.kind
  ·have:¬ r.kind<=7:=af
   simp[fL,this]
  ·simp[fL,h1]
 obtain⟨Bi,VE⟩:=hk;refine lO PC p1 p2 q1 q2 ?_;generalize xu:aG M nx _=M1;have a1:aq nx M M1:=by rw[<-xu];exact(aq.refl _ _).set af _
 have z1:gG M1 nx=some (.row [.int .i64 r.kind,.int .u64 r.t,.int .u64 r.x,.int .u64 r.w,.int .u64 r.n,.int .u64 r.v,.int .i64 pk,.int .u64 pa,.int .u64 pb,pv,ve]):=by rw[<-xu,aB,if_pos rfl]
 clear xu;refine gQ (WU ρ _ _ _ Bi VE) ?_;rintro⟨u,M2,n2⟩ ⟨s,g1,g2,g3⟩;simp only at g1 g2 g3;subst g1;have a2:aq nx M M2:=a1.trans (g2.le af);have z2:=(g2 nx af).trans z1;clear g2 z1 a1;obtain⟨g,g2,RI,g4,g5,lx,lw,ln,lv,lpk,lpa,lpb,lpv,lve,QP,hg,⟨l1,l2⟩,⟨m1,m2⟩,NV⟩:=GI ρ r s pk pa pb pv ve ⟨p1,p2⟩ ⟨q1,q2⟩ Bi VE;rw[QP];have z3:∀(o o':bx),gG (aG (aG M2 (n2+3) o) (n2+3) o') nx=gG M2 nx:=fun o o'=>by rw[aB,if_neg af,aB,if_neg af]
 have a3:∀(o o':bx),aq nx M (aG (aG M2 (n2+3) o) (n2+3) o'):=fun o o'=>(a2.set af _).set af _
 by_cases h5:r.kind=5
 ·refine gk PC z2 (eq_true h5) ?_
  refine lG (Xi ρ (yK.agr ((a3 _ _).le hb)) af hc) fun M3 n3 e2 e3=>?_
  have x1:=(e2 nx af).trans ((z3 _ _).trans z2);have x3:gG M3 (n2+3)=some (.row [.str s,.fn (.func g) [] [],.fn (.func g2) [] [],.fn (.func RI) [] [],.fn (.func g4) [] [],.fn (.func g5) [] []]):=(e2 (n2+3) af).trans (by rw[aB,if_pos rfl]);have b3:aq nx M M3:=(a3 _ _).trans (e2.le af);clear e2;cases hx:yw r.p with
  | false =>
    refine fM PC hx ?_;exact fin (by simp[fL,h5,hx]) _ _ b3 af
  | true =>
    refine jz PC hx x1 x3 ?_;refine gQ (hg _ _) ?_;rintro⟨u,M4,n4⟩ ⟨g1,e2,e3⟩;simp only at g1 e2 e3;subst g1;have y1:=(e2 nx af).trans x1;have a4:aq nx M M4:=b3.trans (e2.le af);clear e2;refine ul PC y1 l1 l2 m1 m2 ?_;refine⟨bn _ _ _ _ _ _ (by simp<;>omega) (by simp<;>omega) (by simp<;>omega),?_⟩;generalize mR:aG (aG (aG (aG M4 _ _) _ _) _ _) _ _=M5;have a5:aq nx M M5:=by rw[<-mR];exact(((a4.set af _).set af _).set af _).set af _
    clear mR y1 a4;refine lG (XE ρ (hr.agr (a5.le hb)) (NV M5 b (yK.agr (a5.le hb)) (bE.agr dZ (a5.le hb))) af) fun M6 n6 e2 e3=>?_
    refine dt PC ?_;exact fin (by simp[fL,Bi,VE,h5,hx]) _ _ (a5.trans (e2.le af)) af
 ·refine gk PC z2 h5 ?_
  refine gQ (hg _ _) ?_;rintro⟨u,M4,n4⟩ ⟨g1,e2,e3⟩;simp only at g1 e2 e3;subst g1;have y1:=(e2 nx af).trans ((z3 _ _).trans z2);have a4:aq nx M M4:=(a3 _ _).trans (e2.le af);clear e2;refine ul PC y1 l1 l2 m1 m2 ?_;refine⟨bn _ _ _ _ _ _ (by simp<;>omega) (by simp<;>omega) (by simp<;>omega),?_⟩;generalize mR:aG (aG (aG (aG M4 _ _) _ _) _ _) _ _=M5;have a5:aq nx M M5:=by rw[<-mR];exact(((a4.set af _).set af _).set af _).set af _
  clear mR y1 a4;refine lG (XE ρ (hr.agr (a5.le hb)) (NV M5 b (yK.agr (a5.le hb)) (bE.agr dZ (a5.le hb))) af) fun M6 n6 e2 e3=>?_
  refine dt PC ?_;exact fin (by simp[fL,Bi,VE,h5]) _ _ (a5.trans (e2.le af)) af
theorem f165 (ρ:aK) {m:XV} (hr:c_ M b r cs) (hb:b<=nx) (hc:dV r.p<=1000):ar ao ρ 165 [m,.agg cs] M nx (fe nx M (.bool (fL r))):=by
 obtain⟨pk,pa,pb,pv,ve,rfl,⟨p1,p2⟩,⟨q1,q2⟩,_,_⟩:=hr.cells;refine ar.wk 7 [.tmp 4] Tryz.func165 ?_;refine lO oU p1 p2 q1 q2 ?_;have a1:=fun o=>(aq.refl nx M).set (Nat.le_refl nx) o
 refine lG (Yg ρ (hr.agr ((a1 _).le hb)) af hc) fun M2 n2 g2 g3=>?_
 refine fM oU @fe.eq_1 ?_;exact⟨(a1 _).trans (g2.le af),af⟩
theorem bE.fld {P:Program} {v:XV} {sz len:Nat} {row:List XV} (h:bE M b v sz len row) (hi:i<len) {t:Nat} (ht:es P t=some sz) :
 ∃n o,n<b/\(∀k,br P t v (.int k (i:Int))=some (.mp n o))/\∀(j:Nat) (x:XV),j<sz->((row.drop (i*sz)).take sz)[j]?=some x->∀(t' m:Nat),sa P t'=some (m,false)->∀N,aq b M N->b_ P N t' (.mp n (o+j))=some ⟨x,[n],[]⟩:=by
 obtain⟨n,o,h1,h2,cs,h3,h4,h5⟩:=h.at hi ht;refine⟨n,o,h1,h2,fun j x hj hx t' m zp N hN=>?_⟩;refine dB (lR h3 hN h1) zp ?_;rw[h4,getElem?_take,if_pos hj,getElem?_drop]at hx;exact hx
def tQ:List En->Bool
 | a::c::l=>decide (a.x<c.x)&&tQ (c::l)
 | _=>true
theorem EG {l:List En} {a c:En} (h:l[i]?=some a) (h':l[i+1]?=some c):tQ (l.drop i)=(decide (a.x<c.x)&&tQ (l.drop (i+1))):=by
 obtain⟨h1,rfl⟩:=List.getElem?_eq_some_iff.1 h;obtain⟨h2,rfl⟩:=List.getElem?_eq_some_iff.1 h';rw[drop_eq_getElem_cons h1,drop_eq_getElem_cons h2];rfl
theorem Xy (ρ:aK) {m:XV} (hr:c_ M b r cs) (hb:b<=nx):ar ao ρ 172 [m,.agg cs] M nx (fe nx M (.bool (tQ r.es))):=by
 obtain⟨pk,pa,pb,pv,ve,rfl,⟨p1,p2⟩,⟨q1,q2⟩,dZ,_⟩:=hr.cells;clear hr;unfold jm at dZ;have ay:=fun N=>dZ.len (P:=ao) (t:=45) gX.2.2.2.2.2 N
 have hz:=dZ.1;refine ar.wk 27 [.tmp 4] Tryz.func172 ?_;refine lO Pa p1 p2 q1 q2 ?_;refine aC (fun m s=>∃i:Nat,m=r.es.length - i/\(i<r.es.length\/i=0)/\tQ (r.es.drop i)=tQ r.es/\gG s.env 3=some (.mp nx 0)/\gG s.env 5=some (.int .i64 ((i+1:Nat):Int)) /\
  gG s.M nx=some (.row [.int .i64 r.kind,.int .u64 r.t,.int .u64 r.x,.int .u64 r.w,.int .u64 r.n,.int .u64 r.v,.int .i64 pk,.int .u64 pa,.int .u64 pb,pv,ve])/\aq nx M s.M/\nx<=s.nx)
  r.es.length ⟨0,af,af,aj,?_⟩ ?_
 ·refine dt Pa ?_
  exact⟨(aq.refl _ _).set af _,af⟩
 ·rintro m ⟨env,M',nx'⟩ ⟨i,hm,hi,pA,e3,e5,hM,ha,hn⟩
  simp only at e3 e5 hM ha hn;by_cases aL:((i+1:Nat):Int)<r.es.length
  ·have h1:i<r.es.length:=af
   have h2:i+1<r.es.length:=af;obtain⟨a,Mt⟩:∃e,r.es[i]?=some e:=⟨r.es[i],by simp[h1]⟩;obtain⟨c,Gk⟩:∃e,r.es[i+1]?=some e:=⟨r.es[i+1],by simp[h2]⟩;obtain⟨n,o,jw,bC,aU⟩:=dZ.fld (P:=ao) h1 (t:=45) gX.2.2.2.1;obtain⟨n2,o2,Ux,iN,dJ⟩:=dZ.fld (P:=ao) h2 (t:=45) gX.2.2.2.1;have g1:=aU 0 (.int .u64 a.x) af (by rw[iz _ i a Mt];rfl) 31 1 dq.1 M' (ha.le hb);have g2:=dJ 0 (.int .u64 c.x) af (by rw[iz _ (i+1) c Gk];rfl) 31 1 dq.1 M' (ha.le hb);rw[Nat.add_zero]at g1 g2;have qC:IntKind.i64.wrap (((i+1:Nat):Int) - 1)=(i:Int):=by rw[wrap_i64 af af];omega
   have bV:IntKind.i64.wrap (((i+1:Nat):Int)+1)=((i+1+1:Nat):Int):=by rw[wrap_i64 af af];omega
   have bw:=EG Mt Gk;clear aU dJ;by_cases hq:c.x<=a.x
   ·refine yq Pa e3 e5 hM ay aL bC iN g1 g2 qC (aI hq @fe.eq_1) ?_
    refine⟨?_,ha,af⟩;have:¬ a.x<c.x:=af;rw[<-pA,bw];simp[this]
   ·refine yq Pa e3 e5 hM ay aL bC iN g1 g2 qC (aI bV hq) ?_
    refine⟨r.es.length - (i+1),af,i+1,rfl,af,?_,rfl,ha,af⟩;have:a.x<c.x:=af;rw[<-pA,bw];simp[this]
  ·refine ky Pa e3 e5 hM ay aL @fe.eq_1 ?_
   refine⟨?_,ha,af⟩;rw[<-pA];by_cases h0:i<r.es.length
   ·rw[drop_eq_getElem_cons h0,drop_eq_nil_of_le af]
    rfl
   ·rw[drop_eq_nil_of_le af]
    rfl
def kG (l:List aR) (p:Ex) (x w n:Int):Bool:=match rV l x w n with | some d=>!d.dead&&xS p x d.v | none=>false
def uu (l:List aR) (r:aR):Bool:=r.es.all fun e=>e.m==kG l r.p e.x e.w e.n
theorem PB (ρ:aK) {e:Ex} (he:bG M b e cs) (hb:b<=nx) (hc:dV e<=1000) (iu:gI e) (h:cZ M lo hi m l) (hh:hi<=nx) (x w n:Int) :
 ar ao ρ 259 [.mp m 0,.agg cs,.int .u64 x,.agg [.int .u64 w,.int .u64 n]] M nx (fe nx M (.bool (kG l e x w n))):=by
 have sx:=he;obtain⟨k,p,q,ps⟩:=e;simp only[bG]at sx;obtain⟨pv,row,rfl,cw,jd⟩:=sx;have hv:=cw.cell;refine ar.wk 32 [.tmp 8] Tryz.func259 ?_;refine gk OF hv.1 hv.2 ?_;generalize xu:aG (aG M nx (bx.row [XV.int IntKind.i64 k,XV.int IntKind.u64 p,XV.int IntKind.u64 q,pv])) (nx+1) (bx.row [XV.int IntKind.u64 w,XV.int IntKind.u64 n])=M1;have a1:aq nx M M1:=by rw[<-xu];exact O
 have m1:gG M1 nx=some (.row [.int .i64 k,.int .u64 p,.int .u64 q,pv]):=by rw[<-xu];simp[aB]
 clear xu;refine lG (Qe ρ (h.agr (a1.le hh) (Nat.le_refl _)) af x w n) fun M2 n2 g2 g3=>?_
 have a2:=a1.trans (g2.le af);have y:=(g2 nx af).trans m1;cases hm:rV l x w n with
 | none =>
   refine jz OF @wy.eq_1 @wy.eq_2 @fe.eq_1 ?_;exact⟨by simp only[kG,hm],(by(repeat (refine aq.set ?_ af _));exact a2),af⟩
 | some d =>
   obtain⟨dv,dd⟩:=d;cases dd with
   | true =>
     refine lO OF @wy.eq_1 @wy.eq_2 @et.eq_1 @fe.eq_1 ?_;exact⟨by simp only[kG,hm,Bool.not_true,Bool.false_and],(by(repeat (refine aq.set ?_ af _));exact a2),af⟩
   | false =>
     refine lO OF @wy.eq_1 @wy.eq_2 @et.eq_1 y ?_;have a3:=fun o o'=>((a2.set (show nx<=n2+3 by omega) o).set (show nx<=n2+3 by omega) o')
     refine lG (X2 ρ (he.agr ((a3 _ _).le hb)) af hc iu x dv) fun M3 n3 k2 k3=>?_
     refine fM OF @fe.eq_1 ?_;exact⟨by simp only[kG,hm,Bool.not_false,Bool.true_and],(a3 _ _).trans (k2.le af),af⟩
theorem WH (ρ:aK) (h:cZ M lo hi m l) (hh:hi<=nx) (hk:gG M k=some (.row [.mp m 0])) (QP:k<nx) (e:En):ar ao ρ 253 [.agg (fI e),.mp k 0] M nx (fe nx M (.bool (!(lV l e.x e.w e.n)))):=by
 simp only[fI];have a1:=fun o=>(aq.refl nx M).set (Nat.le_refl nx) o
 refine ar.wk 11 [.tmp 3] Tryz.func253 ?_;refine fM Hw hk ?_;refine lG (SD ρ (h.agr ((a1 _).le hh) (Nat.le_refl _)) af e.x e.w e.n) fun M2 n2 g2 g3=>?_
 refine fM Hw @fe.eq_1 ?_;exact⟨(a1 _).trans (g2.le af),af⟩
theorem xU {α:Type} (q:α->Bool) (l:List α):(!(l.any fun e=>!(q e)))=l.all q:=by
 induction l with
 | nil=>rfl
 | cons a l ih=>simp only[any_cons,all_cons,<-ih,Bool.not_or,Bool.not_not]
theorem f173 (ρ:aK) (hr:c_ M b r cs) (hb:b<=nx) (h:cZ M lo hi m l) (hh:hi<=nx):ar ao ρ 173 [.mp m 0,.agg cs] M nx (fe nx M (.bool (tN l r))):=by
 obtain⟨pk,pa,pb,pv,ve,rfl,⟨p1,p2⟩,⟨q1,q2⟩,dZ,_⟩:=hr.cells;unfold jm at dZ;refine ar.wk 10 [.tmp 4] Tryz.func173 ?_;refine lO qg p1 p2 q1 q2 ?_;generalize xu:aG (aG M nx _) (nx+1) _=M1;have a1:aq nx M M1:=by rw[<-xu];exact O
 have m1:gG M1 nx=some (.row [.mp m 0]):=by rw[<-xu];simp[aB]
 clear xu;refine lG (Tm ρ (dZ.agr (a1.le hb)) af (fun e=>!(lV l e.x e.w e.n)) fun e he M' nx' ha hn=>WH ρ ((h.agr (a1.le hh) (Nat.le_refl _)).agr (ha.le af) (Nat.le_refl _)) af ((ha _ af).trans m1) af e) fun M2 n2 g2 g3=>?_
 have hz:=xU (fun e:En=>lV l e.x e.w e.n) r.es;refine gk qg hz @fe.eq_1 ?_;exact⟨by simp only[tN],a1.trans (g2.le af),af⟩
theorem WP (ρ:aK) {k1 k2:Nat} (hr:c_ M b r cs) (hb:b<=nx) (hc:dV r.p<=1000) (iu:gI r.p) (h:cZ M lo hi m l) (hh:hi<=nx)
 (m1:gG M k1=some (.row [.mp m 0])) (m2:gG M k2=some (.row cs)) (b1:k1<nx) (b2:k2<nx) (e:En) :
 ar ao ρ 258 [.agg (fI e),.mp k1 0,.mp k2 0] M nx (fe nx M (.bool (!(e.m==kG l r.p e.x e.w e.n)))):=by
 refine ar.closed fun cF _=>?_
 obtain⟨pk,pa,pb,pv,ve,rfl,⟨p1,p2⟩,⟨q1,q2⟩,_,hp⟩:=hr.cells;have hk:kltV nx pv=true:=by
  have:=(cF k2 _ m2).2;simp only[cp,aE,kltV]at this;cases hk:kltV nx pv with
  | true=>rfl
  | false=>rw[hk]at this;cases this
 have vY:m<nx:=by obtain⟨_,_,_,_,_,_,_,_,h⟩:=h;have:=h.m_hi;omega
 have a1:=fun o=>(aq.refl nx M).set (Nat.le_refl nx) o
 simp only[fI];refine ar.wk 16 [.tmp 4] Tryz.func258 ?_;refine gk GV m1 m2 ?_;refine aT (bN.read (v:=.bool (kG l r.p e.x e.w e.n)) ((cF.le af).set af rfl) ?_ rfl fun N hN=>?_) ak ?_
 ·have hb:∀c,Nat.blt m (nx+c)=true:=fun c=>by rw[blt_eq];omega
  simp only[aE,kltV,hb];rw[kltV.le af hk]
 ·exact PB ρ (hp.agr (((a1 _).trans (hN.le af)).le hb)) af hc iu (h.agr (((a1 _).trans (hN.le af)).le hh) (Nat.le_refl _)) af e.x e.w e.n
 ·refine jz GV @Th @rG @fe.eq_1 ?_
  refine⟨?_,O,af⟩;cases e.m<;>cases kG l r.p e.x e.w e.n<;>rfl
theorem f175 (ρ:aK) (hr:c_ M b r cs) (hb:b<=nx) (hc:dV r.p<=1000) (iu:gI r.p) (h:cZ M lo hi m l) (hh:hi<=nx):ar ao ρ 175 [.mp m 0,.agg cs] M nx (fe nx M (.bool (uu l r))):=by
 have mP:=hr;obtain⟨pk,pa,pb,pv,ve,rfl,⟨p1,p2⟩,⟨q1,q2⟩,dZ,_⟩:=hr.cells;unfold jm at dZ;refine ar.wk 10 [.tmp 4] Tryz.func175 ?_;refine lO qg p1 p2 q1 q2 ?_;generalize xu:aG (aG M nx _) (nx+1) _=M1;have a1:aq nx M M1:=by rw[<-xu];exact O
 have m1:gG M1 nx=some (.row [.mp m 0]):=by rw[<-xu];simp[aB]
 have m2:gG M1 (nx+1)=some (.row [.int .i64 r.kind,.int .u64 r.t,.int .u64 r.x,.int .u64 r.w,.int .u64 r.n,.int .u64 r.v,.int .i64 pk,.int .u64 pa,.int .u64 pb,pv,ve]):=by rw[<-xu];simp[aB]
 clear xu;refine lG (Tm ρ (dZ.agr (a1.le hb)) af (fun e=>!(e.m==kG l r.p e.x e.w e.n)) fun e he M' nx' ha hn=>WP ρ ((mP.agr (a1.le hb)).agr (ha.le af)) af hc iu ((h.agr (a1.le hh) (Nat.le_refl _)).agr (ha.le af) (Nat.le_refl _)) af ((ha _ af).trans m1) ((ha _ af).trans m2) af af e) fun M2 n2 g2 g3=>?_
 have hz:=xU (fun e:En=>e.m==kG l r.p e.x e.w e.n) r.es;refine gk qg hz @fe.eq_1 ?_;exact⟨by simp only[uu],a1.trans (g2.le af),af⟩
theorem WN (ρ:aK) {k1 k2:Nat} {x w n:Int} (m1:gG M k1=some (.row [.int .u64 x])) (m2:gG M k2=some (.row [.int .u64 w,.int .u64 n])) (b1:k1<nx) (b2:k2<nx) (e:En) :
 ar ao ρ 257 [.agg (fI e),.mp k1 0,.mp k2 0] M nx (fe nx M (.bool (decide (e.x=x)&&(decide (e.w=w)&&decide (e.n=n))))):=by
 simp only[fI];have a1:=fun o=>(aq.refl nx M).set (Nat.le_refl nx) o
 refine ar.wk 15 [.tmp 4] Tryz.func257 ?_;by_cases c:e.x=x
 ·refine lO OV m1 m2 c @fe.eq_1 ?_
  exact⟨a1 _,af⟩
 ·refine lO OV m1 m2 c @fe.eq_1 ?_
  exact⟨aj,a1 _,af⟩
def xH (t:Int) (k:Nat):Int×Int:=match k with | 0=>(0,0) | k+1=>(t,((k+1:Nat):Int))
theorem Xq (ρ:aK) {k1 k2:Nat} (hr:c_ M b r cs) (hb:b<=nx) (h:cZ M lo hi m l) (hh:hi<=nx) (m1:gG M k1=some (.row [.mp m 0])) (m2:gG M k2=some (.row cs)) (b1:k1<nx) (b2:k2<nx) (x:Int) :
 ar ao ρ 256 [.int .u64 x,.mp k1 0,.mp k2 0] M nx (fe nx M (.bool (!(r.es.any fun e=>decide (e.x=x)&&(decide (e.w=(xH r.t (bd l r.t x).length).1)&&decide (e.n=(xH r.t (bd l r.t x).length).2)))))):=by
 obtain⟨pk,pa,pb,pv,ve,rfl,⟨p1,p2⟩,⟨q1,q2⟩,dZ,_⟩:=hr.cells;unfold jm at dZ;have a1:=fun o=>(aq.refl nx M).set (Nat.le_refl nx) o
 have z1:=(a1 (.row [.int .u64 x]) k2 b2).trans m2;refine ar.wk 20 [.tmp 4] Tryz.func256 ?_;refine gk qg m1 m2 ?_;refine lG (ST ρ (h.agr ((a1 _).le hh) (Nat.le_refl _)) af r.t x) fun M2 n2 g2 g3=>?_
 have a2:=(a1 (.row [.int .u64 x])).trans (g2.le af);have y:=g2 nx af;rw[aB,if_pos rfl]at y;have y2:=(a2 k2 b2).trans m2;obtain⟨v1,Mb⟩:∃v,v=xH r.t (bd l r.t x).length:=⟨_,rfl⟩;have ZE:∃f,Fg r.t (bd l r.t x).length = .tup [.agg [.int .u64 v1.1,.int .u64 v1.2],.bool f]:=by
  rw[Mb];cases (bd l r.t x).length with
  | zero=>exact⟨_,rfl⟩
  | succ k=>exact⟨_,rfl⟩
 obtain⟨f,hf⟩:=ZE
 rw[<-Mb];refine gk qg hf y2 ?_;generalize xu:aG (aG M2 _ _) _ _=M3;have a3:aq n2 M2 M3:=by rw[<-xu];exact O
 have m3:gG M3 (n2+3)=some (.row [.int .u64 v1.1,.int .u64 v1.2]):=by rw[<-xu];simp[aB]
 clear xu;refine lG (Tm ρ (dZ.agr ((a2.trans (a3.le af)).le hb)) af (fun e=>decide (e.x=x)&&(decide (e.w=v1.1)&&decide (e.n=v1.2))) fun e he M' nx' ha hn=>WN ρ ((ha _ af).trans ((a3 nx af).trans y)) ((ha _ af).trans m3) af af e) fun M4 n4 MM k3'=>?_
 refine fM qg @fe.eq_1 ?_;exact⟨(a2.trans (a3.le af)).trans (MM.le af),af⟩
def kL:Prop:=∀(ρ:aK) (M:Hp) (nx k:Nat) (xs:List Int),xs.length<=4000->0<xs.length->k<nx->gG M k=some (.row (xs.map (XV.int .u64))) ->
 ar ao ρ 125 [.sl k 1 0 xs.length xs.length] M nx fun r=>r.1 = .tup []/\(∃ys:List Int,ys.Perm xs/\ys.Pairwise (· <= ·)/\gG r.2.1 k=some (.row (ys.map (XV.int .u64))))/\(∀j,j<nx->j≠k->gG r.2.1 j=gG M j)/\nx<=r.2.2
def kJ:Prop:=∀(ρ:aK) (M:Hp) (nx:Nat),ar ao ρ 125 [.nils] M nx (fe nx M (.tup []))
def fK (ps:List (Int×Int)) (t:Int):List Int:=(ps.filter fun p=>decide (p.1=t)).map (·.2)
theorem BR {t:Int} {p:Int×Int} (h:ps[i]?=some p):fK (ps.take (i+1)) t=if p.1=t then fK (ps.take i) t++[p.2] else fK (ps.take i) t:=by
 have:ps.take (i+1)=ps.take i++[p]:=by rw[take_add_one,h];rfl
 unfold fK;rw[this,filter_append,map_append];by_cases e:p.1=t<;>simp[e]
abbrev Ye (M:Hp) (lo hi:Nat) (v:XV) (ys:List Int):Prop:=bS M lo hi (fun _=>()) () v 1 ys.length (ys.map (XV.int .u64))
theorem WQ (hS:kL) (hN:kJ) (ρ:aK) {le:List (Nat×Int×Bool)} (h:kI M lo hi m mn l tag ps vnum vnames vrows vend rs le) (hh:hi<=nx) (few:ps.length<=1000) (t:Int) :
 ar ao ρ 255 [.mp m 0,.int .u64 t] M nx fun r=>(∃ys:List Int,ys.Perm (fK ps t)/\ys.Pairwise (· <= ·)/\bE r.2.1 r.2.2 r.1 1 ys.length (ys.map (XV.int .u64)))/\aq nx M r.2.1/\nx<=r.2.2:=by
 have vY:=h.m_hi;have a0:∀c,aq (nx+c) M M:=fun c=>aq.refl _ _
 refine ar.wk 40 [.tmp 4] Tryz.func255 ?_;refine dt Hk ?_;refine lG (Xc ρ h.row af h.names) fun M1 n1 g2 g3=>?_
 have Qw:aq nx M M1:=g2.le af;refine dt Hk ?_;refine aC (fun m' s=>∃(i:Nat) (v:XV),i<=ps.length/\m'=ps.length - i/\gG s.env 0=some (.mp m 0)/\gG s.env 1=some (.int .u64 t)/\gG s.env 4=some v/\gG s.env 14=some (.int .i64 ps.length)/\gG s.env 15=some (.int .i64 i)/\Ye s.M nx s.nx v (fK (ps.take i) t)/\aq nx M s.M/\nx<=s.nx)
  ps.length ⟨0,.nils,af,af,?_⟩ ?_
 ·refine dt Hk ?_
  exact⟨⟨by simp[fK],by simp[fK],.inl ⟨rfl,by simp[fK]⟩⟩,(by(repeat (refine aq.set ?_ af _));exact Qw),af⟩
 ·rintro m' ⟨env,M',nx'⟩ ⟨i,v,hi',ir,e0,e1,e4,pu,gW,hv,ha,hn⟩
  simp only at e0 e1 e4 pu gW hv ha hn;have ip:(fK (ps.take i) t).length<=4000:=by
   unfold fK;rw[length_map];refine Nat.le_trans (length_filter_le _ _) ?_;rw[length_take];omega
  by_cases aL:(i:Int)<ps.length
  ·have aP:i<ps.length:=af
   obtain⟨p,hp⟩:∃p,ps[i]?=some p:=⟨ps[i],by simp[aP]⟩;have bV:=eF i;refine ky Hk e0 e1 e4 pu gW aL ?_;refine gQ (WC ρ ((ha m af).trans h.row) af (h.names.agr (ha.le hh) (Nat.le_refl _)) af hp) ?_;rintro⟨u,M2,n2⟩ ⟨g1,g2,g3⟩;simp only[fj]at g1 g2 g3;subst g1;have bw:=BR (t:=t) hp;have jX:=ha.trans (g2.le af);by_cases UI:p.1=t
   ·rw[if_pos UI]at bw
    obtain⟨hz,cF,⟨rfl,pG⟩ | ⟨hl,k,rfl,k1,k2,_,k4⟩⟩:=hv
    ·have ho:fK (ps.take i) t=[]:=length_eq_zero_iff.1 pG
     refine mD Hk e0 e1 e4 pu gW UI bV ?_;refine⟨ps.length - (i+1),af,i+1,_,af,rfl,rfl,rfl,?_,(by(repeat (refine aq.set ?_ af _));exact jX),af⟩;rw[bw,ho];exact⟨aj,aj,.inr ⟨aj,n2+14,rfl,af,af,rfl,J⟩⟩
    ·have MN:=(g2 k af).trans k4
     have kB:List.take (fK (ps.take i) t).length (List.map (XV.int .u64) (fK (ps.take i) t))=List.map (XV.int .u64) (fK (ps.take i) t):=take_of_length_le aj;refine rf Hk e0 e1 e4 pu gW UI bV MN kB ?_;refine⟨ps.length - (i+1),af,i+1,_,af,rfl,rfl,rfl,?_,?_,af⟩
     ·rw[bw]
      refine⟨am,aj,.inr ⟨aj,n2+14,aj,af,af,rfl,?_⟩⟩;rw[map_append];exact J
     ·exact fun j hj=>by
       have e1:j≠k:=af;have:=jX j hj;exact J
   ·rw[if_neg UI]at bw
    refine mD Hk e0 e1 e4 pu gW UI bV ?_;refine⟨ps.length - (i+1),af,i+1,_,af,rfl,rfl,rfl,?_,(by(repeat (refine aq.set ?_ af _));exact jX),af⟩;rw[bw];exact hv.keep (fun k hk _=>⟨by have:=g2 k af;exact J,rfl⟩) af
  ·have gB:i=ps.length:=af
   subst gB;rw[take_length]at hv ip;obtain⟨hz,cF,⟨rfl,pG⟩ | ⟨hl,k,rfl,k1,k2,_,k4⟩⟩:=hv
   ·refine ky Hk e0 e1 e4 pu gW aL ?_
    refine gQ (hN ρ _ _) ?_;rintro⟨u,M2,n2⟩ ⟨g1,g2,g3⟩;simp only at g1 g2 g3;subst g1;have ho:fK ps t=[]:=length_eq_zero_iff.1 pG;refine fM Hk e4 ?_;exact⟨⟨[],by rw[ho],.nil,aj,.inl ⟨rfl,rfl,rfl⟩⟩,ha.trans (g2.le af),af⟩
   ·refine ky Hk e0 e1 e4 pu gW aL ?_
    refine gQ (hS ρ _ _ k (fK ps t) ip hl af k4) ?_;rintro⟨u,M2,n2⟩ ⟨g1,⟨ys,y1,y2,y3⟩,g2,g3⟩;simp only at g1 y3 g2 g3;subst g1;refine fM Hk e4 ?_;refine⟨⟨ys,y1,y2,?_⟩,fun j hj=>(g2 j af af).trans (ha j hj),af⟩;have VX:ys.length=(fK ps t).length:=y1.length_eq;have hyb:ys.length<=4000:=by rw[VX];simpa using ip
    rw[<-VX];exact⟨af,.inr ⟨k,0,ys.length,ys.map (XV.int .u64),rfl,af,by unfold vR;simp only[y3],aj,by rw[drop_zero,take_of_length_le aj]⟩⟩
theorem wM {le:List (Nat×Int×Bool)} (h:kI M lo hi m mn l tag ps vnum vnames vrows vend rs le) (t x:Int):x ∈ fK ps t ↔ x ∈ P_ l t:=by
 unfold fK P_;simp only[mem_map,mem_filter,decide_eq_true_eq,Bool.and_eq_true,Prod.exists];constructor
 ·rintro⟨a,b,⟨hm,rfl⟩,rfl⟩
  obtain⟨i,hi⟩:=getElem?_of_mem hm;obtain⟨q,_⟩:=h.all i a b hi;unfold bd at q;have:l.filter (oI a b)≠[]:=fun e=>q (by rw[e];rfl)
  obtain⟨r,hr⟩:=exists_mem_of_ne_nil _ this;rw[mem_filter]at hr;simp only[oI,Bool.and_eq_true,decide_eq_true_eq]at hr;exact⟨r,⟨hr.1,hr.2.1,hr.2.2.1⟩,hr.2.2.2⟩
 ·rintro⟨r,⟨h1,h2,h3⟩,rfl⟩
  refine⟨t,r.x,⟨h.whole t r.x fun e=>?_,rfl⟩,rfl⟩;unfold bd at e;have:r ∈ l.filter (oI t r.x):=mem_filter.2 ⟨h1,by simp[oI,h2,h3]⟩;rw[map_eq_nil_iff]at e;rw[e]at this;cases this
theorem Ik {t:Int} (h:0<k):xH t k=(t,(k:Int)):=by
 cases k with
 | zero=>omega
 | succ k=>rfl
theorem f174 (hS:kL) (hN:kJ) (ρ:aK) (hr:c_ M b r cs) (hb:b<=nx) (h:cZ M lo hi m l) (hh:hi<=nx) (few:l.length<=1000):ar ao ρ 174 [.mp m 0,.agg cs] M nx (fe nx M (.bool (ka l r))):=by
 have mP:=hr;have h0:=h;obtain⟨pk,pa,pb,pv,ve,rfl,⟨p1,p2⟩,⟨q1,q2⟩,dZ,_⟩:=hr.cells;obtain⟨tag,ps,vnum,vnames,vrows,vend,rs,le,h⟩:=h;refine ar.wk 15 [.tmp 4] Tryz.func174 ?_;by_cases k5:r.kind=5
 ·refine ul qg p1 p2 q1 q2 k5 ?_
  generalize xu:aG (aG M _ _) _ _=M1;have a1:aq nx M M1:=by rw[<-xu];exact O
  have m1:gG M1 nx=some (.row [.mp m 0]):=by rw[<-xu];exact J
  have m2:gG M1 (nx+1)=some (.row [.int .i64 r.kind,.int .u64 r.t,.int .u64 r.x,.int .u64 r.w,.int .u64 r.n,.int .u64 r.v,.int .i64 pk,.int .u64 pa,.int .u64 pb,pv,ve]):=by rw[<-xu,k5];exact J
  clear xu;obtain⟨MV,ps1,w0,w1,w2,w3,rs1,le1,h1⟩:=h0.agr (a1.le hh) (Nat.le_refl _);refine gQ (WQ hS hN ρ h1 af (by have:=h1.few;omega) r.t) ?_;rintro⟨u,M2,n2⟩ ⟨⟨ys,y1,y2,y3⟩,g2,g3⟩;simp only at y3 g2 g3;have a2:=a1.trans (g2.le af);have z1:=(g2 nx af).trans m1;have z2:=(g2 (nx+1) af).trans m2;have D0:=y3.cell;clear m1 m2;refine dt qg ?_;refine lG (Wl ρ y3 af (fun x=>!(r.es.any fun e=>decide (e.x=x)&&(decide (e.w=(xH r.t (bd l r.t x).length).1)&&decide (e.n=(xH r.t (bd l r.t x).length).2)))) fun x hx M' nx' ha hn=>Xq ρ ((mP.agr (a2.le hb)).agr (ha.le af)) af ((h0.agr (a2.le hh) (Nat.le_refl _)).agr (ha.le af) (Nat.le_refl _)) af ((ha _ af).trans z1) ((ha _ af).trans z2) af af x) fun M3 n3 MM k3'=>?_
  refine fM qg @fe.eq_1 ?_;refine⟨?_,a2.trans (MM.le af),af⟩;have hz:=xU (fun x:Int=>r.es.any fun e=>decide (e.x=x)&&(decide (e.w=(xH r.t (bd l r.t x).length).1)&&decide (e.n=(xH r.t (bd l r.t x).length).2))) ys;rw[hz];simp only[ka,k5,decide_true,Bool.not_true,Bool.false_or];congr 1;rw[Bool.eq_iff_iff,List.all_eq_true,List.all_eq_true];have pB:∀x,x ∈ ys ↔ x ∈ P_ l r.t:=fun x=>by rw[y1.mem_iff,wM h1]
  have ay:∀x,x ∈ P_ l r.t->xH r.t (bd l r.t x).length=(r.t,((bd l r.t x).length:Int)):=fun x hx=>by
   refine Ik (length_pos_iff.2 fun e=>?_);rw[<-wM h1]at hx;unfold fK at hx;simp only[mem_map,mem_filter,decide_eq_true_eq,Prod.exists]at hx;obtain⟨a,b',⟨hm,rfl⟩,rfl⟩:=hx;obtain⟨i,hi⟩:=getElem?_of_mem hm;exact(h1.all i _ _ hi).1 e
  constructor
  ·intro q x hx
   have:=q x ((pB x).2 hx);rw[ay x hx]at this;exact this
  ·intro q x hx
   rw[ay x ((pB x).1 hx)];exact q x ((pB x).1 hx)
 ·refine ky qg p1 p2 q1 q2 k5 @fe.eq_1 ?_
  exact⟨by simp[ka,k5],O,af⟩
end Go.Xs
namespace Go.Xs
open List Nat Option
variable{M:Hp}{nx:Nat}
noncomputable section
open Go.Proofs
theorem OM (ρ:aK) (j9:ρ.det=false) {box rm c:Nat} {l:List (Nat×Int×Int)} (sQ:gG M box=some (.row [.mm rm])) (RT:gG M rm=some (.map (cx (vI .i64) l) c)) (hb:kD l c) (h1:box<nx) (h2:rm<nx) (few:l.length<=100000) :
 ar ao ρ 124 [.fn (.func 126) [] [.mp box 0]] M nx fun r=>(∃ys:List Int,ys.Perm (l.map (·.2.1))/\bS r.2.1 nx r.2.2 (fun _=>()) () r.1 1 ys.length (ys.map (XV.int .u64)))/\aq nx M r.2.1/\nx<=r.2.2:=by
 refine ar.wk 5 [.tmp 2] Tryz.func124 ?_;refine Pr ?_;refine gQ (f190 ρ j9 sQ RT hb (show box<nx+2 by omega) af few) ?_;rintro⟨u,M2,n2⟩ ⟨⟨ys,y1,y2⟩,g2,g3⟩;simp only at y2 g2 g3;refine Pr ?_;refine⟨⟨ys,y1,?_⟩,g2.le af,af⟩;obtain⟨o1,o2,o3 | ⟨o3,K,q1,K1,K2,K3,K4⟩⟩:=y2
 ·exact⟨o1,o2,.inl o3⟩
 ·exact⟨o1,o2,.inr ⟨o3,K,q1,af,af,K3,K4⟩⟩
theorem f78 (hS:kL) (hN:kJ) (ρ:aK) (j9:ρ.det=false) {box rm c:Nat} {l:List (Nat×Int×Int)} (sQ:gG M box=some (.row [.mm rm])) (RT:gG M rm=some (.map (cx (vI .i64) l) c)) (hb:kD l c) (h1:box<nx) (h2:rm<nx) (few:l.length<=4000) :
 ar ao ρ 78 [.fn (.func 126) [] [.mp box 0]] M nx fun r=>(∃ys:List Int,ys.Perm (l.map (·.2.1))/\ys.Pairwise (· <= ·)/\bS r.2.1 nx r.2.2 (fun _=>()) () r.1 1 ys.length (ys.map (XV.int .u64)))/\aq nx M r.2.1/\nx<=r.2.2:=by
 refine ar.wk 9 [.tmp 2] Tryz.func78 ?_;refine Pr ?_;refine gQ (OM ρ j9 sQ RT hb (show box<nx+2 by omega) af af) ?_;rintro⟨u,M2,n2⟩ ⟨⟨ys,y1,y2⟩,g2,g3⟩;simp only at y2 g2 g3;have VX:ys.length<=4000:=by rw[y1.length_eq,length_map];exact few
 obtain⟨o1,o2,⟨rfl,o3⟩ | ⟨o3,K,rfl,K1,K2,K3,K4⟩⟩:=y2
 ·have hy0:ys=[]:=length_eq_zero_iff.1 o3
  refine Pr ?_;refine gQ (hN ρ _ _) ?_;rintro⟨u,M3,n3⟩ ⟨k1,k2,k3⟩;simp only at k1 k2 k3;subst k1;refine Pr ?_;exact⟨⟨ys,y1,by rw[hy0];exact .nil,⟨o1,o2,.inl ⟨rfl,o3⟩⟩⟩,(g2.le af).trans (k2.le af),af⟩
 ·refine Pr ?_
  refine gQ (hS ρ _ _ K ys VX o3 af K4) ?_;rintro⟨u,M3,n3⟩ ⟨k1,⟨zs,z1,z2,z3⟩,k2,k3⟩;simp only at k1 k2 k3 z3;subst k1;refine Pr ?_;have RV:zs.length=ys.length:=z1.length_eq;refine⟨⟨zs,z1.trans y1,z2,⟨af,aj,.inr ⟨af,K,by rw[RV],af,af,rfl,z3⟩⟩⟩,fun q hq=>(k2 q af af).trans (g2 q af),af⟩
theorem f79 (ρ:aK) (M:Hp) (nx rm:Nat):ar ao ρ 79 [.mm rm] M nx fun r=>∃box,r.1 = .fn (.func 126) [] [.mp box 0]/\nx<=box/\box<r.2.2/\gG r.2.1 box=some (.row [.mm rm])/\aq nx M r.2.1/\nx<=r.2.2:=by
 refine ar.wk 4 [.tmp 2] Tryz.func79 ?_;refine dt eC ?_;exact⟨nx,rfl,af,af,if_pos rfl,O,af⟩
def Ev (M:Hp) (o:Nat):Prop:=∃rm c l,gG M o=some (.row [.mm rm])/\gG M rm=some (.map (cx vX l) c)/\kD l c/\l.length<=4000
end
end Go.Xs
namespace Go.Xs
open List Nat Option
variable{M:Hp}{S:HS}{h hi lo nx:Nat}
noncomputable section
open Go.Proofs
theorem f39 (ρ:aK) (H:bX M lo hi h S) (hh:hi<=nx):ar ao ρ 39 [.mp h 0] M nx (fe nx M (.int .i64 S.nrec)):=by
 obtain⟨tag,vrec,vtxs,vcom,vmods,vlook,nk,vk,ok,cn,cv,co,ptrs,lnum,lver,lobj,H⟩:=H;have hr:=H.row;have ay:=fun N=>H.recs.sl.len (P:=ao) (t:=22) jp.2.2.2.2.2 N
 refine ar.wk 10 [.tmp 2] Tryz.func39 ?_;refine ti sJ hr ay @fe.eq_1 ?_;exact⟨aq.refl _ _,af⟩
theorem yW (ρ:aK) {L:List aR} (H:bX M lo hi h S) (hh:hi<=nx) (hn:S.nrec=L.length) (hR:∀j r,L[j]?=some r->c_ M nx r ((S.crec.drop (j*11)).take 11))
 (hl:L.length<=100000) (ip:∀r ∈ L,dV r.p<=100000/\r.es.length<=100000) :
 ar ao ρ 40 [.mp h 0] M nx fun o=>cP o.2.1 o.2.2 o.1 L/\aq nx M o.2.1/\nx<=o.2.2:=by
 obtain⟨tag,vrec,vtxs,vcom,vmods,vlook,nk,vk,ok,cn,cv,co,ptrs,lnum,lver,lobj,H⟩:=H;have hr:=H.row;have cw:bE M hi vrec 11 L.length S.crec:=by rw[<-hn];exact H.recs.sl
 have ay:=fun N=>cw.len (P:=ao) (t:=22) jp.2.2.2.2.2 N
 clear H;refine ar.wk 23 [.tmp 2] Tryz.func40 ?_;refine Ao Hv hr ay ?_;refine aC (fun m' s=>∃(i K:Nat) (vv:XV) (rw:List XV),i<=L.length/\m'=L.length - i/\gG s.env 2=some vv/\gG s.env 10=some vrec/\gG s.env 11=some (.int .i64 L.length)/\gG s.env 12=some (.int .i64 i)/\rw.length=i*11/\(vv = .nils/\i=0\/0<i/\vv = .sl K 11 0 i i/\gG s.M K=some (.row rw))/\nx<=K/\K<s.nx /\
  (∀j r,j<i->L[j]?=some r->c_ s.M K r ((rw.drop (j*11)).take 11))/\aq nx M s.M) L.length ⟨0,nx,.nils,[],af,af,?_⟩ ?_
 ·refine bR Hv ?_
  refine⟨.inl trivial,af,af,fun j e h=>absurd h (not_lt_zero _),aq.refl _ _⟩
 ·rintro m' ⟨env,M',nx'⟩ ⟨i,K,vv,rw',hi,ir,e2,dx,kW,vS,je,vi,Gg,Gh,fF,ha⟩
  simp only at e2 dx kW vS vi Gh fF ha;by_cases aL:(i:Int)<L.length
  ·have aP:i<L.length:=af
   obtain⟨r,hr⟩:∃r,L[i]?=some r:=⟨L[i],by simp[aP]⟩;have bV:=eF i;obtain⟨n,o,jw,bC,aU⟩:=cw.elem (P:=ao) aP (t:=22) (t':=47) jp.2.2.2.1 il.1;have aU:=aU M' (ha.le hh);have ZK:=hR i r hr;obtain⟨pk,pa,pb,pv,ve,dI,⟨p1,p2⟩,⟨q1,q2⟩,_⟩:=ZK.cells;rw[dI]at aU ZK;refine ii Hv e2 dx kW vS aL bC aU p1 p2 q1 q2 ?_;generalize xu:aG (aG M' (nx'+3) _) (nx'+3) _=M1;have a1:aq nx' M' M1:=by rw[<-xu];exact O
   clear xu;obtain⟨FY,sS⟩:=ip r (mem_of_getElem? hr);refine gQ (Tv ρ (ZK.agr (ha.trans (a1.le af))) af FY sS) ?_;rintro⟨u,M2,n2⟩ ⟨⟨cs,g1,g2⟩,g3,g4⟩;simp only at g1 g2 g3 g4;subst g1;have a2:aq nx' M' M2:=a1.trans (g3.le af);have g2K:∀(H:Hp) (K':Nat),n2<=K'->(∀q,q<n2->q≠K->gG H q=gG M2 q)->c_ H K' r cs:=fun H K' Ml hH=>c_.pp.2 (g2.keep fun q hq=>by
    unfold PK at hq;exact⟨hH q af af,show q<K' by omega⟩)
   have g2:=g2K M2 n2 (Nat.le_refl _) fun _ _ _=>rfl
   clear p1 p2 q1 q2 dI ZK;obtain⟨pk,pa,pb,pv,ve,dI,⟨p1,p2⟩,⟨q1,q2⟩,_⟩:=g2.cells;have CL:cs.length=11:=by rw[dI];rfl
   have qB:∀(H:Hp) (K':Nat) (oQ:List XV),n2<=K'->oQ=rw'++cs->(∀q,q<n2->q≠K->gG H q=gG M2 q)->∀j r',j<i+1->L[j]?=some r'->c_ H K' r' ((oQ.drop (j*11)).take 11):=fun H K' oQ Ml Oe hH j r' hj sA=>by
    subst Oe;rw[mf je CL hj];split
    ·rename_i kX
     exact c_.pp.2 ((c_.pp.1 (fF j r' kX sA)).keep fun q hq=>⟨by have hq:q<K:=hq;rw[hH q af af,a2 q af],by have hq:q<K:=hq;show q<K';omega⟩)
    ·have:j=i:=af
     subst this;rw[hr]at sA;cases sA;exact g2K H K' Ml hH
   rcases vi with ⟨rfl,rfl⟩ | ⟨AW,rfl,hK⟩
   ·have mP:rw'=[]:=length_eq_zero_iff.1 af
    subst mP;rw[dI]at qB;subst dI;have MJ:IntKind.i64.wrap (0+1)=((1:Nat):Int):=ak;refine dp Hv p1 p2 q1 q2 MJ e2 dx kW vS ?_;refine⟨L.length - 1,af,1,n2+1,_,_,af,rfl,rfl,rfl,rfl,.inr ⟨af,rfl,if_pos (show aw _ _ from rfl)⟩,af,af,qB _ (n2+1) _ af rfl fun q hq nP=>J,fun q hq=>?_⟩;have:=(a2 q af).trans (ha q hq);exact J
   ·have qK:=(a2 K af).trans hK
    have kB:rw'.take (i*11)=rw':=take_of_length_le af;rw[dI]at qB;subst dI;refine ii Hv qK je kB p1 p2 q1 q2 bV e2 dx (aI kW vS) ?_;refine⟨L.length - (i+1),af,i+1,n2+1,_,_,af,rfl,rfl,rfl,by rw[length_append,je];simp only[length_cons,length_nil];omega,.inr ⟨af,rfl,if_pos (show aw _ _ from rfl)⟩,af,af,qB _ (n2+1) _ af rfl fun q hq nP=>J,fun q hq=>?_⟩;have:=(a2 q af).trans (ha q hq);exact J
  ·have gB:i=L.length:=af
   refine iC Hv e2 dx kW vS aL ?_;refine⟨⟨rw',⟨af,?_⟩,fun j r hr=>(fF j r (by have:=(List.getElem?_eq_some_iff.1 hr).1;omega) hr).wk af⟩,ha,af⟩;rcases vi with ⟨rfl,h0⟩ | ⟨h0,rfl,hK⟩
   ·exact .inl ⟨rfl,af,length_eq_zero_iff.1 af⟩
   ·exact .inr ⟨K,0,i,rw',by rw[gB],af,by unfold vR;rw[hK],af,by rw[drop_zero,take_of_length_le af]⟩
theorem nw:∀{ys:List Int},ys.Pairwise (· <= ·)->ys.Nodup->ys.Pairwise (· < ·)
 | [],_,_=>.nil
 | a::ys,h,hn=>by
   rw[pairwise_cons]at h ⊢;rw[nodup_cons]at hn;refine⟨fun b hb=>?_,nw h.2 hn.2⟩;have h1:=h.1 b hb;have:a≠b:=fun e=>hn.1 (by rw[e];exact hb)
   omega
def Fj (S:HS) (ys:List Int):Prop:=ys.Pairwise (· < ·)/\∀x,x ∈ ys ↔ (S.obj x).isSome=true
theorem f42 (hS:kL) (hN:kJ) (ρ:aK) (j9:ρ.det=false) (H:bX M lo hi h S) (hh:hi<=nx) (few:∀l:List Int,l.Nodup->(∀x ∈ l,(S.obj x).isSome=true)->l.length<=4000) :
 ar ao ρ 42 [.mp h 0] M nx fun r=>(∃ys:List Int,Fj S ys/\bE r.2.1 r.2.2 r.1 1 ys.length (ys.map (XV.int .u64)))/\aq nx M r.2.1/\nx<=r.2.2:=by
 obtain⟨tag,vrec,vtxs,vcom,vmods,vlook,nk,vk,ok,cn,cv,co,ptrs,lnum,lver,lobj,H⟩:=H;have hr:=H.row;have VM:=H.obj;obtain⟨FX,UE⟩:=H.objS;have hoh:=H.ohi;have pB:∀x,x ∈ lobj.map (·.2.1) ↔ (S.obj x).isSome=true:=fun x=>by
  rw[<-UE x];constructor
  ·intro hx
   obtain⟨e,he,rfl⟩:=mem_map.1 hx;rw[gH FX.kd e he];rfl
  ·intro hx
   obtain⟨v,hv⟩:=isSome_iff_exists.1 hx;obtain⟨b,hb⟩:=ju hv;exact mem_map.2 ⟨_,hb,rfl⟩
 have Gl:lobj.length<=4000:=by
  have:=few (lobj.map (·.2.1)) FX.kd fun x hx=>(pB x).1 hx
  simpa using this
 clear H few UE;refine ar.wk 11 [.tmp 2] Tryz.func42 ?_;refine mI sJ hr ?_;refine gQ (f79 ρ _ _ ok) ?_;rintro⟨u,M2,n2⟩ ⟨box,g1,g2,g3,g4,g5,g6⟩;simp only at g1 g2 g3 g4 g5 g6;subst g1;have hob2:=(g5 ok af).trans VM;refine bR sJ ?_;refine gQ (f78 hS hN ρ j9 g4 hob2 FX af af Gl) ?_;rintro⟨u2,M3,n3⟩ ⟨⟨ys,y1,y2,y3⟩,g7,g8⟩;simp only at y3 g7 g8;refine bR sJ ?_;refine⟨⟨ys,⟨nw y2 (y1.nodup_iff.2 FX.kd),fun x=>(y1.mem_iff).trans (pB x)⟩,y3.sl.wk af⟩,(g5.le af).trans (g7.le af),af⟩
end
end Go.Xs
namespace Go.Xs
open List Nat Option
variable{M:Hp}{hi lo:Nat}{α:Type}
noncomputable section
open Go.Proofs
theorem di.wkLo {lo' hi' sz:Nat} {v:XV} {enc:α->List XV} {l:List α} (h:di M lo hi v sz enc l) (h1:lo'<=lo) (h2:hi<=hi'):di M lo' hi' v sz enc l :=
 dG.keep h fun q hq=>⟨rfl,Nat.le_trans h1 hq.1,Nat.lt_of_lt_of_le hq.2 h2⟩
def fD (named:List my) (pos t x:Int):my:=match named.find? fun k=>decide (k.x=x) with | some k=>k | none=>⟨pos,-1,t,x,0,0,true,false⟩
theorem pT {α:Type} {q:α->Bool}:∀{l:List α} {i j:Nat},eN q l i=(j:Int)->∃e,l[j - i]?=some e/\l.find? q=some e
 | [],i,j,h=>by simp[eN]at h
 | e::l,i,j,h=>by
   unfold eN at h;by_cases hq:q e=true
   ·rw[if_pos hq]at h
    have:j=i:=af;subst this;exact⟨e,by rw[Nat.sub_self];rfl,by simp[hq]⟩
   ·rw[if_neg hq]at h
    obtain⟨h1,h2,_⟩:=ud h;obtain⟨a,h3,h4⟩:=pT h;refine⟨a,by rw[show j - i=(j - (i+1))+1 by omega,getElem?_cons_succ];exact h3,?_⟩;rw[find?_cons,h4];simp[hq]
theorem KY {q:α->Bool} {l:List α} (h:eN q l 0<0):l.find? q=none:=by
 have:=uK (q:=q) l 0;rw[show decide (0<=eN q l 0)=false by simp;omega]at this;rw[List.find?_eq_none];intro e he;have:=List.any_eq_false.1 this.symm e he;simpa using this
theorem nZ (hS:kL) (hN:kJ) (ρ:aK) (j9:ρ.det=false) {nx h:Nat} {S:HS} {L:List aR} (H:bX M lo hi h S) (hh:hi<=nx) (hn:S.nrec=L.length) (hR:∀j r,L[j]?=some r->c_ M nx r ((S.crec.drop (j*11)).take 11))
 (hl:L.length<=100000) (ip:∀r ∈ L,dV r.p<=100000/\r.es.length<=100000) (MD:S.looks.length<=100000) (few:∀l:List Int,l.Nodup->(∀x ∈ l,(S.obj x).isSome=true)->l.length<=4000)
 {j:Nat} {r:aR} (hj:L[j]?=some r) (hk:r.kind=5) :
 ar ao ρ 14 [.mp h 0,.int .i64 j] M nx fun o=>∃ys,Fj S ys/\og nx M 8 cX (ys.map (fD (cU S j) j r.t)) o:=by
 have yY:=(List.getElem?_eq_some_iff.1 hj).1;have ZZ:¬ ((j:Int)<0):=af;refine ar.wk 58 [.tmp 4] Tryz.func14 ?_;refine mI z_ ZZ ?_;refine lG (f39 ρ H af) fun M1 n1 g2 g3=>?_
 have hjn:¬ ((S.nrec:Int)<=j):=af;refine mI z_ hjn ?_;have a1:aq nx M M1:=g2.le af;have H1:=H.agr (a1.le hh);refine gQ (yW ρ H1 af hn (fun j r hr=>((hR j r hr).agr a1).wk af) hl ip) ?_;rintro⟨u,M2,n2⟩ ⟨⟨row,cw,gS⟩,g4,g5⟩;simp only at cw gS g4 g5;have hrj:=gS j r hj;obtain⟨pk,pa,pb,pv,ve,dI,⟨p1,p2⟩,⟨q1,q2⟩,_⟩:=hrj.cells;obtain⟨n,o,jw,bC,aU⟩:=cw.elem (P:=ao) yY (t:=22) (t':=47) jp.2.2.2.1 il.1;have aU:=aU M2 (aq.refl _ _);rw[dI,hk]at aU;refine gw z_ bC aU p1 p2 q1 q2 ?_;generalize oM:aG (aG M2 (n2+3) _) (n2+3) _=M3;have a3:aq n2 M2 M3:=by rw[<-oM];exact O
 have z3:gG M3 (n2+3)=some (.row [.int .i64 5,.int .u64 r.t,.int .u64 r.x,.int .u64 r.w,.int .u64 r.n,.int .u64 r.v,.int .i64 pk,.int .u64 pa,.int .u64 pb,pv,ve]):=by rw[<-oM];exact J
 clear oM;generalize hE:aG _ 27 _=E;have t0:gG E 0=some (.mp h 0):=by rw[<-hE];exact J
 have t1:gG E 1=some (.int .i64 j):=by rw[<-hE];exact J
 have t4:gG E 4=some .nils:=by rw[<-hE];exact J
 have t5:gG E 5=some (.mp (n2+3) 0):=by rw[<-hE];exact J
 clear hE;have a4:aq nx M M3:=a1.trans ((g4.le af).trans (a3.le af));have H3:=H.agr (a4.le hh);refine gQ (f41 ρ H3 af MD j) ?_;rintro⟨u4,M4,n4⟩ ⟨g6,g7,g8⟩;simp only at g6 g7 g8;have F6:bE M4 n4 u4 8 (cU S j).length ((cU S j).flatMap cX):=g6.at fun k hk=>hk.2
 clear g6;have z4:=(g7 (n2+3) af).trans z3;have a5:aq nx M M4:=a4.trans (g7.le af);have H4:=H.agr (a5.le hh);refine mI z_ t0 ?_;refine gQ (f42 hS hN ρ j9 H4 af few) ?_;rintro⟨u5,M5,n5⟩ ⟨⟨ys,Oi,VM⟩,g9,RG⟩;simp only at VM g9 RG;have z5:=(g9 (n2+3) af).trans z4;have a6:aq nx M M5:=a5.trans (g9.le af);have Yy:=(F6.agr (g9.le af)).wk (b':=n5) af;clear F6 z4 z3 a3 a4 a5 H1 H3 H4 cw gS hrj dI bC aU hR ip g7 g9 g4 g2 H;have ay:=fun N=>VM.len (P:=ao) (t:=79) jM.2.2.2.2.2 N
 have VX:ys.length<=4000:=few ys (Oi.1.imp fun h=>af) fun x hx=>(Oi.2 x).1 hx
 refine iC z_ t0 t1 t4 t5 ay ?_;refine aC (fun m' s=>∃(i:Nat) (vv:XV),i<=ys.length/\m'=ys.length - i/\gG s.env 1=some (.int .i64 j)/\gG s.env 4=some vv/\gG s.env 5=some (.mp (n2+3) 0)/\gG s.env 6=some u4/\gG s.env 30=some u5/\gG s.env 31=some (.int .i64 ys.length)/\gG s.env 32=some (.int .i64 i) /\
  di s.M n5 s.nx vv 8 cX ((ys.take i).map (fD (cU S j) j r.t))/\aq n5 M5 s.M/\n5<=s.nx) ys.length ⟨0,.nils,af,af,?_⟩ ?_
 ·refine mY z_ t0 t1 t4 t5 ?_
  exact⟨dG.nil _ _,aq.refl _ _,af⟩
 ·rintro m' ⟨env,M',nx'⟩ ⟨i,vv,hi,ir,e1,e4,e5,e6,NI,XD,XG,hv,ha,F7⟩
  simp only at e1 e4 e5 e6 NI XD XG hv ha F7;by_cases aL:(i:Int)<ys.length
  ·have aP:i<ys.length:=af
   obtain⟨x,hx⟩:∃x,ys[i]?=some x:=⟨ys[i],by simp[aP]⟩;have bV:=eF i;have FZ:((ys.take i).map (fD (cU S j) j r.t)).length=i:=am;have kS:(ys.take (i+1)).map (fD (cU S j) j r.t)=(ys.take i).map (fD (cU S j) j r.t)++[fD (cU S j) j r.t x]:=by rw[take_add_one,hx];simp
   obtain⟨n',o',Yx,Zv,wO⟩:=VM.fldG (P:=ao) aP (t:=79) jM.2.2.2.1;have wO:=wO 0 (.int .u64 x) af (by simp[hx]) 31 1 dq.1 M' ha;rw[Nat.add_zero]at wO;have hz:=(ha (n2+3) af).trans z5;refine dw z_ e1 e4 e5 e6 NI XD XG aL Zv wO ?_;generalize hM6:aG (aG M' (nx'+3) _) (nx'+3) _=M6;have a7:aq nx' M' M6:=by rw[<-hM6];exact O
   have z8:gG M6 (nx'+3)=some (.row [.int .u64 x]):=by rw[<-hM6];exact J
   clear hM6;refine lG (f43 ρ ((Yy.agr ha).agr (a7.le F7)) af (fun k=>decide (k.x=x)) fun e _ M7 n7 ha7 hn7=>f44 ρ ((ha7 (nx'+3) af).trans z8) af e) fun M7 n7 g2 g3=>?_
   have a8:aq nx' M' M7:=a7.trans (g2.le af);have z9:=(g2 (nx'+3) af).trans z8;have hz7:=(a8 (n2+3) af).trans hz;have Wk:=hv.up (N:=M7) (fun q _ hq=>a8 q hq) (hi':=n7) af;clear g2 a7 z8 hz Zv wO;by_cases AW:eN (fun k:my=>decide (k.x=x)) (cU S j) 0<0
   ·have hso:fD (cU S j) j r.t x=⟨j,-1,r.t,x,0,0,true,false⟩:=by unfold fD;rw[KY AW]
    rw[hso]at kS;have dX:=Wk.push ⟨j,-1,r.t,x,0,0,true,false⟩ ao 48 56 [.int .i64 0,.int .i64 0,.int .u64 0,.int .u64 0,.int .u64 0,.int .u64 0,.bool false,.bool false] af af rfl (by simp only[fE];omega) rfl;simp only[cX]at dX;refine ii z_ e1 e4 e5 e6 NI XD XG AW hz7 z9 (aI dX bV) ?_;refine⟨ys.length - (i+1),af,i+1,_,af,rfl,rfl,rfl,?_,fun q hq=>?_,af⟩
    ·rw[kS]
     exact Wk.pushed _ af af rfl af
    ·rw[dG.push_old Wk _ (.inl hq) af]
     have:=(a8 q af).trans (ha q hq);exact J
   ·have F1:=ta (fun k:my=>decide (k.x=x)) (cU S j) 0
    obtain⟨p,hp⟩:∃p:Nat,eN (fun k:my=>decide (k.x=x)) (cU S j) 0=(p:Int):=⟨(eN (fun k:my=>decide (k.x=x)) (cU S j) 0).toNat,af⟩;obtain⟨e,X1,Uj⟩:=pT hp;rw[hp]at AW ⊢;have gE:=(List.getElem?_eq_some_iff.1 X1).1;have hso:fD (cU S j) j r.t x=e:=by unfold fD;rw[Uj]
    rw[hso]at kS;obtain⟨n',o',Yx,Zv,wO⟩:=(Yy.agr ha).elem (P:=ao) (i:=p) af (t:=48) (t':=51) jn.2.2.2.1 mH.1;have wO:=wO M7 (a8.le F7);rw[jK (by simpa using X1)]at wO;clear hp X1 Uj F1;have dX:=Wk.push e ao 48 56 [.int .i64 0,.int .i64 0,.int .u64 0,.int .u64 0,.int .u64 0,.int .u64 0,.bool false,.bool false] af af rfl (by simp only[fE];omega) rfl;simp only[cX]at dX wO;refine ii z_ e1 e4 e5 e6 NI XD XG AW Zv wO (aI dX bV) ?_;refine⟨ys.length - (i+1),af,i+1,_,af,rfl,rfl,rfl,?_,fun q hq=>?_,af⟩
    ·rw[kS]
     exact Wk.pushed _ af af rfl af
    ·rw[dG.push_old Wk _ (.inl hq) af]
     have:=(a8 q af).trans (ha q hq);exact J
  ·have gB:i=ys.length:=af
   refine iC z_ e4 NI XD XG aL ?_;rw[gB,take_length]at hv;unfold og;have hA:aq nx M M':=fun q hq=>(ha q af).trans (a6 q hq)
   exact⟨ys,Oi,di.wkLo hv af an,hA,an⟩
end
end Go.Xs
namespace Go.Xs
open List Nat Option
variable{M:Hp}{b nx o:Nat}{v:XV}
noncomputable section
open Go.Proofs
def Hl (M:Hp) (b nx n':Nat) (v:XV) (l:List bO):Prop:=∃rk sv,v = .mp rk 0/\(rk<b\/nx<=rk)/\rk<n'/\gG M rk=some (.row [sv])/\bE M b sv 4 l.length (l.flatMap aV)
theorem bE.up {b':Nat} {sz len:Nat} {row:List XV} (h:bE M b v sz len row) (hb:b<=b'):bE M b' v sz len row :=
 dN.lt ((bE.pp h).keep fun k hk=>⟨rfl,Nat.lt_of_lt_of_le hk hb⟩)
theorem Hl.at {n':Nat} {l:List bO} (h:Hl M b nx n' v l) (hb:b<=n'):kn M n' v l:=by
 obtain⟨rk,sv,h1,h2,h3,h4,h5⟩:=h;exact⟨rk,sv,h1,h3,h4,h5.up hb⟩
theorem TJ (ρ:aK) {f:Int->Option (List bO)} (h:ey M b o f) (hb:b<=nx) (x:Int):ar ao ρ 130 [.mp o 0,.int .u64 x] M nx fun r=>Hl r.2.1 b nx r.2.2 r.1 ((f x).getD [])/\aq nx M r.2.1/\nx<=r.2.2:=by
 obtain⟨ho,rm,c,l,h1,h2,h3,h4,h5⟩:=h;refine ar.wk 24 [.tmp 4] Tryz.func130 ?_;cases hx:aH l x with
 | none =>
   refine jz P0 h1 h3 hx ?_;refine⟨⟨_,.nils,rfl,.inr af,af,by rw[aB,if_pos rfl],?_⟩,(aq.refl _ _).set af _,af⟩;rw[h4 x hx];exact⟨aj,.inl ⟨rfl,rfl,rfl⟩⟩
 | some v =>
   obtain⟨ins,h6,rk,sv,rfl,h8,h9,Gf⟩:=h5 x v hx;refine jz P0 h1 h3 hx ?_;refine⟨⟨rk,sv,rfl,.inl h8,af,h9,?_⟩,aq.refl _ _,af⟩;rw[h6];exact Gf
def Bm:bO:=⟨0,0,0,0⟩
def mC (l:List bO) (w n:Int):Int×Bool:=if (ba l w n).2=false\/(ba l w n).1=0 then (0,false) else ((l[((ba l w n).1 - 1).toNat]?.getD Bm).wr,true)
theorem jt (l:List bO) (w n:Int):0<=(ba l w n).1/\(ba l w n).1<=l.length:=by
 unfold ba;split
 ·simp
 ·have:=ta (gi w n) l 0
  simp only;omega
theorem f84 (ρ:aK) {f:Int->Option (List bO)} (h:ey M b o f) (hb:b<=nx) (x w n:Int) :
 ar ao ρ 84 [.mp o 0,.int .u64 x,.agg [.int .u64 w,.int .u64 n]] M nx (fe nx M (.tup [.int .i64 (mC ((f x).getD []) w n).1,.bool (mC ((f x).getD []) w n).2])):=by
 refine ar.wk 38 [.tmp 6,.tmp 7] Tryz.func84 ?_;refine dt Lj ?_;generalize xu:aG M nx _=M1;have a1:aq nx M M1:=by rw[<-xu];exact O
 have z1:gG M1 nx=some (.row [.int .u64 w,.int .u64 n]):=by rw[<-xu];exact J
 clear xu;refine gQ (TJ ρ (h.agr (a1.le hb)) af x) ?_;rintro⟨u,M2,n2⟩ ⟨g1,g2,g3⟩;simp only at g1 g2 g3;have a2:aq nx M M2:=a1.trans (g2.le af);have z2:=(g2 nx af).trans z1;obtain⟨l,hl⟩:∃l,l=(f x).getD []:=⟨_,rfl⟩;rw[<-hl]at g1 ⊢;have DX:=g1.at af;obtain⟨rk,sv,e1,e0,e2,e3,e4⟩:=g1;subst e1;clear g2 h;refine fM Lj z2 ?_;refine lL (WI ρ DX af w n) ak ?_ ?_
 ·refine dt Lj ?_;try exact⟨⟩
 rintro⟨u,M3,n3⟩ ⟨k1,k2,k3⟩;simp only at k1 k2 k3;subst k1;have a3:=a2.trans (k2.le af);have y3:=(k2 rk af).trans e3;have JZ:=jt l w n;have hz:=e4.1;cases uW:(ba l w n).2 with
 | false =>
   refine gk Lj uW @fe.eq_1 ?_;exact⟨by simp[mC,uW],a3,af⟩
 | true =>
   by_cases sV:(ba l w n).1=0
   ·refine jz Lj uW sV @fe.eq_1 ?_
    exact⟨by simp[mC,sV],a3,af⟩
   ·have uT:((ba l w n).1 - 1).toNat<l.length:=af
    obtain⟨e,gA⟩:∃e,l[((ba l w n).1 - 1).toNat]?=some e:=⟨l[((ba l w n).1 - 1).toNat],by simp[uT]⟩;have hw:IntKind.i64.wrap ((ba l w n).1 - 1)=((((ba l w n).1 - 1).toNat:Nat):Int):=by rw[wrap_i64 af af];omega
    obtain⟨q,o,Oc,bC,aU⟩:=e4.fldG (P:=ao) uT (t:=247) v9.2.2.2.1;have aU:=aU 2 (.int .i64 e.wr) af (by rw[jr l _ e gA];rfl) 3 1 dA.1 M3 (k2.le af);refine mD Lj uW sV y3 hw bC aU @fe.eq_1 ?_;refine⟨?_,a3,af⟩;unfold mC;rw[if_neg (by simp[uW,sV]),gA];rfl
end
end Go.Xs
namespace Go.Xs
open List Nat Option
noncomputable section
open Go.Proofs
def BF (e:bO):List XV:=[.int .u64 e.w,.int .u64 e.n]
theorem qO {α:Type} {f:α->List XV} {l:List α} {i:Nat} {e:α} (h:l[i]?=some e):(l.take (i+1)).flatMap f=(l.take i).flatMap f++f e:=by
 have:l.take (i+1)=l.take i++[e]:=by rw[take_add_one,h];rfl
 rw[this,flatMap_append];simp
theorem f82 (ρ:aK) {M:Hp} {nx b o:Nat} {f:Int->Option (List bO)} (h:ey M b o f) (hb:b<=nx) (x:Int) (few:((f x).getD []).length<=100000) :
 ar ao ρ 82 [.mp o 0,.int .u64 x] M nx fun r=>(∃K,r.1 = .sl K 2 0 (((f x).getD []).length+1) (((f x).getD []).length+1)/\nx<=K/\K<r.2.2/\gG r.2.1 K=some (.row ([.int .u64 0,.int .u64 0]++((f x).getD []).flatMap BF)))/\aq nx M r.2.1/\nx<=r.2.2:=by
 refine ar.wk 29 [.tmp 4] Tryz.func82 ?_;refine dt tz ?_;generalize xu:aG M (nx+2) _=M1;have a1:aq nx M M1:=by rw[<-xu];exact O
 have z0:gG M1 (nx+2)=some (.row [.int .u64 0,.int .u64 0]):=by rw[<-xu];exact J
 clear xu;refine gQ (TJ ρ (h.agr (a1.le hb)) af x) ?_;rintro⟨u,M2,n2⟩ ⟨g1,g2,g3⟩;simp only at g1 g2 g3;have a2:aq nx M M2:=a1.trans (g2.le af);have z3:=(g2 (nx+2) af).trans z0;obtain⟨l,hl⟩:∃l,l=(f x).getD []:=⟨_,rfl⟩;rw[<-hl]at g1 few ⊢;obtain⟨rk,sv,e1,e0,e2,e3,e4⟩:=g1;subst e1;clear g2 h;have ay:=fun N=>e4.len (P:=ao) (t:=247) v9.2.2.2.2.2 N
 have hz:=e4.1;refine gk tz e3 ay ?_;refine aC (fun m' s=>∃(i K:Nat),i<=l.length/\m'=l.length - i/\gG s.env 5=some (.sl K 2 0 (i+1) (i+1))/\gG s.env 16=some sv/\gG s.env 17=some (.int .i64 l.length)/\gG s.env 18=some (.int .i64 i) /\
  nx<=K/\K<s.nx/\gG s.M K=some (.row ([.int .u64 0,.int .u64 0]++(l.take i).flatMap BF))/\aq nx M2 s.M/\n2<=s.nx) l.length ⟨0,nx+2,af,af,?_⟩ ?_
 ·refine dt tz ?_
  exact⟨af,af,by simpa using z3,aq.refl _ _,af⟩
 ·rintro m' ⟨env,M',nx'⟩ ⟨i,K,hi,ir,fP,GS,G7,Hb,Gg,Gh,hv,ha,hn⟩
  simp only at fP GS G7 Hb Gh hv ha hn;by_cases aL:(i:Int)<l.length
  ·have aP:i<l.length:=af
   obtain⟨e,gA⟩:∃e,l[i]?=some e:=⟨l[i],by simp[aP]⟩;obtain⟨q,o,Oc,bC,aU⟩:=e4.elem (P:=ao) aP (t:=247) (t':=253) v9.2.2.2.1 mz.1;have aU:=aU M' (ha.le af);rw[jr l i e gA]at aU;simp only[aV]at aU;have bV:=eF i;have bw:=qO (f:=BF) gA;obtain⟨cs,dI⟩:∃cs,cs=[XV.int .u64 0,XV.int .u64 0]++(l.take i).flatMap BF:=⟨_,rfl⟩;rw[<-dI]at hv;have cF:cs.length=(i+1)*2:=by
    rw[dI,length_append,fg (sz:=2) (fun a=>rfl),length_take];simp only[length_cons,length_nil];omega
   have kB:List.take ((i+1)*2) cs=cs:=take_of_length_le af;refine yq tz fP GS G7 Hb aL bC aU bV hv cF kB ?_;refine⟨l.length - (i+1),af,i+1,nx'+9,af,rfl,rfl,rfl,af,af,?_,fun q hq=>?_,af⟩
   ·rw[if_pos (show aw (nx'+9) (nx'+9) from rfl),dI,bw]
    simp[BF]
   ·have:=ha q hq
    exact J
  ·have gB:l.take i=l:=take_of_length_le af
   have uT:i=l.length:=af;rw[gB]at hv;rw[uT]at fP;refine ul tz fP GS G7 Hb aL ?_;exact⟨⟨K,rfl,Gg,af,by simpa using hv⟩,(by(repeat (refine aq.set ?_ af _));exact a2.trans ha),af⟩
end
end Go.Xs
namespace Go.Xs
open List Nat Option
noncomputable section
inductive OT where
 | none | ord | map | row (x:Int) | sl (x:Int)
structure oh (M:Hp) (lo hi o rm c:Nat) (l:List (Nat×Int×XV)) (tag:Nat->OT) (f:Int->List bO):Prop where
 olo:lo<=o
 ohi:o<hi
 otg:tag o = .ord
 orow:gG M o=some (.row [.mm rm])
 rlo:lo<=rm
 rhi:rm<hi
 rtg:tag rm = .map
 map:gG M rm=some (.map (cx vX l) c)
 born:kD l c
 none:∀x,aH l x = .none->f x=[]
 some:∀x v,aH l x = .some v->∃rk sv,v = .mp rk 0/\lo<=rk/\rk<hi/\tag rk = .row x/\gG M rk = .some (.row [sv])/\f x≠[]/\bS M lo hi tag (.sl x) sv 4 (f x).length ((f x).flatMap aV)
variable {M M':Hp} {lo hi hi' o rm c c':Nat} {l l':List (Nat×Int×XV)} {tag tag':Nat->OT} {f:Int->List bO}
theorem oh.agr (H:oh M lo hi o rm c l tag f) (ha:aq hi M M'):oh M' lo hi o rm c l tag f :=
 { olo:=H.olo,ohi:=H.ohi,otg:=H.otg,orow:=(ha o H.ohi).trans H.orow,rlo:=H.rlo,rhi:=H.rhi,rtg:=H.rtg,map:=(ha rm H.rhi).trans H.map,born:=H.born,none:=H.none
   some:=fun x v hx=>by
    obtain⟨rk,sv,h1,h2,h3,h4,h5,h6,h7⟩:=H.some x v hx;exact⟨rk,sv,h1,h2,h3,h4,(ha rk h3).trans h5,h6,h7.agr ha (Nat.le_refl _)⟩ }
theorem oh.up (H:oh M lo hi o rm c l tag f) (hh:hi<=hi') (cH:∀k,k<hi->tag' k=tag k):oh M lo hi' o rm c l tag' f :=
 { olo:=H.olo,ohi:=Nat.lt_of_lt_of_le H.ohi hh,otg:=by rw[cH o H.ohi];exact H.otg,orow:=H.orow,rlo:=H.rlo,rhi:=Nat.lt_of_lt_of_le H.rhi hh,rtg:=by rw[cH rm H.rhi];exact H.rtg,map:=H.map,born:=H.born,none:=H.none
   some:=fun x v hx=>by
    obtain⟨rk,sv,h1,h2,h3,h4,h5,h6,h7⟩:=H.some x v hx;exact⟨rk,sv,h1,h2,Nat.lt_of_lt_of_le h3 hh,by rw[cH rk h3];exact h4,h5,h6,h7.keep (fun k hk hg=>⟨rfl,by rw[cH k hk];exact hg⟩) hh⟩ }
theorem oh.set {x:Int} {rk:Nat} {sv':XV} {g:List bO} (H:oh M lo hi o rm c l tag f) (hx:aH l x = .some (.mp rk 0))
 (keep:∀k,k<hi->tag k ≠ .row x->tag k ≠ .sl x->gG M' k=gG M k) (cH:∀k,k<hi->tag' k=tag k) (hh:hi<=hi') (bA:gG M' rk = .some (.row [sv'])) (hg:g≠[]) (cw:bS M' lo hi' tag' (.sl x) sv' 4 g.length (g.flatMap aV)) :
 oh M' lo hi' o rm c l tag' (fun y=>if y=x then g else f y) :=
 { olo:=H.olo,ohi:=Nat.lt_of_lt_of_le H.ohi hh,otg:=by rw[cH o H.ohi];exact H.otg,orow:=(keep o H.ohi (by rw[H.otg];simp) (by rw[H.otg];simp)).trans H.orow
   rlo:=H.rlo,rhi:=Nat.lt_of_lt_of_le H.rhi hh,rtg:=by rw[cH rm H.rhi];exact H.rtg,map:=(keep rm H.rhi (by rw[H.rtg];simp) (by rw[H.rtg];simp)).trans H.map,born:=H.born
   none:=fun y hy=>by
    have:y≠x:=fun e=>by rw[e,hx]at hy;cases hy
    simp only[if_neg this];exact H.none y hy
   some:=fun y v hy=>by
    by_cases e:y=x
    ·subst e
     rw[hx]at hy;cases hy;obtain⟨rk',sv,h1,h2,h3,h4,h5,h6,h7⟩:=H.some y _ hx;cases h1;simp only[if_true];exact⟨rk,sv',rfl,h2,Nat.lt_of_lt_of_le h3 hh,by rw[cH rk h3];exact h4,bA,hg,cw⟩
    ·obtain⟨rk',sv,h1,h2,h3,h4,h5,h6,h7⟩:=H.some y v hy
     simp only[if_neg e];exact⟨rk',sv,h1,h2,Nat.lt_of_lt_of_le h3 hh,by rw[cH rk' h3];exact h4,(keep rk' h3 (by rw[h4];simp[e]) (by rw[h4];simp)).trans h5,h6,h7.keep (fun k hk hg=>⟨keep k hk (by rw[hg];simp) (by rw[hg];simp[e]),by rw[cH k hk];exact hg⟩) hh⟩ }
theorem oh.add {x:Int} {rk:Nat} {sv':XV} {g:List bO} (H:oh M lo hi o rm c l tag f) (hx:aH l x = .none)
 (keep:∀k,k<hi->k≠rm->gG M' k=gG M k) (cH:∀k,k<hi->tag' k=tag k) (hh:hi<=hi') (yQ:gG M' rm = .some (.map (cx vX (dD l c x (.mp rk 0))) (lB l c x))) (rlo:hi<=rk) (rhi:rk<hi') (rtg:tag' rk = .row x) (bA:gG M' rk = .some (.row [sv'])) (hg:g≠[]) (cw:bS M' lo hi' tag' (.sl x) sv' 4 g.length (g.flatMap aV)) :
 oh M' lo hi' o rm (lB l c x) (dD l c x (.mp rk 0)) tag' (fun y=>if y=x then g else f y) :=
 { olo:=H.olo,ohi:=Nat.lt_of_lt_of_le H.ohi hh,otg:=by rw[cH o H.ohi];exact H.otg,orow:=(keep o H.ohi fun e=>by have:=H.otg;rw[e,H.rtg]at this;cases this).trans H.orow
   rlo:=H.rlo,rhi:=Nat.lt_of_lt_of_le H.rhi hh,rtg:=by rw[cH rm H.rhi];exact H.rtg,map:=yQ,born:=zV H.born
   none:=fun y hy=>by
    rw[cQ]at hy;split at hy
    ·cases hy
    ·rename_i e
     simp only[if_neg e];exact H.none y hy
   some:=fun y v hy=>by
    rw[cQ]at hy;split at hy
    ·rename_i e
     subst e;cases hy;simp only[if_true];exact⟨rk,sv',rfl,by have:=H.olo;have:=H.ohi;omega,rhi,rtg,bA,hg,cw⟩
    ·rename_i e
     obtain⟨rk',sv,h1,h2,h3,h4,h5,h6,h7⟩:=H.some y v hy;simp only[if_neg e];have ne:∀k,k<hi->tag k ≠ .map->k≠rm:=fun k _ h e=>h (by rw[e];exact H.rtg)
     exact⟨rk',sv,h1,h2,Nat.lt_of_lt_of_le h3 hh,by rw[cH rk' h3];exact h4,(keep rk' h3 (ne rk' h3 (by rw[h4];simp))).trans h5,h6,h7.keep (fun k hk hg=>⟨keep k hk (ne k hk (by rw[hg];simp)),by rw[cH k hk];exact hg⟩) hh⟩ }
end
end Go.Xs
