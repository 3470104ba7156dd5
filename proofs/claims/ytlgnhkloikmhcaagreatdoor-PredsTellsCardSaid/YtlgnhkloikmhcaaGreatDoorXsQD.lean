/- A part: the walk. -/
import Derived.Test.YtlgnhkloikmhcaaGreatDoorXsQC
set_option maxRecDepth 100000
set_option maxHeartbeats 8000000
set_option linter.all false
set_option linter.deprecated false
open Array renaming ext'->abz,getElem?_push->acx
open Bool renaming and_eq_true->aaF,false_eq_true->aay,true_and->adj
open Go.IntKind renaming u64->abW
open Go.Proofs.Tryz renaming func30->ab7,func68->adq,underlying3->acM,underlying31->abJ
open Go.Result renaming andThen_ok->aar
open Go.Sem renaming run_bind->aav,run_pure->aaA
open Go.World renaming putObj_heap_other->aa0
open Int renaming cast_ofNat_Int->acr
open List renaming all_eq_true->aa4,getElem?_eq_some_iff->aaq,range->aa7,take->abP,cons_append->aa8,drop_eq_getElem_cons->aaV,drop_eq_nil_of_le->aaM,ext_getElem?->adz,filter_cons->abS,flatMap_append->abL,flatMap_cons->aaN,getElem?_cons_succ->aa1,getElem?_cons_zero->aaI,getElem?_eq_getElem->aaR,getElem?_of_mem->acO,length_append->aau,length_cons->aaw,length_eq_zero_iff->aaG,length_filter_le->abh,length_map->abd,length_nil->aaO,length_take->aaS,map_append->abV,map_cons->aa3,mem_append_left->abv,mem_cons->aaK,mem_cons_of_mem->aaJ,mem_cons_self->aaC,mem_filter->abQ,mem_map->ab6,mem_of_getElem?->aaH,mem_range->ady,mem_singleton->aaE,nil_append->abp,nodup_cons->acL,not_mem_nil->aaZ,take_add_one->aba,take_length->aa6,take_of_length_le->aaz,take_succ_cons->abt
open List.cons renaming injEq->abI
open Nat renaming add_mul->abZ,add_zero->aaX,beq->aaW,blt->abc,le_refl->u7,le_trans->aaT,lt_of_lt_of_le->aax,eq_of_beq_eq_true->aaB,lt_succ_self->aby
open Option.some renaming injEq->aat
namespace Go.Xs
open List Nat Option
variable{K:bg->XS->Prop}{L:List aR}{M' N N':Hp}{R:ew->Prop}{S:HS}{after:Array Edge}{args caps cs rs:List XV}{b clock g h hi i key lo m mn o sz:Nat}{fn:Func}{pos:String}{ps:List (Int×Int)}{q:Nat->Prop}{r:aR}{s:XS}{ty:TypeId}{vend vnames vnum vrows:XV}{Γ:cc}{α:Type}
noncomputable section
abbrev YW:=List XV->Hp->Nat->(Hp->Nat->Prop)->Prop
section
variable {P:Program} {a:Act} {w w' w0:World} {ρ:aK} {σ σ' σ0:cb} {M N M' M0:Hp} {env be:eX} {ds:List Deferred} {nx nx0 n:Nat}
def HdW (P:Program) (ρ:aK) (w0:World) (σ0:cb) (M0:Hp) (nx0:Nat) (l:Nat) (rec:Loop) (H:YW):Prop :=
 ∀args M nx Q,H args M nx Q->∀w σ us,Ok ρ w σ M->(∀k,nx<=k->σ k=none)->zN w0 σ0 M0 w σ M->nx0<=nx->c_ ρ σ args us ->
  us.length=rec.params.size/\∀fr,RoundIn (FW fr) 0 P l rec.fn ((rec.params.zip us.toArray).foldl (fun tmps (t,a)=>tmps.setIfInBounds t a) rec.tmps) rec.assign rec.body w
   fun e w'=>e = .returned (.bool true)/\∃M' nx',Q M' nx'/\∃σ',Ok ρ w' σ' M'/\zN w σ M w' σ' M'/\nx<=nx'/\∀k,σ' k=σ k\/(nx<=k/\k<nx')
def Rx (P:Program) (ρ:aK) (w0:World) (σ0:cb) (M0:Hp) (nx0:Nat):Option (Nat×YW)->Prop
 | none=>True
 | some (k,H)=>∃l rec room,σ0 k=some (l,room)/\oB w0 σ0 M0 l (.loop rec)/\HdW P ρ w0 σ0 M0 nx0 l rec H
theorem Rx.mono {Y:Option (Nat×YW)} (h:Rx P ρ w0 σ0 M0 nx0 Y) (e:zN w0 σ0 M0 w σ M) (jT:nx0<=nx):Rx P ρ w σ M nx Y:=by
 cases Y with
 | none=>trivial
 | some Y =>
   obtain⟨k,H⟩:=Y;obtain⟨l,rec,room,h1,h2,h3⟩:=h;exact⟨l,rec,room,e.sig _ _ h1,h2.ext e,fun args M' nx' Q hH w' σ' us aQ ce mM QS j_=>h3 args M' nx' Q hH w' σ' us aQ ce (e.trans mM) (aaT jT QS) j_⟩
def OQ (P:Program) (ρ:aK) (g:Nat) (args:List XV) (Y:Nat×YW) (M:Hp) (nx:Nat) (R:Hp->Nat->Prop):Prop :=
 ∀w σ vs,Ok ρ w σ M->(∀k,nx<=k->σ k=none)->c_ ρ σ args vs->Rx P ρ w σ M nx (some Y) ->
  (∃fn c,P.funcs[g]?=some fn/\fn.body=some c/\(fn.name == "runtime.NumGoroutine")=false) /\
  CallsIn (FW none) 0 P g vs.toArray w fun e w'=>(∃v,e = .returned v)/\∃M' nx',R M' nx'/\∃σ',Ok ρ w' σ' M'/\zN w σ M w' σ' M'/\nx<=nx'/\∀k,σ' k=σ k\/(nx<=k/\k<nx')
def xB (P:Program) (ρ:aK) (n:Nat) (asg body:Code) (ps:List Nat) (env:eX):YW:=fun args M nx Q =>
 ∃be,qj n ps args env=some be/\wx P ρ n asg (fun e s=>e = .normal/\wx P ρ n body (fun e s'=>e = .normal/\Q s'.M s'.nx) s) ⟨be,M,nx⟩
def FT (P:Program) (ρ:aK) (n:Nat) (Y:Option (Nat×YW)) (all:List Oper):List Oper->XS->(XS->Prop)->Prop
 | [],s,Q=>Q s
 | o::os,s,Q=>match a_ all s.env o.guard with
   | none=>False
   | some false=>∃env,cu n s.env o.dst .udf=some env/\FT P ρ n Y all os ⟨env,s.M,s.nx⟩ Q
   | some true=>(OX P ρ s.env s.M s.nx o.op fun r=>∃env,cu n s.env o.dst r.1=some env/\FT P ρ n Y all os ⟨env,r.2.1,r.2.2⟩ Q) \/
     ∃c k H args,o.op = .call c/\Y=some (k,H)/\EU s.env c=some (k,args)/\H args s.M s.nx fun M' nx'=>∃env,cu n s.env o.dst (.bool true)=some env/\FT P ρ n Y all os ⟨env,M',nx'⟩ Q
theorem ob {Y:Option (Nat×YW)} {all:List Oper} {Q:XS->Prop} {post:List Oper}:∀(pre:List Oper) (s:XS),RN P ρ n all pre s (fun s=>FT P ρ n Y all post s Q)->FT P ρ n Y all (pre++post) s Q
 | [],s,h=>h
 | o::os,s,h=>by
   unfold RN at h;simp only[aa8];unfold FT;split at h<;>rename_i hg
   ·exact h.elim
   ·rw[hg]
    obtain⟨env,h1,h2⟩:=h;exact⟨env,h1,ob os _ h2⟩
   rw[hg];exact .inl (Dv h fun r ⟨env,h1,h2⟩=>⟨env,h1,ob os _ h2⟩)
def qD (P:Program) (ρ:aK) (n:Nat) (Y:Option (Nat×YW)):Code->(bg->XS->Prop)->XS->Prop
 | .skip,K,s=>K .normal s
 | .ret,K,s=>K .ret s
 | .exit id,K,s=>K (.exit id) s
 | .seq a b,K,s=>qD P ρ n Y a (fx (qD P ρ n Y b K) K) s
 | .block id c,K,s=>qD P ρ n Y c (fun e s'=>K (Cj id e) s') s
 | .cond c a b,K,s=>∃v,cG s.env c = .bool v/\(v=true->qD P ρ n Y a K s)/\(v=false->qD P ρ n Y b K s)
 | .loop c,K,s=>∃I:Nat->XS->Prop,(∃k,I k s)/\∀k s',I k s'->qD P ρ n Y c (w_ I k K) s'
 | .region id ops draw,K,s=>match draw with
   | false=>FT P ρ n Y ops.toList ops.toList s (K .normal)
   | true=>wx P ρ n (.region id ops true) K s
 | .rangeFunc g ps asg body,K,s=>∃h caps R,cG s.env g = .fn (.func h) [] caps/\OQ P ρ h (.yd s.nx::caps) (s.nx,xB P ρ n asg body ps.toList s.env) s.M (s.nx+1) R/\∀M' nx',R M' nx'->K .normal ⟨s.env,M',nx'⟩
 | _,_,_=>False
theorem Ix {Y:Option (Nat×YW)}:∀(c:Code) (K:bg->XS->Prop) (s:XS),wx P ρ n c K s->qD P ρ n Y c K s:=by
 intro c
 induction c with
 | skip=>intro K s h;exact h
 | ret=>intro K s h;exact h
 | exit id=>intro K s h;exact h
 | region id ops draw =>
   intro K s h;cases draw with
   | false =>
     have:ops.toList=ops.toList++[]:=af;simp only[qD]
     conv=>arg 6;rw[this]
     exact ob _ _ h
   | true=>exact h
 | seq x y ihx ihy =>
   intro K s h;refine ihx _ s (cC x _ _ s (fun e s' q=>?_) h);cases e with
   | normal=>exact ihy _ _ q
   | exit id=>exact q
   | ret=>exact q
 | cond c x y ihx ihy =>
   intro K s h;obtain⟨v,hv,h1,h2⟩:=h;exact⟨v,hv,fun e=>ihx _ s (h1 e),fun e=>ihy _ s (h2 e)⟩
 | block id c ih=>intro K s h;exact ih _ s h
 | loop c ih =>
   intro K s h;obtain⟨I,h0,h1⟩:=h;exact⟨I,h0,fun k s' hi=>ih _ _ (h1 k s' hi)⟩
 | _=>intro K s h;exact h.elim
theorem Eo (hp:P.follows .mixedOrders=true) {asg body:Code} {fn:FuncId} {tmps:Array Value} {ps:Array Tmp} {D l:Nat}
 (bI:fX ρ σ0 env tmps) (Ea:tmps.size=n) (hl:oB w0 σ0 M0 l (.loop { state:=.ready,pending:=none,fn,tmps,params:=ps,assign:=asg,body,defers:=D })) :
 HdW P ρ w0 σ0 M0 nx0 l { state:=.ready,pending:=none,fn,tmps,params:=ps,assign:=asg,body,defers:=D } (xB P ρ n asg body ps.toList env):=by
 intro args M nx Q ⟨be,he,h⟩ w σ us aQ ce mM jT j_;obtain⟨e1,e2,e3⟩:=uI ps.toList args us env be tmps he j_ (fun t v hv=>⟨(bI t v hv).1,(bI t v hv).2.mono mM.sig⟩) Ea;refine⟨by rw[e1];simp,fun fr=>?_⟩;refine roundIn_of_wpIn (F:=FW fr) (jh fr _) ?_;rw[Ng];have ez:((ps.zip us.toArray).foldl (fun tmps (t,a)=>tmps.setIfInBounds t a) tmps)=((ps.toList.zip us).foldl (fun tmps (t,a)=>tmps.setIfInBounds t a) tmps):=by rw[<-Array.foldl_toList];simp
 simp only[ez];have pG:=hl.ext mM;have aL:=pG.lt;refine Dh hp (fr:=some l) (B:=l+1) asg _ ⟨be,M,nx⟩ _ w σ h ⟨[],⟨e2,e3,aQ,ce,.refl w σ M,u7 _,fun _=>.inl rfl,rfl⟩,[],rfl,nodup_nil,fun _ h=>by cases h⟩ _ fun e s1 a1 w1 σ1 ⟨he1,h1⟩ ⟨Yp,bw,Bi⟩=>?_
 subst he1;have r1:=pG.ext bw.ext;refine⟨_,run_beginRound r1.here rfl,?_⟩;have s2:fV w1 σ1 s1.M (w1.putObj l (.loop { state:=.busy,pending:=none,fn,tmps,params:=ps,assign:=asg,body,defers:=D })):=fV.putObj r1 rfl _;have r2:oB (w1.putObj l (.loop { state:=.busy,pending:=none,fn,tmps,params:=ps,assign:=asg,body,defers:=D })) σ1 s1.M l (.loop { state:=.busy,pending:=none,fn,tmps,params:=ps,assign:=asg,body,defers:=D }):=r1.put;have bV:∀c,c≠l->(w1.putObj l (.loop { state:=.busy,pending:=none,fn,tmps,params:=ps,assign:=asg,body,defers:=D })).heap[c]?=w1.heap[c]?:=fun c hc=>aa0 hc
 generalize w1.putObj l (.loop { state:=.busy,pending:=none,fn,tmps,params:=ps,assign:=asg,body,defers:=D })=w2 at s2 r2 bV ⊢;have vj:=bw.ext.size;refine Dh hp (fr:=some l) (B:=l+1) body _ s1 a1 w2 σ1 h1 ⟨Yp,⟨bw.envr,bw.size,s2.ok bw.ok,bw.free,.refl _ _ _,u7 _,fun _=>.inl rfl,bw.def0⟩,?_⟩ _ fun e s3 a3 w3 σ3 ⟨he3,h3⟩ ⟨ds3,gT,_⟩=>?_
 ·obtain⟨Ds,q1,q2,q3⟩:=Bi
  exact⟨Ds,q1,q2,fun D hD=>⟨(q3 D hD).1,(q3 D hD).2.side (bV D (by have:=(q3 D hD).1;omega))⟩⟩
 subst he3;have r3:=r2.ext gT.ext;have s4:=fV.putObj r3 rfl (.loop { state:=.ready,pending:=none,fn,tmps,params:=ps,assign:=asg,body,defers:=D });refine⟨_,_,run_endRound none r3.here,rfl,s3.M,s3.nx,h3,σ3,s4.ok gT.ok,?_,aaT bw.le gT.le,fun k=>?_⟩
 ·have RU:=s2.size
  have hz3:=gT.ext.size;refine⟨gT.ext.os.trans (s2.os.trans bw.ext.os),gT.ext.tape.trans (s2.tape.trans bw.ext.tape),gT.ext.output.trans (s2.output.trans bw.ext.output),ak,fun c hc sy=>?_,fun c hc=>?_,fun k p hp=>gT.ext.sig k p (bw.ext.sig k p hp),fun c hc=>?_⟩
  ·by_cases cF:c=l
   ·subst cF
    rw[pG.here];exact World.putObj_heap_same r3.lt
   have QY:¬ eB σ1 s1.M c:=fun q=>by
    rcases bw.ext.own c q with q | q
    ·exact sy q
    omega
   refine(aa0 cF).trans ?_;rw[gT.ext.blk c aa QY,bV c cF,bw.ext.blk c hc sy]
  ·rcases gT.ext.own c hc with q | q
   ·exact bw.ext.own c q
   exact .inr aa
  rcases gT.ext.held c hc with q | q
  ·exact bw.ext.held c q
  exact .inr aa
 have CH:=gT.free k;have Uv:nx<=s1.nx:=bw.le;have ZL:s1.nx<=s3.nx:=gT.le;by_cases hk:s3.nx<=k;·left;rw[CH hk,ce k aa]
 rcases gT.old k with e | e
 ·rcases bw.old k with e' | e'
  ·left;rw[e,e']
  have e2:nx<=k:=e';right;omega
 right;omega
theorem xK {Y:Option (Nat×YW)} {all:List Oper} {fr:Option Nat} {Q:Exit->Act->World->Prop} {F:XS->Prop} (hY:Rx P ρ w0 σ0 M0 nx0 Y) :
 ∀(os:List Oper) (s:XS) (a:Act) (w:World) (σ:cb),FT P ρ n Y all os s F->St ds ρ w0 σ0 M0 nx0 n s a w σ ->
  (∀s' a' w' σ',F s'->St ds ρ w0 σ0 M0 nx0 n s' a' w' σ'->Q .normal a' w')->wpListIn (FW fr) 0 P all.toArray Q os a w
 | [],s,a,w,σ,h,hs,hQ=>hQ s a w σ h hs
 | o::os,s,a,w,σ,h,hs,hQ=>by
   unfold FT at h;unfold wpListIn;split at h<;>rename_i hg
   ·exact h.elim
   ·rw[iL hs.envr hg]
    rw[if_neg af];obtain⟨be,he,h⟩:=h;exact⟨fun f _=>jh fr f,xK hY os _ _ w σ h (hs.skip he) hQ⟩
   rw[iL hs.envr hg,if_pos rfl];rcases h with h | ⟨c,k,H,args,df,hYe,hy,hH⟩
   ·refine Ns hs.ok hs.envr hs.free h _ _ fun v w' ⟨r,⟨be,he,h'⟩,hp⟩=>?_
    obtain⟨σ',lJ⟩:=hs.step hp he;exact xK hY os _ _ w' σ' h' lJ hQ
   subst hYe;have hY0:=hY;obtain⟨l,rec,room,VP,h_,Mz⟩:=hY;obtain⟨us,b,room',hb,j_,gy⟩:=AG (P:=P) (w:=w) hs.envr df hy;rw[hs.ext.sig _ _ VP]at hb;cases hb;obtain⟨hz,CP⟩:=Mz args s.M s.nx _ hH w σ us hs.ok hs.free hs.ext hs.le j_;refine⟨fun f _=>jh fr f,?_⟩;rw[mZ,Oper.semAt_eq fr a.eval o (fun c' jY=>by rw[df]at jY;cases jY),gy,run_yield (h_.ext hs.ext).here (by simpa using hz)];refine⟨fun q=>(by rw[lD]at q;cases q),(CP fr).mono fun e w' hq=>?_⟩;obtain⟨rfl,M',nx',⟨be,he,h'⟩,σ',g1,g2,g3,g4⟩:=hq;obtain⟨σ2,lJ⟩:=hs.step (r:=(.bool true,M',nx')) (v:=.bool true) ⟨σ',by simp only[VR],g1,g2,g3,g4⟩ he;exact xK hY0 os _ _ w' σ2 h' lJ hQ
theorem He (hp:P.follows .mixedOrders=true):∀(c:Code) (Y:Option (Nat×YW)) (B:Nat) (w0:World) (σ0:cb) (M0:Hp) (nx0:Nat),Rx P ρ w0 σ0 M0 nx0 Y->B<=w0.heap.size ->
 ∀(K:bg->XS->Prop) (s:XS) (a:Act) (w:World) (σ:cb),qD P ρ n Y c K s->Sm ρ B w0 σ0 M0 nx0 n s a w σ ->
 ∀Qm:Exit->Act->World->Prop,(∀e s' a' w' σ',K e s'->Sm ρ B w0 σ0 M0 nx0 n s' a' w' σ'->Qm e.to a' w')->c.wpIn (FW none) 0 P Qm a w:=by
 intro c
 induction c with
 | skip=>intro Y B w0 σ0 M0 nx0 hY hB K s a w σ h hs Qm hQ;exact wpIn_skip (hQ .normal s a w σ h hs)
 | ret=>intro Y B w0 σ0 M0 nx0 hY hB K s a w σ h hs Qm hQ;exact wpIn_ret (hQ .ret s a w σ h hs)
 | exit id=>intro Y B w0 σ0 M0 nx0 hY hB K s a w σ h hs Qm hQ;exact wpIn_exit (hQ (.exit id) s a w σ h hs)
 | region id ops draw =>
   intro Y B w0 σ0 M0 nx0 hY hB K s a w σ h ⟨ds,hs,hk⟩ Qm hQ;cases draw with
   | true=>exact Dh hp _ K s a w σ h ⟨ds,hs,hk⟩ Qm hQ
   | false =>
     simp only[qD]at h;refine wpIn_region_list ?_;have:=xK (fr:=none) (Q:=Qm) (hY.mono hs.ext hs.le) ops.toList s a w σ h hs.rebase fun s' a' w' σ' hF bw=>hQ .normal s' a' w' σ' hF ⟨ds,hs.join bw,hk.ext bw.ext⟩
     simpa using this
 | seq x y ihx ihy =>
   intro Y B w0 σ0 M0 nx0 hY hB K s a w σ h hs Qm hQ;refine wpIn_seq (ihx Y B w0 σ0 M0 nx0 hY hB _ s a w σ h hs _ fun e s' a' w' σ' hK bw=>?_);cases e with
   | normal=>exact ihy Y B w0 σ0 M0 nx0 hY hB K s' a' w' σ' hK bw Qm hQ
   | exit id=>exact hQ (.exit id) s' a' w' σ' hK bw
   | ret=>exact hQ .ret s' a' w' σ' hK bw
 | cond c x y ihx ihy =>
   intro Y B w0 σ0 M0 nx0 hY hB K s a w σ h hs Qm hQ;obtain⟨v,hv,h1,h2⟩:=h;have US:VR ρ σ (cG s.env c) (a.eval c):=let ⟨_,bw,_⟩:=hs;bf bw.envr c
   rw[hv]at US;simp only[VR]at US;exact wpIn_cond_split US (fun e=>ihx Y B w0 σ0 M0 nx0 hY hB K s a w σ (h1 e) hs Qm hQ) fun e=>ihy Y B w0 σ0 M0 nx0 hY hB K s a w σ (h2 e) hs Qm hQ
 | block id c ih =>
   intro Y B w0 σ0 M0 nx0 hY hB K s a w σ h hs Qm hQ;refine wpIn_block (ih Y B w0 σ0 M0 nx0 hY hB _ s a w σ h hs _ fun e s' a' w' σ' hK bw=>?_);have:=hQ (Cj id e) s' a' w' σ' hK bw;cases e with
   | normal=>exact this
   | ret=>exact this
   | exit i =>
     simp only[bg.to,Exit.inBlock];simp only[Cj]at this;cases hb:aaW i id with
     | true =>
       rw[hb]at this;rw[if_pos (aaB hb)];exact this
     | false =>
       rw[hb]at this;rw[if_neg (ne_of_beq_eq_false hb)];exact this
 | loop c ih =>
   intro Y B w0 σ0 M0 nx0 hY hB K s a w σ h hs Qm hQ;obtain⟨I,⟨k0,h0⟩,hr⟩:=h;refine wpIn_loop_ghost (fun k a w=>∃s σ,I k s/\Sm ρ B w0 σ0 M0 nx0 n s a w σ) k0 ⟨s,σ,h0,hs⟩ ?_;rintro k a w ⟨s,σ,hi,bw⟩;refine ih Y B w0 σ0 M0 nx0 hY hB _ s a w σ (hr k s hi) bw _ fun e s' a' w' σ' hK kU=>?_
   cases e with
   | normal =>
     obtain⟨j,hj,mS⟩:=hK;exact⟨j,hj,s',σ',mS,kU⟩
   | exit id=>exact hQ (.exit id) s' a' w' σ' hK kU
   | ret=>exact hQ .ret s' a' w' σ' hK kU
 | rangeFunc f ps asg body iha ihb =>
   intro Y B w0 σ0 M0 nx0 hY hB K s a w σ h ⟨ds,hs,hk⟩ Qm hQ;obtain⟨g,caps,RR,Jz,hI,hKR⟩:=h;have hv:=bf hs.envr f;rw[Jz]at hv;simp only[VR,c_]at hv;obtain⟨us0,us,j_,CM,Jt⟩:=hv;have CM:us0 = #[]:=by apply abz;simpa using CM
   subst CM;refine wpIn_rangeFunc ?_;intro fc _;obtain⟨R,hR⟩:∃R:Loop,R = { state:=.ready,pending:=none,fn:=fc,tmps:=a.tmps,params:=ps,assign:=asg,body,defers:=w.heap.size }:=⟨_,rfl⟩;obtain⟨W1,Mo⟩:=aap ((w.alloc (.deferred (some []))).alloc (.loop R));have vj:(w.alloc (.deferred (some []))).heap.size=w.heap.size+1:=World.size_alloc ..;have s1:fV w σ s.M (w.alloc (.deferred (some []))):=fV.alloc hs.ok _;have Rd:=s1.ok hs.ok;have s2:fV (w.alloc (.deferred (some []))) σ s.M W1:=by rw[Mo];exact fV.alloc Rd _
   have d1:oB (w.alloc (.deferred (some []))) σ s.M w.heap.size (.deferred (some [])):=oB.new hs.ok _;have Yo:∀b,b<w.heap.size->(w.alloc (.deferred (some []))).heap[b]?=w.heap[b]?:=fun b hb=>by show (w.heap.push _)[b]?=_;rw[acx,if_neg aa]
   have TQ:∀b,b<w.heap.size+1->W1.heap[b]?=(w.alloc (.deferred (some []))).heap[b]?:=fun b hb=>by rw[Mo];show ((w.alloc _).heap.push _)[b]?=_;rw[acx,if_neg aa]
   have d2:oB W1 σ s.M w.heap.size (.deferred (some [])):=d1.side (TQ _ aa);have r2:oB W1 σ s.M (w.heap.size+1) (.loop R):=by have:=oB.new (o:=.loop R) Rd;rw[vj]at this;rw[Mo];exact this
   have x2:zN w σ s.M W1 σ s.M:=s2.ext (s1.ext (.refl _ _ _) fun b hb _=>Yo b hb) fun b hb _=>TQ b aa
   obtain⟨ok3,x3⟩:=(s2.ok Rd).upd (hs.free s.nx (u7 _)) (w.heap.size+1,0);have hσ1:∀k,s.nx+1<=k->(σ.upd s.nx (w.heap.size+1,0)) k=none:=fun k hk=>by rw[cb.upd_other _ _ aa];exact hs.free k aa
   have x13:=x2.trans x3;have r3:=r2.ext x3;have d3:=d2.ext x3;have aX:c_ ρ (σ.upd s.nx (w.heap.size+1,0)) (.yd s.nx::caps) (.func (.yield (w.heap.size+1)) #[] #[]::us.toList):=by simp only[c_,VR];exact⟨_,_,rfl,⟨_,_,cb.upd_same ..,rfl⟩,Jt.mono x13.sig⟩
   have Jy:fX ρ (σ.upd s.nx (w.heap.size+1,0)) s.env a.tmps:=fun t v hv=>⟨(hs.envr t v hv).1,(hs.envr t v hv).2.mono x13.sig⟩
   have Mz:=Eo (nx0:=s.nx+1) hp (asg:=asg) (body:=body) (fn:=fc) (ps:=ps) (D:=w.heap.size) Jy hs.size (by rw[<-hR];exact r3);rw[<-hR]at Mz;obtain⟨⟨fn,c,QK,Js,Su⟩,CG⟩:=hI W1 _ _ ok3 hσ1 aX ⟨w.heap.size+1,R,0,cb.upd_same ..,r3,Mz⟩;refine⟨w.heap.size+1,[nK w.heap.size],W1,{ target:=.fn (.func g) us,args:=#[.func (.yield (w.heap.size+1)) #[] #[]] },W1,g,#[.func (.yield (w.heap.size+1)) #[] #[]]++us,W1,?_,?_,fun f' _=>jh none f',?_,fun q=>(by rw[lD]at q;cases q),?_⟩;·rw[Mo,hR,mZ];exact run_enterLoop_outer _ _ _ _ _
   ·simp[resolve,j_,Deferred.ofValue]
    rfl
   ·simp only[invoke,callFunc,aav,run_program,aar,QK,Su,Js,isNone_some,aay,if_false,aaA]
   have ez:(#[.func (.yield (w.heap.size+1)) #[] #[]]++us:Array Value)=(.func (.yield (w.heap.size+1)) #[] #[]::us.toList).toArray:=by apply abz;simp
   rw[ez];refine CG.mono fun e w3 hq=>?_
   obtain⟨⟨v,rfl⟩,r1',r2',hr,σ',g1,g2,g3,g4⟩:=hq;have r4:=r3.ext g2;have s4:=fV.putObj r4 rfl (.loop { R with state:=.exhausted });have x4:=x13.trans g2;refine⟨none,w3.putObj (w.heap.size+1) (.loop { R with state:=.exhausted }),?_,?_⟩
   ·have Z0:R.pending=none:=by rw[hR]
    have hsr:R.state = .ready:=by rw[hR]
    have:=run_endLoop (P:=P) r4.here (by rw[hsr];simp);rw[this,Z0]
   refine hQ .normal ⟨s.env,r1',r2'⟩ _ _ σ' (hKR _ _ hr) ⟨nK w.heap.size::ds,⟨fun t v hv=>⟨(hs.envr t v hv).1,(hs.envr t v hv).2.mono x4.sig⟩,hs.size,s4.ok g1,fun k hk=>?_,?_,by have:=hs.le;simp only;omega,fun k=>?_,?_⟩,?_⟩
   ·simp only at hk
    rcases g4 k with e | e
    ·rw[e];exact hσ1 k aa
    omega
   ·have hz:=hs.ext.size
    exact s4.ext (hs.ext.trans x4) fun c hc _=>aa0 aa
   ·rcases g4 k with e | e
    ·by_cases hk:k=s.nx
     ·right;rw[hk];exact hs.le
     rw[e,cb.upd_other _ _ hk];exact hs.old k
    right;have:=hs.le;omega
   ·show [nK w.heap.size]++a.defers=_
    rw[hs.def0];rfl
   obtain⟨Ds,e1,e2,e3⟩:=hk;have aL:∀D ∈ Ds,D<w.heap.size:=fun D hD=>(e3 D hD).2.lt
   refine⟨w.heap.size::Ds,by rw[e1];rfl,acL.2 ⟨fun hm=>absurd (aL _ hm) aa,e2⟩,fun D hD=>?_⟩;have cf:D≠w.heap.size+1:=by
    rcases aaK.1 hD with rfl | hD
    ·omega
    have:=aL D hD;omega
   have hzw:=hs.ext.size;rcases aaK.1 hD with rfl | hD
   ·exact⟨aa,(d3.ext g2).side (aa0 cf)⟩
   exact⟨(e3 D hD).1,((e3 D hD).2.ext x4).side (aa0 cf)⟩
 | _=>intro Y B w0 σ0 M0 nx0 hY hB K s a w σ h;exact h.elim
theorem ar.bodyR (hp:P.follows .mixedOrders=true) (f6:ρ.det=false) {c:Code} (hf:P.funcs[g]?=some fn) (hn:(fn.name == "runtime.NumGoroutine")=false) (hb:fn.body=some c)
 (h:qD P ρ (args.length+(fn.ntmps - args.length)) none c (vA P fn.results.toList R) ⟨cz args 0 .nil,M,nx⟩):ar P ρ g args M nx R:=by
 refine⟨?_,fun hd=>by rw[f6]at hd;cases hd⟩;intro w σ vs aQ ce aX o a K Q hK;have gy:(callFunc g vs.toArray).run P w = .ok (.enter g vs.toArray) w:=by simp only[callFunc,aav,run_program,aar,hf,hn,hb,isNone_some,aay,if_false,aaA]
 rw[gy];show Calls P g vs.toArray w _;refine(callsIn_wide (n:=0)).1 ?_;refine callsIn_of_wp_marks (F:=FW none) hf hb (jh none _) ?_;refine He hp c none w.heap.size w σ M nx trivial (u7 _) _ _ _ w σ h (qk aQ ce aX) _ fun e s' a' w' σ' Ml kU=>?_
 have fin:(∃vs,cB P s' fn.results.toList=some vs/\R (cR vs,s'.M,s'.nx))->LeavesInM (FW none) 0 P fn a'.tmps (fun
  | .returned v,w''=>K (a.put o.dst v) w''
  | .panicked chain,w''=>Q (.panic chain) a w''
  | .outgrown,_=>LetsOut Q) a'.defers .returning w':=by
  rintro⟨vs',CR,hR⟩;exact ue kU ce CR fun v w'' σ'' q1 q2 q3 q4 q5=>hK v w'' ⟨_,hR,σ'',q1,q2,q3,q4,q5⟩
 cases e with
 | normal=>exact fin Ml
 | ret=>exact fin Ml
 | exit id=>exact Ml.elim
theorem OQ.body (hp:P.follows .mixedOrders=true) {c:Code} {Y:Nat×YW} {R:Hp->Nat->Prop} (hf:P.funcs[g]?=some fn) (hn:(fn.name == "runtime.NumGoroutine")=false) (hb:fn.body=some c) (hr:fn.results.toList=[])
 (h:qD P ρ (args.length+(fn.ntmps - args.length)) (some Y) c (fun e s=>(∀id,e ≠ .exit id)/\R s.M s.nx) ⟨cz args 0 .nil,M,nx⟩):OQ P ρ g args Y M nx R:=by
 intro w σ vs aQ ce aX hY;refine⟨⟨fn,c,hf,hb,hn⟩,?_⟩;refine callsIn_of_wp_marks (F:=FW none) hf hb (jh none _) ?_;refine He hp c (some Y) w.heap.size w σ M nx hY (u7 _) _ _ _ w σ h (qk aQ ce aX) _ fun e s' a' w' σ' ⟨h1,h2⟩ kU=>?_
 have fin:LeavesInM (FW none) 0 P fn a'.tmps (fun e w'=>(∃v,e = .returned v)/\∃M' nx',R M' nx'/\∃σ',Ok ρ w' σ' M'/\zN w σ M w' σ' M'/\nx<=nx'/\∀k,σ' k=σ k\/(nx<=k/\k<nx')) a'.defers .returning w' :=
  ue (vs:=[]) kU ce (by rw[hr];rfl) fun v w'' σ'' _ q2 q3 q4 q5=>⟨⟨v,rfl⟩,_,_,h2,σ'',q2,q3,q4,q5⟩
 cases e with
 | normal=>exact fin
 | ret=>exact fin
 | exit id=>exact(h1 id rfl).elim
end
section
variable {P:Program} {ρ:aK} {n:Nat} {env:eX} {M:Hp} {nx:Nat} {all os:List Oper} {F:XS->Prop} {d:Option Nat}
def NX (P:Program) (ρ:aK) (n:Nat) (all os:List Oper) (env:eX) (M:Hp) (nx:Nat) (d:Option Nat) (F:XS->Prop) (x:XV):Prop :=
 ρ.det=false/\∃L,wE M x=some L/\∀e ∈ L,aN P ρ n all os env d F (e.val,aY M e.upd,nx+1)
theorem qv (it:Operand) :
 RN P ρ n all (⟨d,.next it false,ty,pos,after,none⟩::os) ⟨env,M,nx⟩ F=NX P ρ n all os env M nx d F (cG env it):=by
 refine propext ?_;unfold RN;simp only[a_];constructor
 ·rintro(⟨e,he,_⟩ | ⟨c',g,args,R,df,_⟩ | ⟨c',g,args,e,hi,df,_⟩ | ⟨it',L,h0,df,hL,hK⟩)
  ·simp[cY]at he
  ·cases df
  ·cases df
  cases df;exact⟨h0,L,hL,hK⟩
 rintro⟨h0,L,hL,hK⟩;exact .inr (.inr (.inr ⟨it,L,h0,rfl,hL,hK⟩))
theorem s6 (t:Nat) (x:Operand):cY P Γ env M key (.range t x)=me P M key t (cG env x):=rfl
theorem yA (x:Operand):cY P Γ env M key (.entry x)=i7 M (cG env x):=rfl
def Xn (key m:Nat):NT->Option bx->Option bZ
 | .mp,some (.map _ clock)=>some ⟨.mp key 0,[m],[(key,some (.iter (some m) clock [] clock))]⟩
 | _,_=>none
theorem pP {t:Nat}:me P M key t (.mm m)=Xn key m (nt P t) (gG M m):=by
 unfold me Xn nt;cases hu:P.underlying t with
 | none=>rfl
 | some d =>
   cases d<;>first | rfl | skip
   simp only;cases gG M m with
   | none=>rfl
   | some o=>cases o<;>rfl
theorem tf {es:List (Nat×XV×XV)}:Xn key m .mp (some (.map es clock))=some ⟨.mp key 0,[m],[(key,some (.iter (some m) clock [] clock))]⟩:=rfl
variable {β:Type} {vf:β->XV} {l:List (Nat×Int×β)}
theorem tX (seen:List Nat):∀(l:List (Nat×Int×β)),nz seen (cx vf l)=cx vf (l.filter fun e=>decide (e.1 ∉ seen))
 | []=>rfl
 | e::l=>by
   have ih:=tX seen l;simp only[cx,aa3,nz]at ih ⊢;by_cases h:e.1 ∈ seen
   ·rw[(eg seen e.1).2 h]
    simp only[h,not_true_eq_false,decide_false,filter_cons_of_neg,aay,not_false_eq_true];exact ih
   have:db seen e.1=false:=by
    cases hb:db seen e.1 with
    | false=>rfl
    | true=>exact(h ((eg seen e.1).1 hb)).elim
   rw[this];simp only[h,not_false_eq_true,decide_true,filter_cons_of_pos,aa3];rw[ih]
theorem Cf (f6:ρ.det=false) {k since st:Nat} {seen:List Nat} (hk:gG M k=some (.iter (some m) since seen st)) (hm:gG M m=some (.map (cx vf l) clock))
 (hl:∀e ∈ l,e.1<since) (h1:since<=st) (h2:since<=clock)
 (qy:(∀e ∈ l,e.1 ∈ seen)->aN P ρ n all os env d F (.tup [.bool false],M,nx+1))
 (hgo:∀e ∈ l,e.1 ∉ seen->aN P ρ n all os env d F (.tup [.bool true,.int .u64 e.2.1,vf e.2.2],aG M k (.iter (some m) since (seen++[e.1]) clock),nx+1)):NX P ρ n all os env M nx d F (.mp k 0):=by
 have ha:(cx vf l).all (fun e=>abc e.1 since)=true:=by simp only[cx,List.all_map,aa4];intro e he;rw[Function.comp_apply,blt_eq];exact hl e he
 have hb:Nat.ble since st=true:=by rw[ble_eq];exact h1
 have hc:Nat.ble since clock=true:=by rw[ble_eq];exact h2
 refine⟨f6,?_⟩;unfold wE;simp only[hk,hm,ha,hb,hc,tX];cases hf:l.filter (fun e=>decide (e.1 ∉ seen)) with
 | nil =>
   refine⟨_,rfl,fun e he=>?_⟩;rw[aaE]at he;subst he;refine qy fun e he=>?_
   rw[filter_eq_nil_iff]at hf;have:=hf e he;simpa using this
 | cons a r =>
   refine⟨_,rfl,fun e he=>?_⟩;simp only[cx,aa3,aaK,ab6]at he;have key:∀x ∈ a::r,aN P ρ n all os env d F (.tup [.bool true,.int .u64 x.2.1,vf x.2.2],aG M k (.iter (some m) since (seen++[x.1]) clock),nx+1):=fun x hx=>by rw[<-hf,abQ]at hx;exact hgo x hx.1 (by simpa using hx.2)
   rcases he with rfl | ⟨y,⟨x,hx,rfl⟩,rfl⟩
   ·exact key a aaC
   exact key x (aaJ _ hx)
theorem tY:∀(l:List Nat) (b:Nat),zH (l++[b])=some b
 | [],b=>rfl
 | [a],b=>rfl
 | a::c::l,b=>by have:=tY (c::l) b;simp only[aa8]at this ⊢;exact this
theorem ut:∀{l:List (Nat×Int×β)},(l.map (·.1)).Nodup->∀e ∈ l,Dz e.1 (cx vf l)=some (.int .u64 e.2.1,vf e.2.2)
 | [],_,e,he=>by cases he
 | a::l,hn,e,he=>by
   simp only[cx,aa3,Dz];rw[aa3,acL]at hn;rcases aaK.1 he with rfl | he
   ·rw[beq_refl]
   have:aaW a.1 e.1=false:=by
    cases hb:aaW a.1 e.1 with
    | false=>rfl
    | true=>exact(hn.1 (by rw[aaB hb];exact ab6.2 ⟨e,he,rfl⟩)).elim
   rw[this];exact ut hn.2 e he
theorem rj {k since:Nat} {seen:List Nat} {e:Nat×Int×β} (hk:gG M k=some (.iter (some m) since (seen++[e.1]) clock)) (hm:gG M m=some (.map (cx vf l) clock)) (hn:(l.map (·.1)).Nodup) (he:e ∈ l) :
 i7 M (.mp k 0)=some ⟨.tup [.int .u64 e.2.1,vf e.2.2],[k,m],[]⟩:=by
 unfold i7;simp only[hk,hm,tY,beq_refl,ut hn e he]
theorem ar.walkR (hp:P.follows .mixedOrders=true) (f6:ρ.det=false) {c:Code} {rs:List ResultVar} (hf:P.funcs[g]?=some fn) (hn:(fn.name == "runtime.NumGoroutine")=false) (hb:fn.body=some c) (hm:args.length+(fn.ntmps - args.length)=m) (hr:fn.results.toList=rs)
 (h:qD P ρ m none c (vA P rs R) ⟨cz args 0 .nil,M,nx⟩):ar P ρ g args M nx R:=by
 subst hm hr;exact ar.bodyR hp f6 hf hn hb h
theorem OQ.walk (hp:P.follows .mixedOrders=true) {c:Code} {Y:Nat×YW} {R:Hp->Nat->Prop} (hf:P.funcs[g]?=some fn) (hn:(fn.name == "runtime.NumGoroutine")=false) (hb:fn.body=some c) (hr:fn.results.toList=[]) (hm:args.length+(fn.ntmps - args.length)=m)
 (h:qD P ρ m (some Y) c (fun e s=>(∀id,e ≠ .exit id)/\R s.M s.nx) ⟨cz args 0 .nil,M,nx⟩):OQ P ρ g args Y M nx R:=by
 subst hm;exact OQ.body hp hf hn hb hr h
theorem iX (f:XS->Prop) (K:bg->XS->Prop) (s:XS):fx f K .normal s=f s:=rfl
theorem Qc (f:XS->Prop) (K:bg->XS->Prop) (i:Nat) (s:XS):fx f K (.exit i) s=K (.exit i) s:=rfl
theorem seqK_r (f:XS->Prop) (K:bg->XS->Prop) (s:XS):fx f K .ret s=K .ret s:=rfl
theorem Df (I:Nat->XS->Prop) (k:Nat) (K:bg->XS->Prop) (s:XS):w_ I k K .normal s = ∃j,j<k/\I j s:=rfl
theorem LC (I:Nat->XS->Prop) (k:Nat) (K:bg->XS->Prop) (i:Nat) (s:XS):w_ I k K (.exit i) s=K (.exit i) s:=rfl
theorem Nf (i:Nat):Cj i .normal = .normal:=rfl
theorem Tk (i:Nat):Cj i (.exit i) = .normal:=by simp[Cj]
theorem FD {k:Nat} {H:YW} {c:Call} {Q:XS->Prop} (hy:EU env c=some (k,args))
 (h:H args M nx fun M' nx'=>∃be,cu n env d (.bool true)=some be/\FT P ρ n (some (k,H)) all os ⟨be,M',nx'⟩ Q):FT P ρ n (some (k,H)) all (⟨d,.call c,ty,pos,after,none⟩::os) ⟨env,M,nx⟩ Q:=by
 unfold FT;simp only[a_];exact .inr ⟨c,k,H,args,rfl,rfl,hy,h⟩
theorem Pw {Y:Option (Nat×YW)} {l:List Oper} {id:Nat} (h:FT P ρ n Y l l s (K .normal)):qD P ρ n Y (.region id l.toArray false) K s:=h
theorem EA {asg body:Code} {ps:List Nat} {e0 be:eX} {Q:Hp->Nat->Prop} (hp:qj m ps args e0=some be)
 (h:W P ρ m asg [] (fun e s=>e = .normal/\W P ρ m body [] (fun e s'=>e = .normal/\Q s'.M s'.nx) s) ⟨be,M,nx⟩):xB P ρ m asg body ps e0 args M nx Q:=⟨be,hp,h⟩
theorem fD {Y:Option (Nat×YW)} {x y:Code} (h:W P ρ n x [] (fx (qD P ρ n Y y K) K) s):qD P ρ n Y (.seq x y) K s:=Ix x _ s h
theorem CY {Y:Option (Nat×YW)} {x y:Code} (h:qD P ρ n Y x (fx (qD P ρ n Y y K) K) s):qD P ρ n Y (.seq x y) K s:=h
theorem Iy {Y:Option (Nat×YW)} {x:Code} (h:W P ρ n x [] K s):qD P ρ n Y x K s:=Ix x _ s h
theorem Cm {Y:Option (Nat×YW)} {x:Code} {id:Nat} (h:qD P ρ n Y x (fun e s'=>K (Cj id e) s') s):qD P ρ n Y (.block id x) K s:=h
theorem Hn {Y:Option (Nat×YW)} {c:Code} (I:Nat->XS->Prop) (k:Nat) (h0:I k s) (h:∀k s',I k s'->qD P ρ n Y c (w_ I k K) s'):qD P ρ n Y (.loop c) K s:=⟨I,⟨k,h0⟩,h⟩
end
section
open Classical
theorem fg {α:Type} {f:α->List XV} {sz:Nat} (hf:∀a,(f a).length=sz):∀(l:List α),(l.flatMap f).length=l.length*sz
 | []=>af
 | a::l=>by rw[aaN,aau,hf,fg hf l,aaw];rw[abZ];omega
theorem wY:∀(xs ys:List XV) (k:Nat) (vs:List XV),bp (xs++ys) (xs.length+k) vs=xs++bp ys k vs
 | [],ys,k,vs=>af
 | c::xs,ys,k,vs=>by rw[aa8,aaw,show xs.length+1+k=(xs.length+k)+1 by omega,aa8];simp only[bp];rw[wY xs ys k vs]
theorem nC {α:Type} {f:α->List XV} {g:α->α} {sz o:Nat} {vs:List XV} (hf:∀a,(f a).length=sz) (ho:o+vs.length<=sz):∀(l:List α) (i:Nat),i<l.length->(∀a,l[i]?=some a->f (g a)=bp (f a) o vs)->(l.modify i g).flatMap f=bp (l.flatMap f) (i*sz+o) vs
 | [],i,h,_=>by simp at h
 | a::l,0,_,hg=>by have h1:=hg a rfl;have:=hf a;rw[modify_zero_cons,aaN,aaN,h1,Nat.zero_mul,Nat.zero_add];rw[fa _ _ _ aa,fa _ _ _ (by rw[aau];omega),take_append_of_le_length aa,drop_append_of_le_length aa];simp
 | a::l,i+1,h,hg=>by
   have h0:=hf a;have hl:i<l.length:=by simpa using h
   have ih:=nC (g:=g) (vs:=vs) hf ho l i hl (fun b hb=>hg b (by simpa using hb));rw[modify_succ_cons,aaN,aaN,ih,show (i+1)*sz+o=(f a).length+(i*sz+o) by rw[h0,abZ];omega,wY]
def HS.wr (S:HS) (n:Nat) (cr:List XV):HS:={ S with nrec:=n,crec:=cr }
def fJ (P:Nat->Prop) (l:List fS):List fS:=l.mapIdx fun j m=>{ m with fin:=m.fin||decide (P j) }
def xx (len:Int) (i:Nat) (l:List ku):List ku:=l.mapIdx fun k a=>if k<i/\a.s=3 then { a with e:=len } else a
def HS.done (S:HS) (len:Int) (i:Nat) (P:Nat->Prop):HS:={ S with txs:=xx len i S.txs,mods:=fJ P S.mods }
theorem im (P:Nat->Prop) (l:List fS):(fJ P l).length=l.length:=by simp[fJ]
theorem rp (len:Int) (i:Nat) (l:List ku):(xx len i l).length=l.length:=by simp[xx]
theorem ie (P:Nat->Prop) (l:List fS) (j:Nat):(fJ P l)[j]?=(l[j]?).map fun m=>{ m with fin:=m.fin||decide (P j) }:=by simp[fJ]
theorem fw (len:Int) (i:Nat) (l:List ku) (k:Nat):(xx len i l)[k]?=(l[k]?).map fun a=>if k<i/\a.s=3 then { a with e:=len } else a:=by simp[xx]
theorem Br (l:List fS):fJ (fun _=>False) l=l:=by
 refine adz fun j=>?_
 rw[ie];cases l[j]? <;> simp
theorem ki {P Q:Nat->Prop} (h:∀j,P j ↔ Q j) (l:List fS):fJ P l=fJ Q l:=by
 have:P=Q:=funext fun j=>propext (h j)
 rw[this]
theorem BS (len:Int) (l:List ku):xx len 0 l=l:=by
 refine adz fun j=>?_
 rw[fw];cases l[j]? <;> simp
theorem EX (P:Nat->Prop) (l:List fS) (j0:Nat):fJ (fun j=>P j\/j=j0) l=(fJ P l).modify j0 fun m=>{ m with fin:=true }:=by
 refine adz fun j=>?_
 rw[ie,getElem?_modify,ie];by_cases h:j=j0
 ·subst h
  cases l[j]? <;> simp
 have h':¬ j0=j:=fun e=>h e.symm
 cases l[j]? <;> simp[h,h']
theorem tU (len:Int) (i:Nat) (l:List ku):xx len (i+1) l=(xx len i l).modify i fun a=>if a.s=3 then { a with e:=len } else a:=by
 refine adz fun k=>?_
 rw[fw,getElem?_modify,fw];by_cases h:k=i
 ·subst h
  cases l[k]? with
  | none=>rfl
  | some a=>simp
 have h':¬ i=k:=fun e=>h e.symm
 cases l[k]? with
 | none=>rfl
 | some a =>
   have:(k<i+1) ↔ k<i:=aa;simp[this,h']
theorem KO (P:Nat->Prop) (l:List fS) {j0:Nat} (h:j0<l.length):(fJ (fun j=>P j\/j=j0) l).flatMap cO=bp ((fJ P l).flatMap cO) (j0*8+7) [.bool true]:=by rw[EX];exact nC (f:=cO) (g:=fun m=>{ m with fin:=true }) (sz:=8) (o:=7) (vs:=[.bool true]) (fun a=>rfl) aj (fJ P l) j0 (by rw[im];exact h) fun a _=>rfl
section
variable {M M' N:Hp} {lo hi hi' h:Nat} {S:HS} {tag tag':Nat->Hg} {vrec vtxs vcom vmods vlook:XV} {nk vk ok cn cv co:Nat} {ptrs:List XV} {lnum:List (Nat×Int×Int)} {lver:List (Nat×List Int×Int)} {lobj:List (Nat×Int×Int)}
theorem eM.setMods {ms:List fS} (H:eM M lo hi h S tag vrec vtxs vcom vmods vlook nk vk ok cn cv co ptrs lnum lver lobj)
 (keep:∀q,q<hi->tag q ≠ .mods->gG M' q=gG M q) (mods:bS M' lo hi tag .mods vmods 8 ms.length (ms.flatMap cO)) :
 eM M' lo hi h { S with mods:=ms } tag vrec vtxs vcom vmods vlook nk vk ok cn cv co ptrs lnum lver lobj:=by
 have kk:∀tg:Hg,tg ≠ .mods->∀k,k<hi->tag k=tg->gG M' k=gG M k/\tag k=tg:=fun tg hc k hk hg=>⟨keep k hk (by rw[hg];exact hc),hg⟩
 exact {
  lo_h:=H.lo_h,h_hi:=H.h_hi,tg:=H.tg,row:=by rw[(kk _ af h H.h_hi H.tg).1];exact H.row
  recs:=H.recs.keep (kk _ af) (u7 _),txs:=H.txs.keep (kk _ af) (u7 _)
  known:=fun i b hb=>by obtain⟨v,h1,h2⟩:=H.known i b hb;exact⟨v,h1,h2.keep (fun k hk hg=>⟨keep k hk (by rcases hg with q | q | ⟨x,q⟩<;>rw[q]<;>simp),rfl⟩) (u7 _)⟩
  nlo:=H.nlo,nhi:=H.nhi,ntg:=H.ntg,num:=by rw[(kk _ af nk H.nhi H.ntg).1];exact H.num,numS:=H.numS
  com:=H.com.keep (kk _ af) (u7 _),mods:=mods
  vlo:=H.vlo,vhi:=H.vhi,vtg:=H.vtg,ver:=by rw[(kk _ af vk H.vhi H.vtg).1];exact H.ver,vrow:=H.vrow,verS:=H.verS
  looks:=H.looks.keep (kk _ af) (u7 _)
  olo:=H.olo,ohi:=H.ohi,otg:=H.otg,obj:=by rw[(kk _ af ok H.ohi H.otg).1];exact H.obj,objS:=H.objS }
theorem eM.setTx {ts:List ku} {rk mk:Nat} {a a':ku} (H:eM M lo hi h S tag vrec vtxs vcom vmods vlook nk vk ok cn cv co ptrs lnum lver lobj) (hi':ts.length=S.txs.length) (hts:∀j,j≠i->ts[j]?=S.txs[j]?) (VS:ts[i]?=some a')
 (Gr:tag rk = .known i) (hv:ptrs[i]?=some (.mp rk 0)) (Qx:S.txs[i]?=some a) (hm:gG M rk=some (.row (d_ a++[.mm mk])))
 (keep:∀q,q<hi->q≠rk->gG M' q=gG M q) (bA:gG M' rk=some (.row (d_ a'++[.mm mk]))) :
 eM M' lo hi h { S with txs:=ts } tag vrec vtxs vcom vmods vlook nk vk ok cn cv co ptrs lnum lver lobj:=by
 have kk:∀tg:Hg,tg ≠ .known i->∀k,k<hi->tag k=tg->gG M' k=gG M k/\tag k=tg:=fun tg hc k hk hg=>⟨keep k hk (fun e=>hc (by rw[<-hg,e];exact Gr)),hg⟩
 exact {
  lo_h:=H.lo_h,h_hi:=H.h_hi,tg:=H.tg,row:=by rw[(kk _ af h H.h_hi H.tg).1];exact H.row
  recs:=H.recs.keep (kk _ af) (u7 _),txs:=by rw[show ({ S with txs:=ts }:HS).txs.length=S.txs.length from hi'];exact H.txs.keep (kk _ af) (u7 _)
  known:=fun j b hb=>by
   by_cases hj:j=i
   ·subst hj
    have rA:a'=b:=by have:ts[j]?=some b:=hb;rw[VS]at this;cases this;rfl
    subst rA;obtain⟨v,h1,rk2,mk2,c,lm,e1,e2,e3,e4,e5,e6,e7,e8,e9,dx,kW⟩:=H.known j a Qx;rw[hv]at h1;cases h1;cases e1;rw[hm]at e5;have emk:mk=mk2:=by simp only[aat,bx.row.injEq,append_cancel_left_eq,abI,XV.mm.injEq,and_true]at e5;exact e5
    subst emk;exact⟨_,hv,rk,mk,c,lm,rfl,e2,e3,e4,bA,e6,e7,e8,by rw[(kk _ af mk e7 e8).1];exact e9,dx,fun x v hx=>⟨(kW x v hx).1,(kW x v hx).2.keep (kk _ af) (u7 _)⟩⟩
   obtain⟨v,h1,h2⟩:=H.known j b (by have:ts[j]?=some b:=hb;rw[hts j hj]at this;exact this);exact⟨v,h1,h2.keep (fun k hk hg=>⟨keep k hk (fun e=>by subst e;rw[Gr]at hg;rcases hg with q | q | ⟨x,q⟩<;>simp at q;exact hj q.symm),rfl⟩) (u7 _)⟩
  nlo:=H.nlo,nhi:=H.nhi,ntg:=H.ntg,num:=by rw[(kk _ af nk H.nhi H.ntg).1];exact H.num,numS:=H.numS
  com:=H.com.keep (kk _ af) (u7 _),mods:=H.mods.keep (kk _ af) (u7 _)
  vlo:=H.vlo,vhi:=H.vhi,vtg:=H.vtg,ver:=by rw[(kk _ af vk H.vhi H.vtg).1];exact H.ver,vrow:=H.vrow,verS:=H.verS
  looks:=H.looks.keep (kk _ af) (u7 _)
  olo:=H.olo,ohi:=H.ohi,otg:=H.otg,obj:=by rw[(kk _ af ok H.ohi H.otg).1];exact H.obj,objS:=H.objS }
end
theorem UX {M:Hp} {nx:Nat} (mu:Mu N M) (lt:∀k o,gG N k=some o->k<nx) {k:Nat} (hk:k<nx) (hN:gG N k≠none) {x:bx} (hx:kF x=true) (h1:gG M' k=some x) (h2:∀j,j<nx->j≠k->gG M' j=gG M j) :
 Mu (aG N k x) M'/\(∀j o,gG (aG N k x) j=some o->j<nx)/\gM nx N M (aG N k x) M':=by
 refine⟨fun j o ho=>?_,fun j o ho=>?_,fun j z j1 j2 j3=>?_⟩
 ·rw[ap]at ho
  split at ho;·rename_i e;subst e;cases ho;exact⟨h1,hx⟩
  rename_i e;obtain⟨q1,q2⟩:=mu j o ho;exact⟨by rw[h2 j (lt j o ho) (fun q=>e q.symm)];exact q1,q2⟩
 ·rw[ap]at ho
  split at ho;·rename_i e;subst e;exact hk
  exact lt j o ho
 have:k≠j:=fun e=>hN (by rw[e];exact j2)
 exact⟨by rw[h2 j j1 (fun q=>this q.symm)];exact j3,by rw[ap,if_neg this];exact j2⟩
end
section
open Go.Proofs
def Hl (M:Hp) (b nx n':Nat) (v:XV) (l:List bO):Prop:=∃rk sv,v = .mp rk 0/\(rk<b\/nx<=rk)/\rk<n'/\gG M rk=some (.row [sv])/\bE M b sv 4 l.length (l.flatMap aV)
theorem bE.up {M:Hp} {b':Nat} {v:XV} {len:Nat} {row:List XV} (h:bE M b v sz len row) (hb:b<=b'):bE M b' v sz len row :=
 dN.lt ((bE.pp h).keep fun k hk=>⟨rfl,aax hk hb⟩)
theorem Hl.at {M:Hp} {nx n':Nat} {v:XV} {l:List bO} (h:Hl M b nx n' v l) (hb:b<=n'):kn M n' v l:=by obtain⟨rk,sv,h1,h2,h3,h4,h5⟩:=h;exact⟨rk,sv,h1,h3,h4,h5.up hb⟩
theorem f130n (ρ:aK) {M:Hp} {nx:Nat} {f:Int->Option (List bO)} (h:ey M b o f) (hb:b<=nx) (x:Int):ar an ρ 130 [.mp o 0,.int .u64 x] M nx fun r=>Hl r.2.1 b nx r.2.2 r.1 ((f x).getD [])/\aq nx M r.2.1/\nx<=r.2.2:=by
 obtain⟨ho,rm,c,l,h1,h2,h3,h4,h5⟩:=h;refine ar.wk 24 [.tmp 4] Tryz.func130 ?_;cases hx:aH l x with
 | none =>
   refine jz El h1 h3 hx ?_;refine⟨⟨_,.nils,rfl,.inr aa,aa,by rw[ap,if_pos rfl],?_⟩,(aq.refl _ _).set aa _,aa⟩;rw[h4 x hx];exact⟨af,.inl ⟨rfl,rfl,rfl⟩⟩
 | some v =>
   obtain⟨ins,h6,rk,sv,rfl,h8,h9,Gf⟩:=h5 x v hx;refine jz El h1 h3 hx ?_;refine⟨⟨rk,sv,rfl,.inl h8,aa,h9,?_⟩,aq.refl _ _,aa⟩;rw[h6];exact Gf
def Bm:bO:=⟨0,0,0,0⟩
def mC (l:List bO) (w n:Int):Int×Bool:=if (jF l w n).2=false\/(jF l w n).1=0 then (0,false) else ((l[((jF l w n).1 - 1).toNat]?.getD Bm).wr,true)
theorem jt (l:List bO) (w n:Int):0<=(jF l w n).1/\(jF l w n).1<=l.length:=by
 unfold jF;split;·simp
 have:=ta (gi w n) l 0;simp only;omega
theorem f84 (ρ:aK) {M:Hp} {nx:Nat} {f:Int->Option (List bO)} (h:ey M b o f) (hb:b<=nx) (x w n:Int) :
 ar an ρ 84 [.mp o 0,.int .u64 x,.agg [.int .u64 w,.int .u64 n]] M nx (fe nx M (.tup [.int .i64 (mC ((f x).getD []) w n).1,.bool (mC ((f x).getD []) w n).2])):=by
 refine ar.wk 38 [.tmp 6,.tmp 7] Tryz.func84 ?_;refine dt P0 ?_;generalize xu:aG M nx _=M1;have a1:aq nx M M1:=by rw[<-xu];exact O
 have z1:gG M1 nx=some (.row [.int .u64 w,.int .u64 n]):=by rw[<-xu];exact J
 clear xu;refine gQ (f130n ρ (h.agr (a1.le hb)) aa x) ?_;rintro⟨u,M2,n2⟩ ⟨g1,g2,g3⟩;simp only at g1 g2 g3;have a2:aq nx M M2:=a1.trans (g2.le aa);have z2:=(g2 nx aa).trans z1;obtain⟨l,hl⟩:=aap ((f x).getD []);rw[<-hl]at g1 ⊢;have DX:=g1.at aa;obtain⟨rk,sv,e1,e0,e2,e3,e4⟩:=g1;subst e1;clear g2 h;refine fM P0 z2 ?_;refine lL (WI ρ DX aa w n) aj ?_ ?_;·refine dt P0 ?_;try exact⟨⟩
 rintro⟨u,M3,n3⟩ ⟨k1,k2,k3⟩;simp only at k1 k2 k3;subst k1;have a3:=a2.trans (k2.le aa);have y3:=(k2 rk aa).trans e3;have JZ:=jt l w n;have hz:=e4.1;cases uW:(jF l w n).2 with
 | false =>
   refine gk P0 uW @fe.eq_1 ?_;exact⟨by simp[mC,uW],a3,aa⟩
 | true =>
   by_cases sV:(jF l w n).1=0
   ·refine jz P0 uW sV @fe.eq_1 ?_
    exact⟨by simp[mC,sV],a3,aa⟩
   have uT:((jF l w n).1 - 1).toNat<l.length:=aa;obtain⟨e,gA⟩:∃e,l[((jF l w n).1 - 1).toNat]?=some e:=⟨l[((jF l w n).1 - 1).toNat],by simp[uT]⟩;have hw:IntKind.i64.wrap ((jF l w n).1 - 1)=((((jF l w n).1 - 1).toNat:Nat):Int):=by rw[wrap_i64 aa aa];omega
   obtain⟨q,o,Oc,bC,aU⟩:=e4.fldG (P:=an) uT (t:=247) v9.2.2.2.1;have aU:=aU 2 (.int .i64 e.wr) aa (by rw[jr l _ e gA];rfl) 3 1 dA.1 M3 (k2.le aa);refine oq P0 uW sV y3 hw bC aU @fe.eq_1 ?_;refine⟨?_,a3,aa⟩;unfold mC;rw[if_neg (by simp[uW,sV]),gA];rfl
def BF (e:bO):List XV:=[.int .u64 e.w,.int .u64 e.n]
theorem qO {f:α->List XV} {l:List α} {e:α} (h:l[i]?=some e):(l.take (i+1)).flatMap f=(l.take i).flatMap f++f e:=by
 have:l.take (i+1)=l.take i++[e]:=by rw[aba,h];rfl
 rw[this,abL];simp
theorem f82 (ρ:aK) {M:Hp} {nx:Nat} {f:Int->Option (List bO)} (h:ey M b o f) (hb:b<=nx) (x:Int) (few:((f x).getD []).length<=100000) :
 ar an ρ 82 [.mp o 0,.int .u64 x] M nx fun r=>(∃K,r.1 = .sl K 2 0 (((f x).getD []).length+1) (((f x).getD []).length+1)/\nx<=K/\K<r.2.2/\gG r.2.1 K=some (.row ([.int .u64 0,.int .u64 0]++((f x).getD []).flatMap BF)))/\aq nx M r.2.1/\nx<=r.2.2:=by
 refine ar.wk 29 [.tmp 4] Tryz.func82 ?_;refine dt W3 ?_;generalize xu:aG M (nx+2) _=M1;have a1:aq nx M M1:=by rw[<-xu];exact O
 have z0:gG M1 (nx+2)=some (.row [.int .u64 0,.int .u64 0]):=by rw[<-xu];exact J
 clear xu;refine gQ (f130n ρ (h.agr (a1.le hb)) aa x) ?_;rintro⟨u,M2,n2⟩ ⟨g1,g2,g3⟩;simp only at g1 g2 g3;have a2:aq nx M M2:=a1.trans (g2.le aa);have z3:=(g2 (nx+2) aa).trans z0;obtain⟨l,hl⟩:=aap ((f x).getD []);rw[<-hl]at g1 few ⊢;obtain⟨rk,sv,e1,e0,e2,e3,e4⟩:=g1;subst e1;clear g2 h;have ay:=fun N=>e4.len (P:=an) (t:=247) v9.2.2.2.2.2 N
 have hz:=e4.1;refine gk W3 e3 ay ?_;refine aC (fun m' s=>∃(i K:Nat),i<=l.length/\m'=l.length - i/\gG s.env 5=some (.sl K 2 0 (i+1) (i+1))/\gG s.env 16=some sv/\gG s.env 17=some (.int .i64 l.length)/\gG s.env 18=some (.int .i64 i) /\
  nx<=K/\K<s.nx/\gG s.M K=some (.row ([.int .u64 0,.int .u64 0]++(l.take i).flatMap BF))/\aq nx M2 s.M/\n2<=s.nx) l.length ⟨0,nx+2,aa,aa,?_⟩ ?_
 ·refine dt W3 ?_
  exact⟨aa,aa,by simpa using z3,aq.refl _ _,aa⟩
 rintro m' ⟨env,M',nx'⟩ ⟨i,K,hi,ir,iF,W0,W4,W5,Gg,Gh,hv,ha,hn⟩;simp only at iF W0 W4 W5 Gh hv ha hn;by_cases aL:(i:Int)<l.length
 ·have aP:i<l.length:=aa
  obtain⟨e,gA⟩:=aao aP;obtain⟨q,o,Oc,bC,aU⟩:=e4.elem (P:=an) aP (t:=247) (t':=253) v9.2.2.2.1 v5.1;have aU:=aU M' (ha.le aa);rw[jr l i e gA]at aU;simp only[aV]at aU;have bV:=eF i;have bw:=qO (f:=BF) gA;obtain⟨cs,dI⟩:=aap ([XV.int .u64 0,XV.int .u64 0]++(l.take i).flatMap BF);rw[<-dI]at hv;have cF:cs.length=(i+1)*2:=by rw[dI,aau,fg (sz:=2) (fun a=>rfl),aaS];simp only[aaw,aaO];omega
  have kB:abP ((i+1)*2) cs=cs:=aaz aa;refine yq W3 iF W0 W4 W5 aL bC aU bV hv cF kB ?_;refine⟨l.length - (i+1),aa,i+1,nx'+9,aa,rfl,rfl,rfl,aa,aa,?_,fun q hq=>?_,aa⟩
  ·rw[if_pos (show aw (nx'+9) (nx'+9) from rfl),dI,bw]
   simp[BF]
  have:=ha q hq;exact J
 have gB:l.take i=l:=aaz aa;have uT:i=l.length:=aa;rw[gB]at hv;rw[uT]at iF;refine ul W3 iF W0 W4 W5 aL ?_;exact⟨⟨K,rfl,Gg,aa,by simpa using hv⟩,(by(repeat (refine aq.set ?_ aa _));exact a2.trans ha),aa⟩
def Ky (a c:En):Bool:=decide (a.x=c.x)&&(decide (a.w=c.w)&&(decide (a.n=c.n)&&decide (a.m=c.m)))
def lu:List En->List En->Bool
 | [],[]=>true
 | a::l,c::l'=>Ky a c&&lu l l'
 | _,_=>false
theorem iz:∀(es:List En) (i:Nat) (e:En),es[i]?=some e->((es.flatMap gq).drop (i*4)).take 4=gq e
 | [],_,_,h=>by simp at h
 | a::es,0,e,h=>by simp only[aaI,aat]at h;subst h;simp[gq]
 | a::es,i+1,e,h=>by simp only[aa1]at h;have:=iz es i e h;rw[<-this,aaN,show (i+1)*4=(gq a).length+i*4 by simp[gq];omega,<-drop_drop];simp
theorem xd:∀{l l':List En},lu l l'=true->l.length=l'.length
 | [],[],_=>rfl
 | [],_::_,h=>by simp[lu]at h
 | _::_,[],h=>by simp[lu]at h
 | a::l,c::l',h=>by simp only[lu,aaF]at h;simp[xd h.2]
theorem Cn {l l':List En} {a c:En} (h:l[i]?=some a) (h':l'[i]?=some c):lu (l.drop i) (l'.drop i)=(Ky a c&&lu (l.drop (i+1)) (l'.drop (i+1))):=by obtain⟨h1,rfl⟩:=aaq.1 h;obtain⟨h2,rfl⟩:=aaq.1 h';rw[aaV h1,aaV h2];rfl
theorem f357 (ρ:aK) {l l':List En} {M:Hp} {nx:Nat} {v v':XV} (h:jm M b v l) (h':jm M b v' l') (hb:b<=nx):ar an ρ 357 [v,v'] M nx (fe nx M (.bool (lu l l'))):=by
 unfold jm at h h';have ay:=fun N=>h.len (P:=an) (t:=45) iH.2.2.2.2.2 N
 have A_:=fun N=>h'.len (P:=an) (t:=45) iH.2.2.2.2.2 N
 have hz:=h.1;refine ar.wk 26 [.tmp 4] Tryz.func357 ?_;by_cases hl:(l.length:Int)=l'.length
 ·refine jz Kt ay A_ hl ?_
  refine aC (fun m s=>∃i:Nat,i<=l.length/\m=l.length - i/\lu (l.drop i) (l'.drop i)=lu l l'/\gG s.env 0=some v/\gG s.env 1=some v'/\gG s.env 12=some (.int .i64 l'.length)/\gG s.env 13=some (.int .i64 i)/\aq nx M s.M/\nx<=s.nx)
   l.length ⟨0,aa,aa,af,?_⟩ ?_
  ·refine dt Kt ?_
   exact⟨aq.refl _ _,aa⟩
  rintro m ⟨env,M',nx'⟩ ⟨i,hi,hm,pA,e0,e1,vS,qI,ha,hn⟩;simp only at e0 e1 vS qI ha hn;by_cases aL:(i:Int)<l'.length
  ·have aP:i<l.length:=aa
   have F1:i<l'.length:=aa;obtain⟨a,Mt⟩:=aao aP;obtain⟨c,Gk⟩:=aao F1;obtain⟨n,o,jw,bC,aU⟩:=h.elem (P:=an) aP (t:=45) (t':=67) iH.2.2.2.1 G2.1;obtain⟨n2,o2,Ux,iN,dJ⟩:=h'.elem (P:=an) F1 (t:=45) (t':=67) iH.2.2.2.1 G2.1;have aU:=aU M' (ha.le hb);have dJ:=dJ M' (ha.le hb);rw[iz l i a Mt]at aU;rw[iz l' i c Gk]at dJ;simp only[gq]at aU dJ;have bV:=eF i;have bw:=Cn Mt Gk;have he:(decide (a.x=c.x)&&(decide (a.w=c.w)&&(decide (a.n=c.n)&&decide (a.m=c.m))))=Ky a c:=rfl;cases hq:Ky a c with
   | false =>
     refine yq Kt e0 e1 vS qI aL bC iN aU dJ he (aI hq @fe.eq_1) ?_;exact⟨by rw[<-pA,bw,hq];rfl,ha,aa⟩
   | true =>
     refine yq Kt e0 e1 vS qI aL bC iN aU dJ he (aI hq bV) ?_;exact⟨l.length - (i+1),aa,i+1,aa,rfl,by rw[<-pA,bw,hq];rfl,rfl,ha,aa⟩
  have hd:l.drop i=[]:=aaM aa;have py:l'.drop i=[]:=aaM aa;refine ky Kt e0 e1 vS qI aL @fe.eq_1 ?_;exact⟨by rw[<-pA,hd,py];rfl,ha,aa⟩
 refine lO Kt ay A_ hl @fe.eq_1 ?_;refine⟨?_,aq.refl _ _,aa⟩;congr 1;cases hq:lu l l' with
 | false=>rfl
 | true=>have:=xd hq;omega
theorem Xa (es:List En):(es.flatMap gq).length=es.length*4:=fg (f:=gq) (sz:=4) (fun _=>rfl) es
theorem f46 (ρ:aK) {M:Hp} {nx:Nat} (hr:eo M b r cs) (hb:b<=nx) (hc:dV r.p<=100000) (he:r.es.length<=100000) :
 ar an ρ 46 [.agg cs] M nx fun o=>Tz nx r o/\aq nx M o.2.1/\nx<=o.2.2:=by
 refine ar.closed fun cF aX=>?_
 obtain⟨pk,pa,pb,pv,ve,rfl,⟨p1,p2⟩,⟨q1,q2⟩,dZ,hp⟩:=hr.cells;unfold jm at dZ;simp only[aE]at aX;have px:aE nx [.int .i64 r.kind,.int .u64 r.t,.int .u64 r.x,.int .u64 r.w,.int .u64 r.n,.int .u64 r.v,.int .i64 pk,.int .u64 pa,.int .u64 pb,pv,ve]=true:=by
  cases hh:aE nx [.int .i64 r.kind,.int .u64 r.t,.int .u64 r.x,.int .u64 r.w,.int .u64 r.n,.int .u64 r.v,.int .i64 pk,.int .u64 pa,.int .u64 pb,pv,ve] with
  | true=>rfl
  | false=>simp only[aO,hh]at aX;cases aX
 have vh:aO nx pv=true:=cq px af;have F0:aO nx ve=true:=cq px af;refine ar.wk 47 [.cell 2 114] Tryz.func46 ?_;refine mY sG p1 p2 q1 q2 ?_;generalize xu:aG (aG M _ _) _ _=M1;have a1:aq nx M M1:=by rw[<-xu];exact O
 have m1:gG M1 nx=some (.row [.int .i64 r.kind,.int .u64 r.t,.int .u64 r.x,.int .u64 r.w,.int .u64 r.n,.int .u64 r.v,.int .i64 pk,.int .u64 pa,.int .u64 pb,pv,ve]):=by rw[<-xu];exact J
 have m2:gG M1 (nx+1)=some (.row [.int .i64 0,.int .u64 0,.int .u64 0,.int .u64 0,.int .u64 0,.int .u64 0,.int .i64 0,.int .u64 0,.int .u64 0,.nils,.nils]):=by rw[<-xu];exact J
 have sR:Cl (nx+2) M1:=by rw[<-xu];exact((cF.le (show nx<=nx+2 by omega)).set aa (by simp only[cp];exact aE.le aa px)).set aa rfl
 clear xu;refine aT (bN.read (v:=.agg [.int .u64 r.w,.int .u64 r.n]) (sR.le aa) rfl rfl fun N hN=>f86 ρ r.w r.n N _) aj ?_;refine gw sG m1 p1 p2 q1 q2 @aA ?_;have ZZ:∀N,aq (nx+14) M1 N->bG N b r.p [.int .i64 pk,.int .u64 pa,.int .u64 pb,pv]:=fun N hN=>hp.agr ((a1.trans (hN.le aa)).le hb)
 obtain⟨v1,N,bD,hC,⟨TR,qx,sP⟩,Mj,jT,lH,mN⟩:=bN.made' (P:=an) (ρ:=ρ) (g:=87) (args:=[.agg [.int .i64 pk,.int .u64 pa,.int .u64 pb,pv]]) (M:=M1) (nx:=nx+14) (Q:=kO (nx+14) r.p) (sR.le aa)
  (by simp only[aE,aO];rw[aO.le aa vh]) (fun N hN=>f87 _ { ρ with det:=true } r.p N (nx+14) b _ (aby _) (ZZ N hN) aa hc)
  (fun N _ hN=>kO.ex hc hN)
 simp only at qx sP;subst qx;obtain⟨k1,x1,y1,w1,rfl,qC⟩:=sP.shape;have dz:∀q,q<nx+14->gG (aY M1 (dH N (nx+14) bD)) q=gG M1 q:=fun q hq=>by rw[bW,if_neg aa]
 have mO:∀q,q<bD->gG (aY M1 (dH N (nx+14) bD)) q=gG N q:=fun q hq=>by
  by_cases h:nx+14<=q;·rw[bW,if_pos ⟨h,hq⟩]
  rw[dz q aa,Mj q aa]
 have iO:=eI N (nx+14) bD;have uR:Cl bD (aY M1 (dH N (nx+14) bD)):=fun q o ho=>by
  by_cases h:q<bD
  ·rw[mO q h]at ho
   exact lH q o ho
  rw[bW,if_neg aa]at ho;exact sR.le aa q o ho
 refine aT hC aj ?_;have z0:=(dz nx aa).trans m1;have z1:=(dz (nx+1) aa).trans m2;have AZ:aO bD w1=true:=by
  simp only[aO,aE]at mN;split at mN;·assumption
  cases mN
 have CC:ji (aY M1 (dH N (nx+14) bD)) (fun q=>nx+14<=q/\q<bD) r.p [.int .i64 k1,.int .u64 x1,.int .u64 y1,w1]:=sP.keep fun q hq=>by obtain⟨r1,r2⟩:nx+14<=q/\q<bD:=hq;exact⟨mO q r2,r1,r2⟩
 have Mp:aq nx M (aY M1 (dH N (nx+14) bD)):=fun q hq=>(dz q aa).trans (a1 q hq)
 have ay:=fun N=>bE.len (P:=an) (t:=45) dZ iH.2.2.2.2.2 N
 refine ti sG @aA qC.1 qC.2 ?_;refine⟨?_,?_⟩
 ·clear ay Mp CC AZ z0 z1 uR mO dz sP mN Mj ZZ sR m1 m2
  have Bi:∀q ∈ bM (dH N (nx+14) bD),q ∉ aa7 (nx+10):=fun q hq=>by have:=iO q hq;simp only[ady];omega
  have ZA:∀q ∈ bM (dH N (nx+14) bD),q ∉ [nx]:=fun q hq=>by have:=iO q hq;simp only[aaE];omega
  have RP:∀q ∈ [bD+1],q ∉ aa7 (nx+14)/\q ∉ aa7 (nx+10)/\q ∉ [nx]/\q ∉ bM (dH N (nx+14) bD):=fun q hq=>by
   have hq:q=bD+1:=by simpa using hq
   subst hq;refine⟨by simp only[ady];omega,by simp only[ady];omega,by simp only[aaE];omega,fun h=>by have:=iO _ h;omega⟩
  repeat' apply ao
  all_goals (refine bn _ _ _ _ _ _ ?_ ?_ ?_<;>first | exact Bi | exact ZA | exact fun q hq=>(RP q hq).1 | exact fun q hq=>(RP q hq).2.1 | exact fun q hq=>(RP q hq).2.2.1 | exact fun q hq=>(RP q hq).2.2.2 | exact fun q hq=>aaZ | (intro q hq;cases hq) | (intro q hq nP;exact(RP q nP).1 hq) | (intro q hq nP;exact(RP q nP).2.2.2 hq))
 generalize aW:aG (aG (aY M1 _) _ _) _ _=M2;have m0:gG M2 nx=some (.row [.int .i64 r.kind,.int .u64 r.t,.int .u64 r.x,.int .u64 r.w,.int .u64 r.n,.int .u64 r.v,.int .i64 pk,.int .u64 pa,.int .u64 pb,pv,ve]):=by rw[<-aW];exact J
 have n1:gG M2 (nx+1)=some (.row [.int .i64 0,.int .u64 0,.int .u64 0,.int .u64 0,.int .u64 0,.int .u64 0,.int .i64 0,.int .u64 0,.int .u64 0,.nils,.nils]):=by rw[<-aW];exact J
 have n3:gG M2 (bD+1)=some (.row [.int .i64 r.kind,.int .u64 r.t,.int .u64 r.x,.int .u64 r.w,.int .u64 r.n,.int .u64 r.v,.int .i64 k1,.int .u64 x1,.int .u64 y1,w1,.nils]):=by rw[<-aW];exact J
 have a2:aq nx M M2:=by rw[<-aW];exact(by(repeat (refine aq.set ?_ aa _));exact Mp)
 have Qt:ji M2 (fun q=>nx+14<=q/\q<bD) r.p [.int .i64 k1,.int .u64 x1,.int .u64 y1,w1]:=CC.keep fun q hq=>by obtain⟨r1,r2⟩:nx+14<=q/\q<bD:=hq;rw[<-aW];exact⟨J,r1,r2⟩
 have AV:Cl (bD+4) M2:=by rw[<-aW];refine((uR.le (show bD<=bD+4 by omega)).set aa rfl).set aa ?_;simp only[cp,aE,aO];rw[aO.le aa AZ]
 clear aW CC uR mO dz z0 z1 m1 m2 sP Mj sR ZZ iO mN a1 Mp hC lH;refine aC (fun m' s=>∃(i K:Nat) (vv:XV),i<=r.es.length/\m'=r.es.length - i/\gG s.env 1=some (.mp nx 0)/\gG s.env 2=some (.mp (nx+1) 0)/\gG s.env 3=some (.mp (bD+1) 0)/\gG s.env 4=some (.int .i64 i) /\
  gG s.M nx=some (.row [.int .i64 r.kind,.int .u64 r.t,.int .u64 r.x,.int .u64 r.w,.int .u64 r.n,.int .u64 r.v,.int .i64 pk,.int .u64 pa,.int .u64 pb,pv,ve]) /\
  gG s.M (nx+1)=some (.row [.int .i64 0,.int .u64 0,.int .u64 0,.int .u64 0,.int .u64 0,.int .u64 0,.int .i64 0,.int .u64 0,.int .u64 0,.nils,.nils]) /\
  gG s.M (bD+1)=some (.row [.int .i64 r.kind,.int .u64 r.t,.int .u64 r.x,.int .u64 r.w,.int .u64 r.n,.int .u64 r.v,.int .i64 k1,.int .u64 x1,.int .u64 y1,w1,vv]) /\
  (vv = .nils/\i=0\/0<i/\vv = .sl K 4 0 i i/\gG s.M K=some (.row ((r.es.take i).flatMap gq)))/\bD+1<K/\K<s.nx /\
  ji s.M (fun q=>nx+14<=q/\q<bD) r.p [.int .i64 k1,.int .u64 x1,.int .u64 y1,w1]/\aq nx M s.M/\Cl s.nx s.M) r.es.length ⟨0,bD+2,.nils,aa,aa,?_⟩ ?_
 ·refine bR sG ?_
  exact⟨m0,n1,n3,.inl trivial,aa,aa,Qt,a2,AV⟩
 rintro m' ⟨env,M',nx'⟩ ⟨i,K,vv,hi,ir,e1,e2,e3,e4,z0,z1,z3,vi,Gg,Gh,hE,ha,jZ⟩;simp only at e1 e2 e3 e4 z0 z1 z3 vi Gh hE ha jZ;have MI:cellsOf vv=[vv]/\ax vv=true:=by rcases vi with ⟨rfl,_⟩ | ⟨_,rfl,_⟩<;>exact⟨rfl,rfl⟩
 by_cases aL:(i:Int)<r.es.length
 ·have aP:i<r.es.length:=aa
  obtain⟨e,gA⟩:=aao aP;have bV:=eF i;obtain⟨n,o,jw,bC,aU⟩:=bE.elem (P:=an) dZ aP (t:=45) (t':=67) iH.2.2.2.1 G2.1;have aU:=aU M' (ha.le hb);rw[iz _ _ _ gA]at aU;simp only[gq]at aU;refine dw sG e1 e2 e3 e4 ay aL bC aU z0 z3 ?_;generalize oM:aG (aG M' _ _) _ _=M3;have a3:∀q,q<nx'+10->gG M3 q=gG M' q:=fun q hq=>by rw[<-oM];exact J
  have m5:gG M3 (nx'+10)=some (.row [.int .u64 e.x,.int .u64 e.w,.int .u64 e.n,.bool e.m]):=by rw[<-oM];exact J
  have yG:Cl (nx'+11) M3:=by rw[<-oM];exact((jZ.le (show nx'<=nx'+11 by omega)).set aa rfl).set aa rfl
  clear oM;have y0:=(a3 nx aa).trans z0;have y1':=(a3 (nx+1) aa).trans z1;have y3:=(a3 (bD+1) aa).trans z3;refine aT (bN.read (v:=.agg [.int .u64 e.w,.int .u64 e.n]) (yG.le aa) rfl rfl fun N hN=>f86 ρ e.w e.n N _) aj ?_;have bw:=qO (f:=gq) gA;rcases vi with ⟨rfl,rfl⟩ | ⟨AW,rfl,hK⟩
  ·have MJ:IntKind.i64.wrap (0+1)=((1:Nat):Int):=aj
   refine CU sG m5 y3 @aA MJ e1 e2 e3 e4 ?_;have xj:abc (nx'+22) (nx'+28)=true:=by rw[blt_eq];omega
   refine⟨bn _ _ _ _ _ _ (fun q hq=>by simp only[aaE]at hq ⊢;omega) (fun q hq=>af) (fun q hq=>by simp at hq),r.es.length - (1),aa,1,nx'+22,_,aa,rfl,rfl,y0,y1',rfl,.inr ⟨aa,rfl,?_⟩,aa,aa,hE.keep fun q hq=>?_,fun q hq=>?_,?_⟩
   ·rw[if_neg (by simp only[aw];omega),if_pos (show aw _ _ from rfl),bw]
    rfl
   ·obtain⟨r1,r2⟩:nx+14<=q/\q<bD:=hq
    have:=a3 q aa;exact⟨J,r1,r2⟩
   ·have:=(a3 q aa).trans (ha q hq)
    exact J
   refine(((yG.le (show nx'+11<=nx'+28 by omega)).set aa rfl).set aa rfl).set aa ?_;simp only[cp,aE,aO,xj];rw[aO.le aa AZ]
  have qK:=(a3 K aa).trans hK;obtain⟨rw',Oe⟩:=aap ((r.es.take i).flatMap gq);rw[<-Oe]at qK bw;have je:rw'.length=i*4:=by rw[Oe,fg (sz:=4) (fun a=>rfl),aaS];congr 1;omega
  have kB:rw'.take (i*4)=rw':=aaz aa;have QQ:aE (nx'+11) rw'=true:=by simpa only [cp] using (yG _ _ qK).2
  refine ii sG m5 y3 qK je kB @aA bV e1 e2 e3 e4 ?_;have xj:abc (nx'+22) (nx'+28)=true:=by rw[blt_eq];omega
  refine⟨bn _ _ _ _ _ _ (fun q hq=>by simp only[aaE]at hq ⊢;omega) (fun q hq=>af) (fun q hq=>by simp at hq),r.es.length - (i+1),aa,i+1,nx'+22,_,aa,rfl,rfl,y0,y1',rfl,.inr ⟨aa,rfl,?_⟩,aa,aa,hE.keep fun q hq=>?_,fun q hq=>?_,?_⟩
  ·rw[if_neg (by simp only[aw];omega),if_pos (show aw _ _ from rfl),bw]
   rfl
  ·obtain⟨r1,r2⟩:nx+14<=q/\q<bD:=hq
   have:=a3 q aa;exact⟨J,r1,r2⟩
  ·have:=(a3 q aa).trans (ha q hq)
   exact J
  refine((((yG.le (show nx'+11<=nx'+28 by omega)).set aa rfl).del).set aa (by simp only[cp];exact jA (aE.le aa QQ) rfl)).set aa ?_;simp only[cp,aE,aO,xj];rw[aO.le aa AZ]
 have gB:i=r.es.length:=aa;refine ii sG e1 e2 e3 e4 ay aL z0 z1 z3 qC.1 (aI qC.2 (aI MI.1 MI.2)) ?_;refine⟨⟨_,rfl,[.int .i64 k1,.int .u64 x1,.int .u64 y1,w1],vv,rfl,hE.keep fun q hq=>?_,⟨aa,Xa _,?_⟩⟩,(by(repeat (refine aq.set ?_ aa _));exact ha),aa⟩
 ·obtain⟨r1,r2⟩:nx+14<=q/\q<bD:=hq
  exact⟨J,show nx<=q/\q<nx'+7 by omega⟩
 rcases vi with ⟨rfl,h0⟩ | ⟨h0,rfl,hK⟩
 ·exact .inl ⟨rfl,aa⟩
 rw[gB,aa6]at hK;exact .inr ⟨K,by rw[gB],show nx<=K/\K<nx'+7 by omega,J⟩
theorem oF (ρ:aK) {M:Hp} {nx:Nat} {v:XV} (hL:cP M b v L) (hb:b<=nx) (hl:L.length<=100000) (ip:∀r ∈ L,dV r.p<=100000/\r.es.length<=100000) :
 ar an ρ 16 [v] M nx fun o=>KE nx L o/\aq nx M o.2.1/\nx<=o.2.2:=by
 obtain⟨row,cw,gS⟩:=hL;have ay:=fun N=>cw.len (P:=an) (t:=22) jp.2.2.2.2.2 N
 refine ar.wk 20 [.tmp 2] Tryz.func16 ?_;refine bR sO ?_;refine aC (fun m' s=>∃(i K:Nat) (vv:XV) (rw:List XV),i<=L.length/\m'=L.length - i/\gG s.env 0=some v/\gG s.env 3=some vv/\gG s.env 4=some (.int .i64 i)/\rw.length=i*11/\(vv = .nils/\i=0\/0<i/\vv = .sl K 11 0 i i/\gG s.M K=some (.row rw))/\nx<=K/\K<s.nx /\
  (∀j r,j<i->L[j]?=some r->lg s.M (fun q=>nx<=q/\q<K) r ((rw.drop (j*11)).take 11))/\aq nx M s.M) L.length ⟨0,nx,.nils,[],aa,aa,?_⟩ ?_
 ·refine bR sO ?_
  refine⟨.inl trivial,aa,aa,fun j e h=>absurd h (not_lt_zero _),aq.refl _ _⟩
 rintro m' ⟨env,M',nx'⟩ ⟨i,K,vv,rw',hi,ir,e0,e3,e4,je,vi,Gg,Gh,fF,ha⟩;simp only at e0 e3 e4 vi Gh fF ha;by_cases aL:(i:Int)<L.length
 ·have aP:i<L.length:=aa
  obtain⟨r,hr⟩:=aao aP;have bV:=eF i;obtain⟨n,o,jw,bC,aU⟩:=cw.elem (P:=an) aP (t:=22) (t':=47) jp.2.2.2.1 nQ.1;have aU:=aU M' (ha.le hb);refine iQ sO e0 e3 e4 ay aL bC aU ?_;obtain⟨FY,sS⟩:=ip r (aaH hr);refine gQ (f46 ρ ((gS i r hr).agr (ha.le hb)) aa FY sS) ?_;rintro⟨u,M2,n2⟩ ⟨⟨cs,g1,g2⟩,g3,g4⟩;simp only at g1 g2 g3 g4;subst g1;obtain⟨pk,pa,pb,pv,ve,dI,⟨p1,p2⟩,⟨q1,q2⟩⟩:=g2.cells;have qB:∀(H:Hp) (K':Nat) (oQ:List XV),n2<=K'->oQ=rw'++cs->(∀q,q<n2->q≠K->gG H q=gG M2 q)->∀j r',j<i+1->L[j]?=some r'->lg H (fun q=>nx<=q/\q<K') r' ((oQ.drop (j*11)).take 11):=fun H K' oQ Ml Oe hH j r' hj sA=>by
   subst Oe;rw[mf je g2.len hj];split
   ·rename_i kX
    refine(fF j r' kX sA).keep fun q hq=>?_
    obtain⟨r1,r2⟩:nx<=q/\q<K:=hq;exact⟨by rw[hH q aa aa,g3 q aa],r1,aa⟩
   have:j=i:=aa;subst this;rw[hr]at sA;cases sA;refine g2.keep fun q hq=>?_
   obtain⟨r1,r2⟩:nx'+9<=q/\q<n2:=hq;exact⟨hH q r2 aa,aa,aa⟩
  rcases vi with ⟨rfl,rfl⟩ | ⟨AW,rfl,hK⟩
  ·have mP:rw'=[]:=aaG.1 aa
   subst mP;rw[dI]at qB;subst dI;have MJ:IntKind.i64.wrap (0+1)=((1:Nat):Int):=aj;refine CU sO p1 p2 q1 q2 MJ e0 e3 e4 ?_;refine⟨L.length - 1,aa,1,n2+1,_,_,aa,rfl,rfl,rfl,rfl,.inr ⟨aa,rfl,if_pos (show aw _ _ from rfl)⟩,aa,aa,qB _ (n2+1) _ aa rfl fun q hq nP=>J,fun q hq=>?_⟩;have:=(g3 q aa).trans (ha q hq);exact J
  have qK:=(g3 K aa).trans hK;have kB:rw'.take (i*11)=rw':=aaz aa;rw[dI]at qB;subst dI;refine ii sO qK je kB p1 p2 q1 q2 bV e0 e3 e4 ?_;refine⟨L.length - (i+1),aa,i+1,n2+1,_,_,aa,rfl,rfl,rfl,by rw[aau,je];simp only[aaw,aaO];omega,.inr ⟨aa,rfl,if_pos (show aw _ _ from rfl)⟩,aa,aa,qB _ (n2+1) _ aa rfl fun q hq nP=>J,fun q hq=>?_⟩;have:=(g3 q aa).trans (ha q hq);exact J
 have gB:i=L.length:=aa;refine iC sO e0 e3 e4 ay aL ?_;refine⟨⟨rw',⟨aa,by rw[je,gB],?_⟩,fun j r hr=>?_⟩,ha,aa⟩
 ·rcases vi with ⟨rfl,h0⟩ | ⟨h0,rfl,hK⟩
  ·exact .inl ⟨rfl,aa⟩
  exact .inr ⟨K,by rw[gB],show nx<=K/\K<nx'+6 by omega,hK⟩
 refine(fF j r (by have:=(aaq.1 hr).1;omega) hr).keep fun q hq=>?_
 obtain⟨r1,r2⟩:nx<=q/\q<K:=hq;exact⟨rfl,show nx<=q/\q<nx'+6 by omega⟩
theorem Xf (ρ:aK) {M:Hp} {nx:Nat} {l:List aR} (h:cZ M lo hi m l) (hh:hi<=nx) (t x:Int) :
 ∃v,bE M hi v 2 (bd l t x).length ((bd l t x).flatMap et)/\∀M' nx',aq nx M M'->nx<=nx'->ar an ρ 320 [.mp m 0,.int .u64 t,.int .u64 x] M' nx' (fe nx' M' v):=by
 obtain⟨tag,ps,vnum,vnames,vrows,vend,rs,le,h⟩:=h;cases hp:ou ps (t,x) with
 | none =>
   have hr:bd l t x=[]:=Classical.byContradiction fun cf=>qN.1 hp (h.whole t x cf)
   refine⟨.nils,by rw[hr];exact⟨af,.inl ⟨rfl,rfl,rfl⟩⟩,fun M' nx' ha hn=>?_⟩;have hM:=(ha m (by have:=h.m_hi;omega)).trans h.row;refine ar.wk 28 [.tmp 6] Tryz.func320 ?_;refine dt FH ?_;refine gQ (f358 ρ hM (by have:=h.m_hi;omega) (h.num.agr (ha.le hh) (u7 _)) aa t x) ?_;rintro⟨u,M2,n2⟩ ⟨g1,g2,g3⟩;simp only[hp,getD_none,isSome_none]at g1 g2 g3;subst g1;refine fM FH @fe.eq_1 ?_;exact⟨g2.le aa,aa⟩
 | some i =>
   obtain⟨j,rfl,hj⟩:=xi hp;obtain⟨cf,v,hv,hw⟩:=h.all j t x hj;refine⟨v,hw.sl,fun M' nx' ha hn=>?_⟩;have hM:=(ha m (by have:=h.m_hi;omega)).trans h.row;have aL:j<ps.length:=(aaq.1 hj).1;obtain⟨n,o,jw,bC,aU⟩:=h.rows.sl.fldG (P:=an) aL (t:=147) zi.2.2.2.1;refine ar.wk 28 [.tmp 6] Tryz.func320 ?_;refine dt FH ?_;refine gQ (f358 ρ hM (by have:=h.m_hi;omega) (h.num.agr (ha.le hh) (u7 _)) aa t x) ?_;rintro⟨u,M2,n2⟩ ⟨g1,g2,g3⟩;simp only[hp,getD_some,isSome_some]at g1 g2 g3;subst g1;have aW:=(g2 m (by have:=h.m_hi;omega)).trans hM;have hl:=aU 0 v aa (by simp[hv]) 356 1 Ir.1 M2 (((ha.trans (g2.le aa))).le hh);rw[aaX]at hl;refine lO FH aW bC hl @fe.eq_1 ?_;exact⟨g2.le aa,aa⟩
theorem wrap_u64 {n:Int} (h0:0<=n) (h1:n<=18446744073709551615):IntKind.u64.wrap n=n:=by rw[IntKind.wrap_u64];omega
def wy (o:Option Md):XV:=match o with | some d=>.tup [.agg (et d),.int .i64 0] | none=>.tup [.agg [.int .u64 0,.bool false],.int .i64 70]
theorem Jl:∀(es:List Md) (i:Nat) (e:Md),es[i]?=some e->((es.flatMap et).drop (i*2)).take 2=et e
 | [],_,_,h=>by simp at h
 | a::es,0,e,h=>by simp only[aaI,aat]at h;subst h;simp[et]
 | a::es,i+1,e,h=>by simp only[aa1]at h;have:=Jl es i e h;rw[<-this,aaN,show (i+1)*2=(et a).length+i*2 by simp[et];omega,<-drop_drop];simp
theorem Qe (ρ:aK) {M:Hp} {nx:Nat} {l:List aR} (h:cZ M lo hi m l) (hh:hi<=nx) (x w n:Int):ar an ρ 319 [.mp m 0,.int .u64 x,.agg [.int .u64 w,.int .u64 n]] M nx (fe nx M (wy (rV l x w n))):=by
 obtain⟨v,cw,bA⟩:=Xf ρ h hh w x;have ay:=fun N=>cw.len (P:=an) (t:=356) Ir.2.2.2.2.2 N
 have hz:=cw.1;have a1:=fun o=>(aq.refl nx M).set (u7 nx) o
 refine ar.wk 37 [.cell 6 290,.tmp 7] Tryz.func319 ?_;refine dt sH ?_;refine lL (bA _ _ ((a1 _).set aa _) aa) aj ?_ ?_;·refine dt sH ?_;try exact⟨⟩
 rintro⟨u,M2,n2⟩ ⟨g1,g2,g3⟩;simp only at g1 g2 g3;subst g1;have y:=g2 nx aa;rw[ap,if_neg aa,ap,if_pos rfl]at y;have y2:=g2 (nx+1) aa;rw[ap,if_pos rfl]at y2;have a2:=((a1 _).set (le_succ _) _).trans (g2.le aa);have hw:IntKind.u64.wrap ((bd l w x).length:Int)=(bd l w x).length:=wrap_u64 aa aa;by_cases c1:n<1
 ·refine ky sH y y2 c1 ay hw @fe.eq_1 ?_
  exact⟨by simp only[rV];rw[if_neg aa];rfl,a2.set aa _,aa⟩
 by_cases c2:((bd l w x).length:Int)<n
 ·refine oq sH y y2 c1 c2 ay hw @fe.eq_1 ?_
  exact⟨by simp only[rV];rw[if_neg aa];rfl,a2.set aa _,aa⟩
 obtain⟨j,rfl⟩:∃j:Nat,n=((j+1:Nat):Int):=⟨(n - 1).toNat,aa⟩;have hj:j<(bd l w x).length:=aa;obtain⟨d,hd⟩:∃d,(bd l w x)[j]?=some d:=⟨(bd l w x)[j],by simp[hj]⟩;obtain⟨k,o,jw,bC,aU⟩:=cw.elem (P:=an) hj (t:=356) (t':=290) Ir.2.2.2.1 Sh.1;rw[Jl _ j d hd]at aU;have hl:=aU M2 (a2.le hh);have bV:IntKind.u64.wrap (((j+1:Nat):Int) - 1)=(j:Int):=by rw[wrap_u64 aa aa];omega
 simp only[et]at hl;refine zQ sH y y2 c1 c2 ay hw bV bC hl @fe.eq_1 ?_;refine⟨?_,a2.set aa _,aa⟩;simp only[rV];rw[if_pos ⟨aa,aa⟩,show (((j+1:Nat):Int) - 1).toNat=j by omega,hd];rfl
def fI (r:aR) (t x:Int):Bool:=decide (r.kind=3\/r.kind=4)&&(decide (r.t=t)&&decide (r.x=x))
theorem f198 (ρ:aK) {M:Hp} {nx:Nat} (hr:eo M b r cs) (t x:Int):ar an ρ 198 [.agg cs,.int .u64 t,.int .u64 x] M nx (fe nx M (.bool (fI r t x))):=by
 obtain⟨pk,pa,pb,pv,ve,rfl,⟨p1,p2⟩,⟨q1,q2⟩,_,_⟩:=hr.cells;refine ar.wk 27 [.tmp 6] Tryz.func198 ?_;by_cases h3:r.kind=3
 ·by_cases ht:r.t=t
  ·by_cases hx:r.x=x
   ·refine CU zk p1 p2 q1 q2 h3 ht hx @fe.eq_1 ?_
    exact⟨by simp[fI,h3,ht,hx],O,aa⟩
   refine CU zk p1 p2 q1 q2 h3 ht hx @fe.eq_1 ?_;exact⟨by simp[fI,h3,ht,hx],O,aa⟩
  refine iQ zk p1 p2 q1 q2 h3 ht @fe.eq_1 ?_;exact⟨by simp[fI,h3,ht],O,aa⟩
 by_cases h4:r.kind=4
 ·by_cases ht:r.t=t
  ·by_cases hx:r.x=x
   ·refine CU zk p1 p2 q1 q2 h4 ht hx @fe.eq_1 ?_
    exact⟨by simp[fI,h4,ht,hx],O,aa⟩
   refine CU zk p1 p2 q1 q2 h4 ht hx @fe.eq_1 ?_;exact⟨by simp[fI,h4,ht,hx],O,aa⟩
  refine iQ zk p1 p2 q1 q2 h4 ht @fe.eq_1 ?_;exact⟨by simp[fI,h4,ht],O,aa⟩
 refine iQ zk p1 p2 q1 q2 h3 h4 @fe.eq_1 ?_;exact⟨by simp[fI,h3,h4],O,aa⟩
def dq (L:List aR) (t x:Int):Nat:=(L.filter fun r=>fI r t x).length
theorem qS (h:L[i]?=some r) (t x:Int):dq (L.take (i+1)) t x=dq (L.take i) t x+(if fI r t x then 1 else 0):=by unfold dq;rw[aba,h,toList_some,filter_append,aau];congr 1;cases hh:fI r t x<;>simp[hh]
theorem Dc (L:List aR) (t x:Int):dq L t x<=L.length:=abh _ _
theorem Wm (ρ:aK) {M:Hp} {nx:Nat} {v:XV} (hL:cP M b v L) (hb:b<=nx) (hl:L.length<=100000) (t x:Int):ar an ρ 135 [v,.int .u64 t,.int .u64 x] M nx (fe nx M (.int .u64 (dq L t x))):=by
 obtain⟨row,cw,gS⟩:=hL;have ay:=fun N=>cw.len (P:=an) (t:=57) nO.2.2.2.2.2 N
 refine ar.wk 25 [.tmp 6] Tryz.func135 ?_;refine bR Fs ?_;refine aC (fun m' s=>∃(i:Nat),i<=L.length/\m'=L.length - i/\gG s.env 0=some v/\gG s.env 1=some (.int .u64 t)/\gG s.env 2=some (.int .u64 x)/\gG s.env 7=some (.int .u64 (dq (L.take i) t x))/\gG s.env 8=some (.int .i64 i)/\aq nx M s.M/\nx<=s.nx) L.length ⟨0,aa,aa,?_⟩ ?_
 ·refine bR Fs ?_
  exact⟨rfl,aq.refl _ _,aa⟩
 rintro m' ⟨env,M',nx'⟩ ⟨i,hi,ir,e0,e1,e2,e7,e8,ha,hn⟩;simp only at e0 e1 e2 e7 e8 ha hn;by_cases aL:(i:Int)<L.length
 ·have aP:i<L.length:=aa
  obtain⟨r,hr⟩:=aao aP;have bV:=eF i;have hc:=qS hr t x;have cF:=Dc (L.take i) t x;have AV:(L.take i).length<=100000:=by rw[aaS];omega
  obtain⟨n,o,jw,bC,aU⟩:=cw.elem (P:=an) aP (t:=57) (t':=114) nO.2.2.2.1 oH.1;have aU:=aU M' (ha.le hb);refine dp Fs e0 e1 e2 e7 e8 ay aL bC aU ?_;refine lG (f198 ρ ((gS i r hr).agr (ha.le hb)) t x) fun M2 n2 g2 g3=>?_
  cases hm:fI r t x with
  | true =>
    rw[hm]at hc;have F_:IntKind.u64.wrap ((dq (L.take i) t x:Int)+1)=((dq (L.take (i+1)) t x:Nat):Int):=by rw[wrap_u64 aa aa];simp at hc;omega
    refine CU Fs hm bV F_ e0 e1 e2 e7 e8 ?_;exact⟨L.length - (i+1),aa,i+1,aa,rfl,rfl,rfl,ha.trans (g2.le aa),aa⟩
  | false =>
    rw[hm]at hc;have jY:dq (L.take i) t x=dq (L.take (i+1)) t x:=by simp at hc;omega
    refine iQ Fs hm bV e0 e1 e2 e7 e8 ?_;exact⟨L.length - (i+1),aa,i+1,aa,rfl,by rw[jY],rfl,ha.trans (g2.le aa),aa⟩
 have gB:i=L.length:=aa;refine CU Fs e0 e1 e2 e7 e8 ay aL @fe.eq_1 ?_;exact⟨by rw[gB,aa6],ha,aa⟩
def pj (n:Int):List XV:=[.int .u64 n]
def iS (L:List aR):List Int:=gV (fun _ r=>if r.kind=6 then some r.t else none) L 0
theorem f92 (ρ:aK) {M:Hp} {nx:Nat} {v:XV} (hL:cP M b v L) (hb:b<=nx) (hl:L.length<=100000):ar an ρ 92 [v] M nx (og nx M 1 pj (iS L)):=by
 obtain⟨row,cw,gS⟩:=hL;have ay:=fun N=>cw.len (P:=an) (t:=57) nO.2.2.2.2.2 N
 refine ar.wk 26 [.tmp 2] Tryz.func92 ?_;refine bR L7 ?_;obtain⟨f,hf⟩:∃f:Nat->aR->Option Int,f=fun _ r=>if r.kind=6 then some r.t else none:=⟨_,rfl⟩
 have yI:iS L=gV f L 0:=by rw[hf];rfl
 refine aC (fun m' s=>∃(i:Nat) (vv:XV),i<=L.length/\m'=L.length - i/\gG s.env 0=some v/\gG s.env 3=some vv/\gG s.env 4=some (.int .i64 i)/\di s.M nx s.nx vv 1 pj (gV f (L.take i) 0)/\aq nx M s.M/\nx<=s.nx) L.length ⟨0,.nils,aa,aa,?_⟩ ?_
 ·refine bR L7 ?_
  exact⟨dG.nil _ _,aq.refl _ _,aa⟩
 rintro m' ⟨env,M',nx'⟩ ⟨i,vv,hi,ir,e0,e3,e4,hv,ha,hn⟩;simp only at e0 e3 e4 hv ha hn;by_cases aL:(i:Int)<L.length
 ·have aP:i<L.length:=aa
  obtain⟨r,hr⟩:=aao aP;have bV:=eF i;have kS:=iM f hr;have Gl:=dS f (L.take i) 0;have FZ:(L.take i).length<=100000:=by rw[aaS];omega
  obtain⟨n,o,jw,bC,mi⟩:=cw.fldG (P:=an) aP (t:=57) nO.2.2.2.1;obtain⟨pk,pa,pb,pv,ve,dI,_⟩:=(gS i r hr).cells;have hk:=fun N hN=>mi 0 (.int .i64 r.kind) aa (by rw[dI];rfl) 3 1 dA.1 N hN
  have hT:=fun N hN=>mi 1 (.int .u64 r.t) aa (by rw[dI];rfl) 31 1 cU.1 N hN
  have hk:=hk M' (ha.le hb);have hT:=hT M' (ha.le hb);rw[aaX]at hk;by_cases h6:r.kind=6
  ·have h_:f i r=some r.t:=by rw[hf];simp[h6]
   rw[h_]at kS;have dX:=hv.push r.t an 79 8 [.int .u64 0] aa aa rfl (by simp only[fE];omega) rfl;simp only[pj]at dX;refine ii L7 e0 e3 e4 ay aL bC hk hT h6 bV dX ?_;refine⟨L.length - (i+1),aa,i+1,_,aa,rfl,rfl,rfl,?_,fun q hq=>?_,aa⟩
   ·rw[kS]
    exact hv.pushed r.t aa aa rfl aa
   rw[dG.push_old hv _ (.inl hq) aa];have:=ha q hq;exact J
  have h_:f i r=none:=by rw[hf];simp[h6]
  rw[h_]at kS;refine dp L7 e0 e3 e4 ay aL bC hk h6 bV ?_;exact⟨L.length - (i+1),aa,i+1,_,aa,rfl,rfl,rfl,by rw[kS];simpa using hv.up (fun _ _ _=>rfl) aa,ha,aa⟩
 have gB:i=L.length:=aa;refine gw L7 e0 e3 e4 ay aL @og.eq_1 ?_;rw[gB,aa6,<-yI]at hv;exact⟨hv.up (fun _ _ _=>rfl) aa,ha,aa⟩
mutual
def iW:Ex->Ex->Bool
 | .mk k a c ps,.mk k' a' c' ps'=>decide (k=k')&&(decide (a=a')&&(decide (c=c')&&fy ps ps'))
def fy:List Ex->List Ex->Bool
 | [],[]=>true
 | e::es,e'::es'=>iW e e'&&fy es es'
 | _,_=>false
end
theorem rQ:∀{l l':List Ex},fy l l'=true->l.length=l'.length
 | [],[],_=>rfl
 | [],_::_,h=>by simp[fy]at h
 | _::_,[],h=>by simp[fy]at h
 | a::l,c::l',h=>by simp only[fy,aaF]at h;simp[rQ h.2]
theorem xN {l l':List Ex} {a c:Ex} (h:l[i]?=some a) (h':l'[i]?=some c):fy (l.drop i) (l'.drop i)=(iW a c&&fy (l.drop (i+1)) (l'.drop (i+1))):=by obtain⟨h1,rfl⟩:=aaq.1 h;obtain⟨h2,rfl⟩:=aaq.1 h';rw[aaV h1,aaV h2];rfl
theorem bG.cells {M:Hp} {e:Ex} (h:bG M b e cs):∃a1 a2 a3 a4,cs=[.int .i64 a1,.int .u64 a2,.int .u64 a3,a4]/\cellsOf a4=[a4]/\ax a4=true:=by obtain⟨k',x',y',ps'⟩:=e;simp only[bG]at h;obtain⟨v',row',rfl,ox,_⟩:=h;exact⟨_,_,_,_,rfl,ox.cell⟩
theorem f379 (ρ:aK) {l l':List Ex} {M:Hp} {nx:Nat} {v v':XV} {row row':List XV} (h:bE M b v 4 l.length row) (hp:cj M b l row) (h':bE M b v' 4 l'.length row') (uV:cj M b l' row') (hb:b<=nx)
 (hq:∀e ∈ l,∀e' (M':Hp) (nx':Nat) (cs cs':List XV),nx<=nx'->bG M' b e cs->bG M' b e' cs'->ar an ρ 356 [.agg cs,.agg cs'] M' nx' (fe nx' M' (.bool (iW e e')))) :
 ar an ρ 379 [v,v',.fn (.func 356) [] []] M nx (fe nx M (.bool (fy l l'))):=by
 have ay:=fun N=>h.len (P:=an) (t:=42) gZ.2.2.2.2.2 N
 have A_:=fun N=>h'.len (P:=an) (t:=42) gZ.2.2.2.2.2 N
 have hz:=h.1;refine ar.wk 32 [.tmp 6] Tryz.func379 ?_;by_cases hl:(l.length:Int)=l'.length
 ·refine jz EZ ay A_ hl ?_
  refine aC (fun m s=>∃i:Nat,i<=l.length/\m=l.length - i/\fy (l.drop i) (l'.drop i)=fy l l'/\gG s.env 1=some v'/\gG s.env 2=some (.fn (.func 356) [] [])/\gG s.env 15=some v/\gG s.env 16=some (.int .i64 l'.length)/\gG s.env 17=some (.int .i64 i)/\aq nx M s.M/\nx<=s.nx)
   l.length ⟨0,aa,aa,af,?_⟩ ?_
  ·refine dt EZ ?_
   exact⟨aq.refl _ _,aa⟩
  rintro m ⟨env,M',nx'⟩ ⟨i,hi,hm,pA,e1,e2,gW,pE,CB,ha,hn⟩;simp only at e1 e2 gW pE CB ha hn;by_cases aL:(i:Int)<l'.length
  ·have aP:i<l.length:=aa
   have F1:i<l'.length:=aa;obtain⟨a,Mt⟩:=aao aP;obtain⟨c,Gk⟩:=aao F1;obtain⟨n,o,jw,bC,aU⟩:=h.elem (P:=an) aP (t:=42) (t':=44) gZ.2.2.2.1 fu.1;obtain⟨n2,o2,Ux,iN,dJ⟩:=h'.elem (P:=an) F1 (t:=42) (t':=44) gZ.2.2.2.1 fu.1;have yK:=(hp.get Mt).agr (ha.le hb);have QI:=(uV.get Gk).agr (ha.le hb);generalize (row.drop (i*4)).take 4=r1 at aU yK;generalize (row'.drop (i*4)).take 4=r2 at dJ QI;have MC:∀N,aq nx M' N->b_ an N 44 (.mp n o)=some ⟨.agg r1,[n],[]⟩:=fun N hN=>aU N ((ha.trans hN).le hb)
   have Uu:∀N,aq nx M' N->b_ an N 44 (.mp n2 o2)=some ⟨.agg r2,[n2],[]⟩:=fun N hN=>dJ N ((ha.trans hN).le hb)
   obtain⟨a1,a2,a3,a4,rfl,p1,p2⟩:=yK.cells;obtain⟨c1,c2,c3,c4,rfl,q1,q2⟩:=QI.cells;have g1:=MC M' (aq.refl _ _);have g2:=fun o1 o2'=>Uu (aG (aG M' (nx'+4) o1) (nx'+4) o2') (((aq.refl _ _).set aa _).set aa _)
   have bV:=eF i;have bw:=xN Mt Gk;clear aU dJ MC Uu;refine zQ EZ e1 e2 gW pE CB aL bC iN g1 g2 ?_;generalize aW:aG (aG (aG (aG M' _ _) _ _) _ _) _ _=M2;have ag:aq nx' M' M2:=by rw[<-aW];exact((((aq.refl _ _).set aa _).set aa _).set aa _).set aa _
   clear aW g1 g2;refine gQ (hq a (aaH Mt) c M2 _ _ _ aa (yK.agr (ag.le aa)) (QI.agr (ag.le aa))) ?_;rintro⟨u,M3,n3⟩ ⟨g1,g2,g3⟩;simp only at g1 g2 g3;subst g1;have a3':aq nx M M3:=ha.trans ((ag.le aa).trans (g2.le aa));clear g2 ag hq;cases hs:iW a c with
   | false =>
     refine oq EZ e1 e2 gW pE CB hs @fe.eq_1 ?_;exact⟨by rw[<-pA,bw,hs];rfl,a3',aa⟩
   | true =>
     refine oq EZ e1 e2 gW pE CB hs bV ?_;exact⟨l.length - (i+1),aa,i+1,aa,rfl,by rw[<-pA,bw,hs];rfl,rfl,a3',aa⟩
  have hd:l.drop i=[]:=aaM aa;have py:l'.drop i=[]:=aaM aa;refine oq EZ e1 e2 gW pE CB aL @fe.eq_1 ?_;exact⟨by rw[<-pA,hd,py];rfl,ha,aa⟩
 refine lO EZ ay A_ hl @fe.eq_1 ?_;refine⟨?_,aq.refl _ _,aa⟩;congr 1;cases hq:fy l l' with
 | false=>rfl
 | true=>have:=rQ hq;omega
theorem f356 (ρ:aK):∀(sz:Nat) (e e':Ex) (M:Hp) (nx b:Nat) (cs cs':List XV),dV e<sz->bG M b e cs->bG M b e' cs'->b<=nx->ar an ρ 356 [.agg cs,.agg cs'] M nx (fe nx M (.bool (iW e e'))):=by
 intro sz
 induction sz with
 | zero=>intro e e' M nx b cs cs' h;omega
 | succ sz ih =>
 intro e e' M nx b cs cs' cJ he D1 hb;obtain⟨k,x,y,ps⟩:=e;obtain⟨k',x',y',ps'⟩:=e';simp only[bG]at he D1;obtain⟨v,row,rfl,cw,jd⟩:=he;obtain⟨v',row',rfl,ox,JH⟩:=D1;have hv:=cw.cell;have oP:=ox.cell;have go:∀(M1:Hp) (n1:Nat),nx<=n1->aq nx M M1->ar an ρ 379 [v,v',.fn (.func 356) [] []] M1 n1 (fe n1 M1 (.bool (fy ps ps'))):=fun M1 n1 hn hA =>
  f379 ρ (nx:=n1) (cw.agr (hA.le hb)) (jd.agr (hA.le hb)) (ox.agr (hA.le hb)) (JH.agr (hA.le hb)) aa fun e hm e' M' nx' cs cs' yZ h1 h2=>ih e e' M' nx' b cs cs' (by have:=fb hm;simp only[dV]at cJ;omega) h1 h2 aa
 clear ih cJ;refine ar.wk 31 [.tmp 4] Tryz.func356 ?_;by_cases c1:k=k'
 ·by_cases c2:x=x'
  ·by_cases c3:y=y'
   ·refine oq fT hv.1 hv.2 oP.1 oP.2 c1 c2 c3 ?_
    refine gQ (go _ _ aa (((aq.refl _ _).set aa _).set aa _)) ?_;rintro⟨u,M3,n3⟩ ⟨g1,g2,g3⟩;simp only at g1 g2 g3;subst g1;refine fM fT @fe.eq_1 ?_;exact⟨by simp[iW,c1,c2,c3],(((aq.refl _ _).set aa _).set aa _).trans (g2.le aa),aa⟩
   refine wT fT hv.1 hv.2 oP.1 oP.2 c1 c2 c3 @fe.eq_1 ?_;exact⟨by simp[iW,c3],((aq.refl _ _).set aa _).set aa _,aa⟩
  refine oq fT hv.1 hv.2 oP.1 oP.2 c1 c2 @fe.eq_1 ?_;exact⟨by simp[iW,c2],((aq.refl _ _).set aa _).set aa _,aa⟩
 refine ky fT hv.1 hv.2 oP.1 oP.2 c1 @fe.eq_1 ?_;exact⟨by simp[iW,c1],((aq.refl _ _).set aa _).set aa _,aa⟩
end
section
open Go.Proofs
mutual
def vw:Ex->Prop
 | .mk _ a b ps=>(0<=a/\0<=b)/\Ni ps
def Ni:List Ex->Prop
 | []=>True
 | e::es=>vw e/\Ni es
end
theorem E_:∀{es:List Ex} {e:Ex},Ni es->e ∈ es->vw e
 | e'::es,e,h,hm=>by
   simp only[Ni]at h;rcases aaK.1 hm with rfl | hm
   ·exact h.1
   exact E_ h.2 hm
theorem ZC {ps:List Ex} {e:Ex} (h:ps[i]?=some e):vC (ps.take (i+1))=max (vC (ps.take i)) (Ee e):=by
 induction ps generalizing i with
 | nil=>simp at h
 | cons a ps ih =>
   cases i with
   | zero =>
     simp only[aaI,aat]at h;subst h;simp[vC]
   | succ i =>
     simp only[aa1]at h;simp only[abt,vC,ih h];omega
theorem ZN {ps:List Ex} {e:Ex} (h:ps[i]?=some e):mb (ps.take (i+1))=mb (ps.take i)+dV e:=by
 induction ps generalizing i with
 | nil=>simp at h
 | cons a ps ih =>
   cases i with
   | zero =>
     simp only[aaI,aat]at h;subst h;simp[mb]
   | succ i =>
     simp only[aa1]at h;simp only[abt,mb,ih h];omega
theorem exsN_take (ps:List Ex) (i:Nat):mb (ps.take i)<=mb ps:=by
 induction ps generalizing i with
 | nil=>simp
 | cons e es ih =>
   cases i with
   | zero=>simp[mb]
   | succ i=>simp only[abt,mb];have:=ih i;omega
theorem f336 (ρ:aK) {k x y:Int} {ps:List Ex} {M:Hp} {nx:Nat} (he:bG M b (.mk k x y ps) cs) (hb:b<=nx) (aQ:gL k x y ps.length=true) (hx:0<=x) (hy:0<=y):ar an ρ 336 [.agg cs] M nx (fe nx M (.bool true)):=by
 simp only[bG]at he;obtain⟨v,row,rfl,cw,jd⟩:=he;have hv:=cw.cell;have ay:=fun N=>cw.len (P:=an) (t:=109) jM.2.2.2.2.2 N
 clear cw jd;have hk:k=1\/k=2\/k=3\/k=4\/k=5\/k=6\/k=7:=by simp only[gL,aaF,decide_eq_true_eq]at aQ;omega
 obtain⟨m,hm⟩:=aap ps.length;rw[<-hm]at aQ;refine ar.wk 73 [.tmp 2] Tryz.func336 ?_;rcases hk with k1 | k1 | k1 | k1 | k1 | k1 | k1
 ·obtain⟨h1,h2,h3⟩:x=0/\y=0/\(ps.length:Int)=0:=by rw[<-hm];subst k1;simp[gL,np,qt,uM]at aQ;omega
  refine CU Io hv.1 hv.2 k1 h1 h2 ay h3 @fe.eq_1 ?_;exact⟨O,aa⟩
 ·obtain⟨h2,h3⟩:y=0/\(ps.length:Int)=0:=by rw[<-hm];subst k1;simp[gL,np,qt,uM]at aQ;omega
  refine iQ Io hv.1 hv.2 k1 h2 ay h3 @fe.eq_1 ?_;exact⟨O,aa⟩
 ·obtain⟨h2,h3⟩:y=0/\(ps.length:Int)=0:=by rw[<-hm];subst k1;simp[gL,np,qt,uM]at aQ;omega
  refine iQ Io hv.1 hv.2 k1 h2 ay h3 @fe.eq_1 ?_;exact⟨O,aa⟩
 ·obtain⟨h2,h3⟩:y<x/\(ps.length:Int)=0:=by rw[<-hm];subst k1;simp[gL,np,qt,uM]at aQ;omega
  refine iQ Io hv.1 hv.2 k1 h2 ay h3 @fe.eq_1 ?_;exact⟨O,aa⟩
 ·obtain⟨h1,h2,h3⟩:x=0/\y=0/\(ps.length:Int)=1:=by rw[<-hm];subst k1;simp[gL,np,qt,uM]at aQ;omega
  refine CU Io hv.1 hv.2 k1 h1 h2 ay h3 @fe.eq_1 ?_;exact⟨O,aa⟩
 ·obtain⟨h1,h2⟩:x=0/\y=0:=by subst k1;simp[gL,np,qt,uM]at aQ;omega
  refine gw Io hv.1 hv.2 k1 h1 h2 @fe.eq_1 ?_;exact⟨O,aa⟩
 obtain⟨h1,h2⟩:x=0/\y=0:=by subst k1;simp[gL,np,qt,uM]at aQ;omega
 refine gw Io hv.1 hv.2 k1 h1 h2 @fe.eq_1 ?_;exact⟨O,aa⟩
theorem f287:∀(sz:Nat) (ρ:aK) (e:Ex) (M:Hp) (nx b:Nat) (cs:List XV),dV e<sz->bG M b e cs->b<=nx->iE e=true->vw e->ar an ρ 287 [.agg cs] M nx (fe nx M (.bool true)):=by
 intro sz
 induction sz with
 | zero=>intro ρ e M nx b cs h;omega
 | succ sz ih =>
 intro ρ e M nx b cs cJ he hb aQ h0;have D1:=he;obtain⟨k,x,y,ps⟩:=e;simp only[bG]at he;obtain⟨v,row,rfl,cw,jd⟩:=he;simp only[vw]at h0;simp only[iE,aaF]at aQ;have hv:=cw.cell;have hl:=cw.1;have ay:=fun N=>cw.len (P:=an) (t:=109) jM.2.2.2.2.2 N
 refine ar.wk 20 [.tmp 2] Tryz.func287 ?_;refine Ao BU hv.1 hv.2 ?_;refine aC (fun m' s=>∃(i:Nat),i<=ps.length/\m'=ps.length - i/\gG s.env 1=some (.mp nx 0)/\gG s.env 3=some (.int .i64 i)/\gG s.M nx=some (.row [.int .i64 k,.int .u64 x,.int .u64 y,v])/\aq nx M s.M/\nx+1<=s.nx) ps.length ⟨0,aa,aa,?_⟩ ?_
 ·refine bR BU ?_
  exact⟨O,aa⟩
 rintro m' ⟨env,M',nx'⟩ ⟨i,hi,ir,e1,e3,z0,ha,hn⟩;simp only at e1 e3 z0 ha hn;by_cases aL:(i:Int)<ps.length
 ·have aP:i<ps.length:=aa
  have bV:=eF i;obtain⟨c,hc⟩:∃c,ps[i]?=some c:=⟨ps[i]' aa,aaR aa⟩;obtain⟨n,o,jw,bC,aU⟩:=cw.elem (P:=an) aP (t:=109) (t':=111) jM.2.2.2.1 qa.1;have aU:=aU M' (ha.le hb);have hE:=(jd.get hc).agr (ha.le hb);have OF:=aaH hc;have Bh:dV c<sz:=by have:=fb OF;simp only[dV]at cJ;omega
  refine iQ BU e1 e3 ay aL z0 bC aU ?_;refine gQ (ih ρ c M' _ b _ Bh hE aa (wV aQ.2 OF) (E_ h0.2 OF)) ?_;rintro⟨u,M2,n2⟩ ⟨g1,g2,g3⟩;simp only at g1 g2 g3;subst g1;have z1:=(g2 nx aa).trans z0;have a2:=ha.trans (g2.le aa);refine ti BU e1 e3 bV ?_;exact⟨ps.length - (i+1),aa,i+1,aa,rfl,rfl,z1,a2,aa⟩
 refine iC BU e1 e3 ay aL z0 ?_;refine lG (f336 ρ (D1.agr (ha.le hb)) aa aQ.1 h0.1.1 h0.1.2) fun M2 n2 g2 g3=>?_
 refine mI BU @fe.eq_1 ?_;exact⟨ha.trans (g2.le aa),aa⟩
theorem f288:∀(sz:Nat) (ρ:aK) (e:Ex) (M:Hp) (nx b:Nat) (cs:List XV),dV e<sz->dV e<=1000->bG M b e cs->b<=nx->ar an ρ 288 [.agg cs] M nx (fe nx M (.int .i64 (Ee e))):=by
 intro sz
 induction sz with
 | zero=>intro ρ e M nx b cs h;omega
 | succ sz ih =>
 intro ρ e M nx b cs cJ Nq he hb;have hD:=Hz e;obtain⟨k,x,y,ps⟩:=e;simp only[bG]at he;obtain⟨v,row,rfl,cw,jd⟩:=he;simp only[Ee]at hD;have hv:=cw.cell;have hl:=cw.1;have ay:=fun N=>cw.len (P:=an) (t:=109) jM.2.2.2.2.2 N
 refine ar.wk 22 [.tmp 2] Tryz.func288 ?_;refine Ao Io hv.1 hv.2 ?_;refine aC (fun m' s=>∃(i:Nat),i<=ps.length/\m'=ps.length - i/\gG s.env 1=some (.mp nx 0)/\gG s.env 3=some (.int .i64 (vC (ps.take i)))/\gG s.env 4=some (.int .i64 i)/\gG s.M nx=some (.row [.int .i64 k,.int .u64 x,.int .u64 y,v])/\aq nx M s.M/\nx+1<=s.nx) ps.length ⟨0,aa,aa,?_⟩ ?_
 ·refine bR Io ?_
  exact⟨rfl,O,aa⟩
 rintro m' ⟨env,M',nx'⟩ ⟨i,hi,ir,e1,e3,e4,z0,ha,hn⟩;simp only at e1 e3 e4 z0 ha hn;by_cases aL:(i:Int)<ps.length
 ·have aP:i<ps.length:=aa
  have bV:=eF i;obtain⟨e,hc⟩:∃c,ps[i]?=some c:=⟨ps[i]' aa,aaR aa⟩;obtain⟨n,o,jw,bC,aU⟩:=cw.elem (P:=an) aP (t:=109) (t':=111) jM.2.2.2.1 qa.1;have aU:=aU M' (ha.le hb);have hE:=(jd.get hc).agr (ha.le hb);have Bh:dV e<sz/\dV e<=1000:=by have:=fb (aaH hc);simp only[dV]at cJ Nq;omega
  have bw:=ZC hc;refine CU Io e1 e3 e4 ay aL z0 bC aU ?_;refine gQ (ih ρ e M' _ b _ Bh.1 Bh.2 hE aa) ?_;rintro⟨u,M2,n2⟩ ⟨g1,g2,g3⟩;simp only at g1 g2 g3;subst g1;have z1:=(g2 nx aa).trans z0;have a2:=ha.trans (g2.le aa);have JX:max ((vC (ps.take i):Nat):Int) (Ee e:Nat)=(vC (ps.take (i+1)):Nat):=by rw[bw];omega
  refine iC Io e1 e3 e4 bV JX ?_;exact⟨ps.length - (i+1),aa,i+1,aa,rfl,rfl,rfl,z1,a2,aa⟩
 have hi':ps.take i=ps:=aaz aa;rw[hi']at e3;simp only[dV]at hD Nq;have F_:IntKind.i64.wrap ((vC ps:Int)+1)=((vC ps+1:Nat):Int):=by rw[wrap_i64 aa aa];omega
 refine CU Io e1 e3 e4 ay aL z0 F_ @fe.eq_1 ?_;exact⟨rfl,ha,aa⟩
theorem f289:∀(sz:Nat) (ρ:aK) (e:Ex) (M:Hp) (nx b:Nat) (cs:List XV),dV e<sz->dV e<=1000->bG M b e cs->b<=nx->ar an ρ 289 [.agg cs] M nx (fe nx M (.int .i64 (dV e))):=by
 intro sz
 induction sz with
 | zero=>intro ρ e M nx b cs h;omega
 | succ sz ih =>
 intro ρ e M nx b cs cJ Nq he hb;obtain⟨k,x,y,ps⟩:=e;simp only[bG]at he;obtain⟨v,row,rfl,cw,jd⟩:=he;have hv:=cw.cell;have hl:=cw.1;have ay:=fun N=>cw.len (P:=an) (t:=109) jM.2.2.2.2.2 N
 simp only[dV]at Nq cJ;refine ar.wk 21 [.tmp 2] Tryz.func289 ?_;refine Ao Io hv.1 hv.2 ?_;refine aC (fun m' s=>∃(i:Nat),i<=ps.length/\m'=ps.length - i/\gG s.env 1=some (.mp nx 0)/\gG s.env 3=some (.int .i64 ((mb (ps.take i)+1:Nat):Int))/\gG s.env 4=some (.int .i64 i)/\gG s.M nx=some (.row [.int .i64 k,.int .u64 x,.int .u64 y,v])/\aq nx M s.M/\nx+1<=s.nx) ps.length ⟨0,aa,aa,?_⟩ ?_
 ·refine bR Io ?_
  exact⟨rfl,O,aa⟩
 rintro m' ⟨env,M',nx'⟩ ⟨i,hi,ir,e1,e3,e4,z0,ha,hn⟩;simp only at e1 e3 e4 z0 ha hn;by_cases aL:(i:Int)<ps.length
 ·have aP:i<ps.length:=aa
  have bV:=eF i;obtain⟨e,hc⟩:∃c,ps[i]?=some c:=⟨ps[i]' aa,aaR aa⟩;obtain⟨n,o,jw,bC,aU⟩:=cw.elem (P:=an) aP (t:=109) (t':=111) jM.2.2.2.1 qa.1;have aU:=aU M' (ha.le hb);have hE:=(jd.get hc).agr (ha.le hb);have Bh:dV e<sz/\dV e<=1000:=by have:=fb (aaH hc);omega
  have bw:=ZN hc;have jT:=exsN_take ps (i+1);refine CU Io e1 e3 e4 ay aL z0 bC aU ?_;refine gQ (ih ρ e M' _ b _ Bh.1 Bh.2 hE aa) ?_;rintro⟨u,M2,n2⟩ ⟨g1,g2,g3⟩;simp only at g1 g2 g3;subst g1;have z1:=(g2 nx aa).trans z0;have a2:=ha.trans (g2.le aa);have JX:IntKind.i64.wrap (((mb (ps.take i)+1:Nat):Int)+(dV e:Nat))=((mb (ps.take (i+1))+1:Nat):Int):=by rw[wrap_i64 aa aa];omega
  refine iC Io e1 e3 e4 bV JX ?_;exact⟨ps.length - (i+1),aa,i+1,aa,rfl,rfl,rfl,z1,a2,aa⟩
 have hi':ps.take i=ps:=aaz aa;rw[hi']at e3;refine iQ Io e1 e3 e4 ay aL z0 @fe.eq_1 ?_;exact⟨rfl,ha,aa⟩
theorem f199 (ρ:aK) {e:Ex} {M:Hp} {nx:Nat} (he:bG M b e cs) (hb:b<=nx) (hc:dV e<=1000) (hr:yw e=true) (h0:vw e):ar an ρ 199 [.agg cs] M nx (fe nx M (.bool true)):=by
 obtain⟨k,x,y,v,rfl,p1,p2⟩:=he.cells;simp only[yw,aaF,decide_eq_true_eq]at hr;obtain⟨⟨r1,r2⟩,r3⟩:=hr;have r2:(Ee e:Int)<=8:=aa;have r3:(dV e:Int)<=32:=aa;refine ar.wk 15 [.tmp 2] Tryz.func199 ?_;refine Ao Io p1 p2 ?_;generalize xu:aG M nx _=M1;have a1:aq nx M M1:=by rw[<-xu];exact O
 have z:gG M1 nx=some (.row [.int .i64 k,.int .u64 x,.int .u64 y,v]):=by rw[<-xu];exact J
 clear xu;refine lG (f287 _ ρ e M1 _ b _ (aby _) (he.agr (a1.le hb)) aa r1 h0) fun M2 n2 g2 g3=>?_
 have z:=(g2 nx aa).trans z;have a2:=a1.trans (g2.le aa);clear g2 a1;refine mI Io z ?_;refine lG (f288 _ ρ e M2 _ b _ (aby _) hc (he.agr (a2.le hb)) aa) fun M3 n3 g2 g3=>?_
 have z:=(g2 nx aa).trans z;have a3:=a2.trans (g2.le aa);clear g2 a2;refine Ao Io r2 z ?_;refine lG (f289 _ ρ e M3 _ b _ (aby _) hc (he.agr (a3.le hb)) aa) fun M4 n4 g2 g3=>?_
 refine ti Io r2 r3 @fe.eq_1 ?_;exact⟨a3.trans (g2.le aa),aa⟩
end
section
open Go.Proofs
section
variable {M:Hp} {b n:Nat} {xs:List XV}
theorem X9 (ih:∀xs,jK an M b n 44 xs->∃e,bG M b e xs/\gI e/\vw e):∀xss:List (List XV),(∀ys ∈ xss,ys.length=4/\jK an M b n 44 ys)->∃es:List Ex,es.length=xss.length/\cj M b es xss.flatten/\o_ es/\Ni es
 | [],_=>⟨[],rfl,by simp only[cj],by simp only[o_],by simp only[Ni]⟩
 | ys::xss,h=>by
   obtain⟨e,h1,h2,h6⟩:=ih ys (h ys aaC).2;obtain⟨es,h3,h4,h5,h7⟩:=X9 ih xss fun y hy=>h y (aaJ _ hy)
   have hl:=(h ys aaC).1;refine⟨e::es,by simp[h3],?_,by simp only[o_];exact⟨h2,h5⟩,by simp only[Ni];exact⟨h6,h7⟩⟩;simp only[cj,flatten_cons];rw[take_left' hl,drop_left' hl];exact⟨h1,h4⟩
theorem ex_ofA:∀(n:Nat) (xs:List XV),jK an M b n 44 xs->∃e,bG M b e xs/\gI e/\vw e:=by
 intro n
 induction n using Nat.strongRecOn with
 | _ n ih =>
   intro xs h;obtain⟨m,rfl,h⟩:=h.struct Tryz.underlying44;obtain⟨y0,z0,rfl,_,h0,y1,z1,rfl,_,h1,y2,z2,rfl,_,h2,y3,z3,rfl,_,h3,rfl⟩:=h;obtain⟨k,rfl,_⟩:=h0.int acM;obtain⟨x,rfl,hx⟩:=h1.int abJ;obtain⟨y,rfl,hy⟩:=h2.int abJ;obtain⟨q,v,xss,rfl,rfl,cw,dy⟩:=h3.slice Tryz.underlying42;have cJ:an.cellsOf 44=4:=U;rw[cJ]at cw;obtain⟨es,e1,e2,e3,e4⟩:=X9 (fun xs h=>ih q aa xs h) xss fun ys Oi=>by rw[<-cJ];exact dy ys Oi
   simp[Lit.wf,IntKind.min,IntKind.max,IntKind.signed,IntKind.bits]at hx hy;refine⟨.mk k x y es,?_,?_,?_⟩
   ·simp only[bG]
    exact⟨v,xss.flatten,rfl,by rw[e1];exact cw,e2⟩
   ·simp only[gI]
    exact⟨aa,e3⟩
   simp only[vw];exact⟨aa,e4⟩
theorem rec_ofA (h:jK an M b n 47 xs):∃r,eo M b r xs/\gI r.p/\vw r.p:=by
 obtain⟨m,rfl,h⟩:=h.struct Tryz.underlying47;obtain⟨y0,z0,rfl,_,h0,y1,z1,rfl,_,h1,y2,z2,rfl,_,h2,y3,z3,rfl,_,h3,y4,z4,rfl,_,h4,y5,z5,rfl,_,h5,y6,z6,rfl,_,h6,rfl⟩:=h;obtain⟨k,rfl,_⟩:=h0.int acM;obtain⟨t,rfl,_⟩:=h1.int abJ;obtain⟨x,rfl,_⟩:=h2.int abJ;obtain⟨w,v,rfl⟩:=ver_of h3;obtain⟨y,rfl,_⟩:=h4.int abJ;obtain⟨e,he,hp⟩:=ex_ofA _ _ h5;obtain⟨q,ve,xss,_,rfl,cw,dy⟩:=h6.slice Tryz.underlying45;have cJ:an.cellsOf 67=4:=U;rw[cJ]at cw dy;obtain⟨es,e1,e2⟩:=SE (p:=fun ys e=>ys=gq e) fun ys hy=>en_of (dy ys hy).2
 refine⟨⟨k,t,x,w,v,y,e,es⟩,⟨y5,ve,af,he,?_⟩,hp⟩;have:xss=es.map gq:=by
  apply ext_getElem (by simp[e1]);intro i h1 h2;have h3:i<es.length:=by simpa using h2
  rw[getElem_map];exact e2 i _ _ (aaR h1) (aaR h3)
 subst this;simp only[jm];rw[flatMap_def];simpa using cw
theorem recs_ofA {v:XV} (h:jK an M b n 22 [v]):∃L,cP M b v L/\∀r ∈ L,gI r.p/\vw r.p:=by
 obtain⟨q,v',xss,_,e,cw,dy⟩:=h.slice Tryz.underlying22;cases e;have cJ:an.cellsOf 47=11:=U;rw[cJ]at cw dy;obtain⟨L,e1,e2⟩:=SE (p:=fun ys r=>eo M b r ys/\gI r.p/\vw r.p) fun ys hy=>rec_ofA (dy ys hy).2
 have get:∀(i:Nat) r,L[i]?=some r->∃ys,xss[i]?=some ys/\eo M b r ys/\gI r.p/\vw r.p:=fun i r hr=>by have h1:=(aaq.1 hr).1;have h2:xss[i]?=some xss[i]:=aaR aa;exact⟨_,h2,e2 i _ _ h2 hr⟩
 refine⟨L,⟨xss.flatten,by rw[e1];exact cw,fun i r hr=>?_⟩,fun r hr=>?_⟩
 ·obtain⟨ys,h1,h2,_⟩:=get i r hr
  rw[chunk (fun ys hy=>(dy ys hy).1) h1];exact h2
 obtain⟨i,hi,rfl⟩:=mem_iff_getElem.1 hr;obtain⟨_,_,_,h⟩:=get i _ (aaR hi);exact h
end
end
section
inductive OT where
 | none | ord | map | row (x:Int) | sl (x:Int)
structure oh (M:Hp) (lo hi o rm c:Nat) (l:List (Nat×Int×XV)) (tag:Nat->OT) (f:Int->List bO):Prop where
 olo:lo<=o
 ohi:o<hi
 otg:tag o = .ord
 orow:gG M o=some (.row [.mm rm])
 rlo:lo<=rm
 rhi:rm<hi
 rtg:tag rm = .map
 map:gG M rm=some (.map (cx vX l) c)
 born:kD l c
 none:∀x,aH l x = .none->f x=[]
 some:∀x v,aH l x = .some v->∃rk sv,v = .mp rk 0/\lo<=rk/\rk<hi/\tag rk = .row x/\gG M rk = .some (.row [sv])/\f x≠[]/\bS M lo hi tag (.sl x) sv 4 (f x).length ((f x).flatMap aV)
variable {M M':Hp} {lo hi hi' o rm c c':Nat} {l l':List (Nat×Int×XV)} {tag tag':Nat->OT} {f:Int->List bO}
theorem oh.agr (H:oh M lo hi o rm c l tag f) (ha:aq hi M M'):oh M' lo hi o rm c l tag f :=
 { olo:=H.olo,ohi:=H.ohi,otg:=H.otg,orow:=(ha o H.ohi).trans H.orow,rlo:=H.rlo,rhi:=H.rhi,rtg:=H.rtg,map:=(ha rm H.rhi).trans H.map,born:=H.born,none:=H.none
   some:=fun x v hx=>by obtain⟨rk,sv,h1,h2,h3,h4,h5,h6,h7⟩:=H.some x v hx;exact⟨rk,sv,h1,h2,h3,h4,(ha rk h3).trans h5,h6,h7.agr ha (u7 _)⟩ }
theorem oh.up (H:oh M lo hi o rm c l tag f) (hh:hi<=hi') (cH:∀k,k<hi->tag' k=tag k):oh M lo hi' o rm c l tag' f :=
 { olo:=H.olo,ohi:=aax H.ohi hh,otg:=by rw[cH o H.ohi];exact H.otg,orow:=H.orow,rlo:=H.rlo,rhi:=aax H.rhi hh,rtg:=by rw[cH rm H.rhi];exact H.rtg,map:=H.map,born:=H.born,none:=H.none
   some:=fun x v hx=>by obtain⟨rk,sv,h1,h2,h3,h4,h5,h6,h7⟩:=H.some x v hx;exact⟨rk,sv,h1,h2,aax h3 hh,by rw[cH rk h3];exact h4,h5,h6,h7.keep (fun k hk hg=>⟨rfl,by rw[cH k hk];exact hg⟩) hh⟩ }
theorem oh.set {x:Int} {rk:Nat} {sv':XV} {g:List bO} (H:oh M lo hi o rm c l tag f) (hx:aH l x = .some (.mp rk 0))
 (keep:∀k,k<hi->tag k ≠ .row x->tag k ≠ .sl x->gG M' k=gG M k) (cH:∀k,k<hi->tag' k=tag k) (hh:hi<=hi') (bA:gG M' rk = .some (.row [sv'])) (hg:g≠[]) (cw:bS M' lo hi' tag' (.sl x) sv' 4 g.length (g.flatMap aV)) :
 oh M' lo hi' o rm c l tag' (fun y=>if y=x then g else f y) :=
 { olo:=H.olo,ohi:=aax H.ohi hh,otg:=by rw[cH o H.ohi];exact H.otg,orow:=(keep o H.ohi (by rw[H.otg];simp) (by rw[H.otg];simp)).trans H.orow
   rlo:=H.rlo,rhi:=aax H.rhi hh,rtg:=by rw[cH rm H.rhi];exact H.rtg,map:=(keep rm H.rhi (by rw[H.rtg];simp) (by rw[H.rtg];simp)).trans H.map,born:=H.born
   none:=fun y hy=>by
    have:y≠x:=fun e=>by rw[e,hx]at hy;cases hy
    simp only[if_neg this];exact H.none y hy
   some:=fun y v hy=>by
    by_cases e:y=x
    ·subst e
     rw[hx]at hy;cases hy;obtain⟨rk',sv,h1,h2,h3,h4,h5,h6,h7⟩:=H.some y _ hx;cases h1;simp only[if_true];exact⟨rk,sv',rfl,h2,aax h3 hh,by rw[cH rk h3];exact h4,bA,hg,cw⟩
    obtain⟨rk',sv,h1,h2,h3,h4,h5,h6,h7⟩:=H.some y v hy;simp only[if_neg e];exact⟨rk',sv,h1,h2,aax h3 hh,by rw[cH rk' h3];exact h4,(keep rk' h3 (by rw[h4];simp[e]) (by rw[h4];simp)).trans h5,h6,h7.keep (fun k hk hg=>⟨keep k hk (by rw[hg];simp) (by rw[hg];simp[e]),by rw[cH k hk];exact hg⟩) hh⟩ }
theorem oh.add {x:Int} {rk:Nat} {sv':XV} {g:List bO} (H:oh M lo hi o rm c l tag f) (hx:aH l x = .none)
 (keep:∀k,k<hi->k≠rm->gG M' k=gG M k) (cH:∀k,k<hi->tag' k=tag k) (hh:hi<=hi') (yQ:gG M' rm = .some (.map (cx vX (dD l c x (.mp rk 0))) (vc l c x))) (rlo:hi<=rk) (rhi:rk<hi') (rtg:tag' rk = .row x) (bA:gG M' rk = .some (.row [sv'])) (hg:g≠[]) (cw:bS M' lo hi' tag' (.sl x) sv' 4 g.length (g.flatMap aV)) :
 oh M' lo hi' o rm (vc l c x) (dD l c x (.mp rk 0)) tag' (fun y=>if y=x then g else f y) :=
 { olo:=H.olo,ohi:=aax H.ohi hh,otg:=by rw[cH o H.ohi];exact H.otg,orow:=(keep o H.ohi fun e=>by have:=H.otg;rw[e,H.rtg]at this;cases this).trans H.orow
   rlo:=H.rlo,rhi:=aax H.rhi hh,rtg:=by rw[cH rm H.rhi];exact H.rtg,map:=yQ,born:=zV H.born
   none:=fun y hy=>by
    rw[cQ]at hy;split at hy;·cases hy
    rename_i e;simp only[if_neg e];exact H.none y hy
   some:=fun y v hy=>by
    rw[cQ]at hy;split at hy
    ·rename_i e
     subst e;cases hy;simp only[if_true];exact⟨rk,sv',rfl,by have:=H.olo;have:=H.ohi;omega,rhi,rtg,bA,hg,cw⟩
    rename_i e;obtain⟨rk',sv,h1,h2,h3,h4,h5,h6,h7⟩:=H.some y v hy;simp only[if_neg e];have ne:∀k,k<hi->tag k ≠ .map->k≠rm:=fun k _ h e=>h (by rw[e];exact H.rtg)
    exact⟨rk',sv,h1,h2,aax h3 hh,by rw[cH rk' h3];exact h4,(keep rk' h3 (ne rk' h3 (by rw[h4];simp))).trans h5,h6,h7.keep (fun k hk hg=>⟨keep k hk (ne k hk (by rw[hg];simp)),by rw[cH k hk];exact hg⟩) hh⟩ }
end
section
open Go.Proofs
theorem f67 (ρ:aK) {M:Hp} {nx:Nat} (H:bX M lo hi h S) (hh:hi<=nx) (few:S.looks.length<=100000) (a:my) (cnt:0<=(S.obj a.x).getD 0/\(S.obj a.x).getD 0<=1000000000) :
 ar an ρ 67 [.mp h 0,.agg (cX a)] M nx fun o=>o.1 = .tup []/\bX o.2.1 lo o.2.2 h (S.look a)/\aq lo M o.2.1/\nx<=o.2.2:=by
 obtain⟨tag,vrec,vtxs,vcom,vmods,vlook,nk,vk,ok,cn,cv,co,ptrs,lnum,lver,lobj,H⟩:=H;replace H:=H.norm;obtain⟨JM,Sc⟩:=aap (fun k=>if k<hi then tag k else Hg.none)
 rw[<-Sc]at H;clear Sc;have hr:=H.row;have vg:=H.h_hi;have mo:=H.lo_h;have UC:=H.ohi;have UD:=H.olo;have VM:=H.obj;have n1:=aZ H.tg H.otg af;have mD:=H.objS.2 a.x;rw[<-mD]at cnt;have hw:IntKind.i64.wrap ((aH lobj a.x).getD 0+1)=(aH lobj a.x).getD 0+1:=wrap_i64 aa aa;simp only[cX];obtain⟨hz,cF,⟨rfl,pG⟩ | ⟨hl,sk,rfl,s1,s2,s3,s4⟩⟩:=H.looks
 ·have hd:aw h ok=False/\aw ok h=False:=by simp only[aw,eq_iff_iff,iff_false];exact⟨n1,n1.symm⟩
  refine ar.wk 22 [] Tryz.func67 ?_;refine lO Fl hr VM hd hw ?_;refine⟨bn _ _ _ _ _ _ (fun q hq=>by simp only[aaE]at hq ⊢;omega) (fun q hq=>af) (fun q hq=>by simp at hq),⟨fun k=>if k=nx+8 then .looks else JM k,vrec,vtxs,vcom,vmods,.sl (nx+8) 8 0 (S.looks.length+1) (S.looks.length+1),nk,vk,ok,cn,cv,vc lobj co a.x,ptrs,lnum,lver,dD lobj co a.x ((aH lobj a.x).getD 0+1),H.look (fun k hk hc=>?_) (fun k hk=>if_neg aa) aa (by rw[pG];exact J) ?_ J ⟨zV H.objS.1,fun x=>?_⟩⟩,fun k hk=>J,aa⟩
  ·have e1:k≠h:=fun e=>hc (by rw[e];exact .inl H.tg)
   have e2:k≠ok:=fun e=>hc (by rw[e];exact .inr (.inr H.otg))
   exact J
  ·have NO:S.looks=[]:=aaG.1 pG
   rw[NO];exact⟨af,by simp[cX],.inr ⟨af,nx+8,af,aa,aa,af,J⟩⟩
  rw[cQ];simp only[HS.look,mD,H.objS.2 x]
 have n2:=aZ H.tg s3 af;have n3:=aZ H.otg s3 af;have hd:aw h ok=False/\aw ok h=False/\aw h sk=False/\aw sk h=False/\aw ok sk=False/\aw sk ok=False:=by simp only[aw,eq_iff_iff,iff_false];exact⟨n1,n1.symm,n2,n2.symm,n3,n3.symm⟩
 refine ar.wk 22 [] Tryz.func67 ?_;refine ky Fl hr VM hd hw s4 cF ?_;refine⟨bn _ _ _ _ _ _ (fun q hq=>by simp only[aaE]at hq ⊢;omega) (fun q hq=>af) (fun q hq=>by simp at hq),⟨fun k=>if k=nx+8 then .looks else JM k,vrec,vtxs,vcom,vmods,.sl (nx+8) 8 0 (S.looks.length+1) (S.looks.length+1),nk,vk,ok,cn,cv,vc lobj co a.x,ptrs,lnum,lver,dD lobj co a.x ((aH lobj a.x).getD 0+1),H.look (fun k hk hc=>?_) (fun k hk=>if_neg aa) aa J ?_ J ⟨zV H.objS.1,fun x=>?_⟩⟩,fun k hk=>J,aa⟩
 ·have e1:k≠h:=fun e=>hc (by rw[e];exact .inl H.tg)
  have e2:k≠ok:=fun e=>hc (by rw[e];exact .inr (.inr H.otg))
  have e3:k≠sk:=fun e=>hc (by rw[e];exact .inr (.inl s3))
  exact J
 ·have kB:abP (S.looks.length*8) (S.looks.flatMap cX)=S.looks.flatMap cX:=by rw[<-cF,aa6]
  refine⟨aa,by rw[abL,aau,cF];simp[cX];omega,.inr ⟨aa,nx+8,rfl,aa,aa,af,?_⟩⟩;rw[abL]
  conv=>rhs;rw[<-kB]
  exact J
 rw[cQ];simp only[HS.look,mD,H.objS.2 x]
def B3 (r:aR) (cs:List XV):Prop:=∃pk pa pb pv ve,cs=[.int .i64 r.kind,.int .u64 r.t,.int .u64 r.x,.int .u64 r.w,.int .u64 r.n,.int .u64 r.v,.int .i64 pk,.int .u64 pa,.int .u64 pb,pv,ve]/\(cellsOf pv=[pv]/\ax pv=true)/\cellsOf ve=[ve]/\ax ve=true
theorem eo.c {M:Hp} (h:eo M b r cs):B3 r cs:=by obtain⟨pk,pa,pb,pv,ve,h1,h2,h3,_,_⟩:=h.cells;exact⟨pk,pa,pb,pv,ve,h1,h2,h3⟩
theorem f38 (ρ:aK) {M:Hp} {nx:Nat} {tag:Nat->Hg} {vrec vtxs vcom vmods vlook:XV} {nk vk ok cn cv co:Nat} {ptrs:List XV} {lnum:List (Nat×Int×Int)} {lver:List (Nat×List Int×Int)} {lobj:List (Nat×Int×Int)}
 (H:eM M lo hi h S tag vrec vtxs vcom vmods vlook nk vk ok cn cv co ptrs lnum lver lobj) (hh:hi<=nx) {t:Int} {k:Nat} {v:XV} (hk:S.num t=some (k:Int)) (hv:ptrs[k]?=some v) (kA:k<S.txs.length):ar an ρ 38 [.mp h 0,.int .u64 t] M nx (fe nx M v):=by
 have hr:=H.row;have U0:=H.num;have mD:=H.numS t;rw[hk]at mD;obtain⟨n,o,jw,bC,aU⟩:=H.txs.sl.fldG (P:=an) kA (t:=78) IT.2.2.2.1;have hl:=aU 0 v aa (by simp[hv]) 84 1 Cq.1 M (aq.refl _ _);rw[aaX]at hl;refine ar.wk 17 [.tmp 4] Tryz.func38 ?_;refine ky Ia hr U0 mD bC hl @fe.eq_1 ?_;exact⟨aq.refl _ _,aa⟩
structure yp (M:Hp) (nx h rk nk mm vm om m:Nat) (ys:List XV) (c0 c1 c4 c6:XV) (T B N:Int) (i:Int) (old:List Nat) (o:ew):Prop where
 post:nx<=o.2.2/\gG o.2.1 rk=some (.row [.int .u64 T,.int .i64 B,.int .i64 i,.int .i64 1,.int .i64 (m:Int),.mm mm])/\(∃nc,nx<=nc/\nc<o.2.2/\gG o.2.1 h=some (.row [c0,c1,.mm nk,.sl nc 1 0 (m+1) (m+1),c4,.mm vm,c6,.mm om])/\gG o.2.1 nc=some (.row (ys++[.int .u64 T])))/\∀j,j<nx->j≠rk->j≠h->j ∉ old->gG o.2.1 j=gG M j
theorem Sx (ρ:aK) (M:Hp) (nx h rk mm:Nat) (pp pe:XV) (T B E S N X VW VN V pk pa pb:Int) (i:Int)
 (hr:gG M rk=some (.row [.int .u64 T,.int .i64 B,.int .i64 E,.int .i64 S,.int .i64 N,.mm mm]))
 (pH:∀M' nx',aq nx M M'->nx<=nx'->ar an ρ 38 [.mp h 0,.int .u64 T] M' nx' (fe nx' M' (.mp rk 0)))
 (b2:rk<nx) (p1:cellsOf pp=[pp]) (p2:ax pp=true) (p3:cellsOf pe=[pe]) (p4:ax pe=true) :
 ar an ρ 30 [.mp h 0,.int .i64 i,.agg [.int .i64 7,.int .u64 T,.int .u64 X,.int .u64 VW,.int .u64 VN,.int .u64 V,.int .i64 pk,.int .u64 pa,.int .u64 pb,pp,pe]] M nx fun o =>
  o.1 = .tup []/\nx<=o.2.2/\gG o.2.1 rk=some (.row [.int .u64 T,.int .i64 B,.int .i64 i,.int .i64 2,.int .i64 N,.mm mm])/\∀j,j<nx->j≠rk->gG o.2.1 j=gG M j:=by
 refine ar.wk 134 [] ab7 ?_;refine lO sJ p1 p2 p3 p4 ?_;generalize xu:aG M nx _=M1;have a1:aq nx M M1:=by rw[<-xu];exact O
 clear xu;refine gQ (pH _ _ a1 aa) ?_;rintro⟨v,M2,n2⟩ ⟨g1,g2,g3⟩;simp only at g1 g2 g3;subst g1;have a2:=a1.trans (g2.le aa);have zr:=(a2 rk b2).trans hr;clear g2 a1 hr pH;refine fM sJ zr ?_;refine⟨aa,fun j hj cf=>?_⟩;have:=a2 j hj;have k0:aw rk j=False:=by simp only[aw,eq_iff_iff,iff_false];exact fun e=>cf e.symm
 refine gk sJ k0 this ?_;try exact⟨⟩
theorem PG (ρ:aK) (M:Hp) (nx h rk nk mm vm om cs m:Nat) (ys:List XV) (c0 c1 c4 c6 pp pe:XV) (T B E S N X VW VN V pk pa pb:Int) (i:Int)
 (hh:gG M h=some (.row [c0,c1,.mm nk,.nils,c4,.mm vm,c6,.mm om]))
 (hr:gG M rk=some (.row [.int .u64 T,.int .i64 B,.int .i64 E,.int .i64 S,.int .i64 N,.mm mm]))
 (pH:∀M' nx',aq nx M M'->nx<=nx'->ar an ρ 38 [.mp h 0,.int .u64 T] M' nx' (fe nx' M' (.mp rk 0)))
 (b1:h<nx) (b2:rk<nx) (hd:aw h rk=False/\aw rk h=False) (p1:cellsOf pp=[pp]) (p2:ax pp=true) (p3:cellsOf pe=[pe]) (p4:ax pe=true) :
 ar an ρ 30 [.mp h 0,.int .i64 i,.agg [.int .i64 6,.int .u64 T,.int .u64 X,.int .u64 VW,.int .u64 VN,.int .u64 V,.int .i64 pk,.int .u64 pa,.int .u64 pb,pp,pe]] M nx fun o =>
  o.1 = .tup []/\yp M nx h rk nk mm vm om 0 [] c0 c1 c4 c6 T B N i [] o:=by
 refine ar.wk 134 [] ab7 ?_;refine lO sJ p1 p2 p3 p4 ?_;generalize xu:aG M nx _=M1;have a1:aq nx M M1:=by rw[<-xu];exact O
 have z0:gG M1 nx=some (.row [.int .i64 6,.int .u64 T,.int .u64 X,.int .u64 VW,.int .u64 VN,.int .u64 V,.int .i64 pk,.int .u64 pa,.int .u64 pb,pp,pe]):=by rw[<-xu];exact J
 clear xu;refine gQ (pH _ _ a1 aa) ?_;rintro⟨v,M2,n2⟩ ⟨g1,g2,g3⟩;simp only at g1 g2 g3;subst g1;have a2:=a1.trans (g2.le aa);have zr:=(a2 rk b2).trans hr;have zh:=(a2 h b1).trans hh;replace z0:=(g2 nx aa).trans z0;clear g2 a1 hr hh pH;refine lO sJ zr zh z0 hd ?_;have zz:=fun j hj=>a2 j hj
 refine⟨?_,⟨am,?_,⟨n2+30,aa,am,?_,?_⟩,fun j hj f1 f2 hZ=>?_⟩⟩;·(repeat' apply ao)<;>exact yj
 rotate_right
 ·have zj:=zz j hj
  have k0:aw rk j=False:=by simp only[aw,eq_iff_iff,iff_false];exact fun e=>f1 e.symm
  have k1:aw h j=False:=by simp only[aw,eq_iff_iff,iff_false];exact fun e=>f2 e.symm
  refine jz sJ k0 k1 zj ?_;try exact⟨⟩
 all_goals first
  | ((refine fM sJ hd ?_;try exact⟨⟩);done)
  | ((refine fM sJ hd ?_;try exact⟨⟩);first | rfl | (simp;done))
  | skip
theorem PV (ρ:aK) (M:Hp) (nx h rk nk mm vm om cs m:Nat) (ys:List XV) (c0 c1 c4 c6 pp pe:XV) (T B E S N X VW VN V pk pa pb:Int) (i:Int)
 (hh:gG M h=some (.row [c0,c1,.mm nk,.sl cs 1 0 m m,c4,.mm vm,c6,.mm om])) (dI:gG M cs=some (.row ys)) (cF:ys.length=m) (b3:cs<nx) (hm:1<=m) (bm:m<=100000)
 (hr:gG M rk=some (.row [.int .u64 T,.int .i64 B,.int .i64 E,.int .i64 S,.int .i64 N,.mm mm]))
 (pH:∀M' nx',aq nx M M'->nx<=nx'->ar an ρ 38 [.mp h 0,.int .u64 T] M' nx' (fe nx' M' (.mp rk 0)))
 (b1:h<nx) (b2:rk<nx) (hd:aw h rk=False/\aw rk h=False/\aw h cs=False/\aw cs h=False/\aw rk cs=False/\aw cs rk=False) (p1:cellsOf pp=[pp]) (p2:ax pp=true) (p3:cellsOf pe=[pe]) (p4:ax pe=true) :
 ar an ρ 30 [.mp h 0,.int .i64 i,.agg [.int .i64 6,.int .u64 T,.int .u64 X,.int .u64 VW,.int .u64 VN,.int .u64 V,.int .i64 pk,.int .u64 pa,.int .u64 pb,pp,pe]] M nx fun o =>
  o.1 = .tup []/\yp M nx h rk nk mm vm om m ys c0 c1 c4 c6 T B N i [cs] o:=by
 refine ar.wk 134 [] ab7 ?_;refine lO sJ p1 p2 p3 p4 ?_;generalize xu:aG M nx _=M1;have a1:aq nx M M1:=by rw[<-xu];exact O
 have z0:gG M1 nx=some (.row [.int .i64 6,.int .u64 T,.int .u64 X,.int .u64 VW,.int .u64 VN,.int .u64 V,.int .i64 pk,.int .u64 pa,.int .u64 pb,pp,pe]):=by rw[<-xu];exact J
 clear xu;refine gQ (pH _ _ a1 aa) ?_;rintro⟨v,M2,n2⟩ ⟨g1,g2,g3⟩;simp only at g1 g2 g3;subst g1;have a2:=a1.trans (g2.le aa);have zr:=(a2 rk b2).trans hr;have zh:=(a2 h b1).trans hh;replace z0:=(g2 nx aa).trans z0;have zc:=(a2 cs b3).trans dI;clear dI;clear g2 a1 hr hh pH;refine ky sJ zr zh z0 hd zc cF ?_;have kB:abP m ys=ys:=aaz aa;have zz:=fun j hj=>a2 j hj
 refine⟨?_,⟨am,?_,⟨n2+30,aa,am,?_,?_⟩,fun j hj f1 f2 hZ=>?_⟩⟩;·(repeat' apply ao)<;>exact yj
 rotate_right
 ·have zj:=zz j hj
  have k0:aw rk j=False:=by simp only[aw,eq_iff_iff,iff_false];exact fun e=>f1 e.symm
  have k1:aw h j=False:=by simp only[aw,eq_iff_iff,iff_false];exact fun e=>f2 e.symm
  have k2:aw cs j=False:=by simp only[aw,eq_iff_iff,iff_false];exact fun e=>hZ (by rw[<-e];simp)
  refine lO sJ k0 k1 k2 zj ?_;try exact⟨⟩
 all_goals first
  | ((refine gk sJ hd kB ?_;try exact⟨⟩);done)
  | ((refine gk sJ hd kB ?_;try exact⟨⟩);first | rfl | (simp;done))
  | skip
theorem f30abort (ρ:aK) {M:Hp} {nx:Nat} (hr:B3 r cs) (H:bX M lo hi h S) (hh:hi<=nx) (k7:r.kind=7) {k:Nat} (hk:S.num r.t=some (k:Int)) {a:ku} (ha:S.txs[k]?=some a) (qL:a.t=r.t) (i:Int) :
 ar an ρ 30 [.mp h 0,.int .i64 i,.agg cs] M nx fun o=>o.1 = .tup []/\bX o.2.1 lo o.2.2 h (S.endTx k ⟨r.t,a.b,i,2,a.n⟩ S.com)/\aq lo M o.2.1/\nx<=o.2.2:=by
 obtain⟨pk,pa,pb,pv,ve,rfl,⟨p1,p2⟩,⟨q1,q2⟩⟩:=hr;rw[k7];obtain⟨tag,vrec,vtxs,vcom,vmods,vlook,nk,vk,ok,cn,cv,co,ptrs,lnum,lver,lobj,H⟩:=H;have kA:k<S.txs.length:=(aaq.1 ha).1;obtain⟨w,hv,rk,mk,cm,lm,rfl,r1,r2,r3,r4,m1,m2,m3,m4,l0,l1⟩:=H.known k a ha;have pH:∀M' nx',aq nx M M'->nx<=nx'->ar an ρ 38 [.mp h 0,.int .u64 r.t] M' nx' (fe nx' M' (.mp rk 0)):=fun M' nx' ha hn=>f38 ρ (H.agr (ha.le hh)) aa hk hv kA
 simp only[d_,aa8,abp,qL]at r4;have vg:=H.h_hi;have mo:=H.lo_h;refine ar.mono (Sx ρ M nx h rk mk pv ve r.t a.b a.e a.s a.n r.x r.w r.n r.v pk pa pb i r4 pH aa p1 p2 q1 q2) fun o ⟨g1,g2,g3,g4⟩=>⟨g1,?_,fun j hj=>g4 j aa aa,g2⟩
 have key:∀q,q<hi->¬ pn k (tag q)->gG o.2.1 q=gG M q:=fun q hq hc=>g4 q aa fun e=>hc (by rw[e];exact .inr (.inr r3))
 have d1:=aZ H.tg r3 af;have kc:∀(tg:Hg),tg ≠ .known k->∀q,q<hi->tag q=tg->gG o.2.1 q=gG M q/\tag q=tg:=fun tg h1 q hq hg=>⟨g4 q aa fun e=>h1 (by rw[<-hg,e];exact r3),hg⟩
 refine⟨tag,vrec,vtxs,vcom,vmods,vlook,nk,vk,ok,cn,cv,co,ptrs,lnum,lver,lobj,H.endTx key (fun _ _=>rfl) aa ?_ (H.com.keep (kc _ af) aa) fun _=>⟨_,hv,rk,mk,cm,lm,rfl,r1,aa,r3,?_,m1,aa,m3,?_,l0,fun x v hx=>?_⟩⟩;·rw[(kc _ af h H.h_hi H.tg).1];exact H.row
 ·rw[g3];rfl
 ·rw[(kc _ af mk m2 m3).1];exact m4
 obtain⟨e1,e2⟩:=l1 x v hx;exact⟨e1,e2.keep (kc _ af) aa⟩
theorem YZ (ρ:aK) {M:Hp} {nx:Nat} (hr:B3 r cs) (H:bX M lo hi h S) (hh:hi<=nx) (k6:r.kind=6) {k:Nat} (hk:S.num r.t=some (k:Int)) {a:ku} (ha:S.txs[k]?=some a) (qL:a.t=r.t) (few:S.com.length<=100000) (i:Int) :
 ar an ρ 30 [.mp h 0,.int .i64 i,.agg cs] M nx fun o=>o.1 = .tup []/\bX o.2.1 lo o.2.2 h (S.endTx k ⟨r.t,a.b,i,1,(S.com.length:Int)⟩ (S.com++[r.t]))/\aq lo M o.2.1/\nx<=o.2.2:=by
 obtain⟨pk,pa,pb,pv,ve,rfl,⟨p1,p2⟩,⟨q1,q2⟩⟩:=hr;rw[k6];obtain⟨tag,vrec,vtxs,vcom,vmods,vlook,nk,vk,ok,cn,cv,co,ptrs,lnum,lver,lobj,H⟩:=H;have kA:k<S.txs.length:=(aaq.1 ha).1;obtain⟨w,hv,rk,mk,cm,lm,rfl,r1,r2,r3,r4,m1,m2,m3,m4,l0,l1⟩:=H.known k a ha;have pH:∀M' nx',aq nx M M'->nx<=nx'->ar an ρ 38 [.mp h 0,.int .u64 r.t] M' nx' (fe nx' M' (.mp rk 0)):=fun M' nx' ha hn=>f38 ρ (H.agr (ha.le hh)) aa hk hv kA
 simp only[d_,aa8,abp,qL]at r4;have vg:=H.h_hi;have mo:=H.lo_h;have d1:=aZ H.tg r3 af;have fin:∀(old:List Nat) (o:ew),(∀j ∈ old,tag j = .com)->(∀j ∈ old,lo<=j)->yp M nx h rk nk mk vk ok S.com.length (S.com.map (XV.int .u64)) vrec vtxs vmods vlook r.t a.b a.n i old o ->
  bX o.2.1 lo o.2.2 h (S.endTx k ⟨r.t,a.b,i,1,(S.com.length:Int)⟩ (S.com++[r.t]))/\aq lo M o.2.1/\nx<=o.2.2:=by
  intro old o h1 h2 P;obtain⟨⟨g2,g3,⟨nc,c1,c2,c3,c4⟩,g4⟩⟩:=P;have key:∀q,q<hi->¬ pn k (tag q)->gG o.2.1 q=gG M q:=fun q hq hc=>g4 q aa (fun e=>hc (by rw[e];exact .inr (.inr r3))) (fun e=>hc (by rw[e];exact .inl H.tg)) fun e=>hc (.inr (.inl (h1 q e)))
  have kc:∀(tg:Hg),¬ pn k tg->∀q,q<hi->tag q=tg->gG o.2.1 q=gG M q/\(if q=nc then Hg.com else tag q)=tg:=fun tg h1 q hq hg=>⟨key q hq (by rw[hg];exact h1),by rw[if_neg aa];exact hg⟩
  refine⟨⟨fun q=>if q=nc then .com else tag q,vrec,vtxs,_,vmods,vlook,nk,vk,ok,cn,cv,co,ptrs,lnum,lver,lobj,H.endTx (tag':=fun q=>if q=nc then .com else tag q) key (fun q hq=>if_neg aa) aa c3 ?_ fun _=>⟨_,hv,rk,mk,cm,lm,rfl,r1,aa,by simp only;rw[if_neg aa];exact r3,?_,m1,aa,by simp only;rw[if_neg aa];exact m3,?_,l0,fun x v hx=>?_⟩⟩,fun j hj=>g4 j aa aa aa fun e=>by have:=h2 j e;omega,g2⟩
  ·have e:(S.com++[r.t]).length=S.com.length+1:=af
   rw[e];exact⟨aa,af,.inr ⟨aa,nc,rfl,aa,c2,af,by rw[c4,abV];rfl⟩⟩
  ·rw[g3];rfl
  ·rw[key mk m2 (by rw[m3];simp[pn])];exact m4
  obtain⟨e1,e2⟩:=l1 x v hx;exact⟨e1,e2.keep (kc _ (by simp[pn])) aa⟩
 have bA:=H.row;obtain⟨hz,cF,⟨rfl,pG⟩ | ⟨hl,ck,rfl,s1,s2,s3,s4⟩⟩:=H.com
 ·have RM:S.com=[]:=aaG.1 pG
  have hd:aw h rk=False/\aw rk h=False:=by simp only[aw,eq_iff_iff,iff_false];exact⟨d1,d1.symm⟩
  refine ar.mono (PG ρ M nx h rk nk mk vk ok 0 0 [] vrec vtxs vmods vlook pv ve r.t a.b a.e a.s a.n r.x r.w r.n r.v pk pa pb i bA r4 pH aa aa hd p1 p2 q1 q2) fun o ho=>⟨ho.1,fin [] o (fun j hj=>by cases hj) (fun j hj=>by cases hj) ?_⟩
  rw[RM];exact ho.2
 have d2:=aZ H.tg s3 af;have d3:=aZ r3 s3 af;have hd:aw h rk=False/\aw rk h=False/\aw h ck=False/\aw ck h=False/\aw rk ck=False/\aw ck rk=False:=by simp only[aw,eq_iff_iff,iff_false];exact⟨d1,d1.symm,d2,d2.symm,d3,d3.symm⟩
 refine ar.mono (PV ρ M nx h rk nk mk vk ok ck S.com.length (S.com.map (XV.int .u64)) vrec vtxs vmods vlook pv ve r.t a.b a.e a.s a.n r.x r.w r.n r.v pk pa pb i bA s4 af aa hl few r4 pH aa aa hd p1 p2 q1 q2) fun o ho=>⟨ho.1,fin [ck] o (fun j hj=>?_) (fun j hj=>?_) ho.2⟩
 ·simp only[aaK,aaZ,or_false]at hj;subst hj;exact s3
 simp only[aaK,aaZ,or_false]at hj;subst hj;exact s1
structure nX (M:Hp) (nx h nk rk mm vm om:Nat) (old:List Nat) (cm cv co m q:Nat) (lm:List (Nat×Int×XV)) (lv:List (Nat×List Int×Int)) (lo:List (Nat×Int×Int)) (ys zs:List XV) (c0 c1 c3 c6:XV) (T B E S N K X V:Int) (i:Int) (o:ew):Prop where
 post:nx<=o.2.2/\∃ns nm cm' cv' co',nx<=ns/\nx<=nm/\ns<o.2.2/\nm<o.2.2/\ns≠nm/\(cm'=vc lm cm X/\co'=vc lo co X) /\
  gG o.2.1 h=some (.row [c0,c1,.mm nk,c3,.sl nm 8 0 (m+1) (m+1),.mm vm,c6,.mm om])/\gG o.2.1 rk=some (.row [.int .u64 T,.int .i64 B,.int .i64 E,.int .i64 S,.int .i64 N,.mm mm]) /\
  gG o.2.1 mm=some (.map (cx vX (dD lm cm X (.sl ns 1 0 (q+1) (q+1)))) cm')/\gG o.2.1 vm=some (.map (eY (vI .i64) (dD lv cv [X,T,((q+1:Nat):Int)] (m:Int))) cv') /\
  gG o.2.1 om=some (.map (cx (vI .i64) (dD lo co X ((aH lo X).getD 0+1))) co')/\gG o.2.1 ns=some (.row (zs++[.int .i64 (m:Int)])) /\
  gG o.2.1 nm=some (.row (ys++[.int .i64 i,.int .u64 T,.int .u64 X,.int .u64 T,.int .u64 ((q+1:Nat):Int),.int .u64 V,.bool (decide (K=4)),.bool false])) /\
  ∀j,j<nx->j≠h->j≠mm->j≠vm->j≠om->j ∉ old->gG o.2.1 j=gG M j
theorem PQ (ρ:aK) (M:Hp) (nx h nk rk mm vm om ms s:Nat) (cm cv co m q:Nat) (lm:List (Nat×Int×XV)) (lv:List (Nat×List Int×Int)) (lo:List (Nat×Int×Int)) (ys zs:List XV) (c0 c1 c3 c6 pp pe:XV) (T B E S N K X VW VN V pk pa pb:Int) (i:Int)
 (hh:gG M h=some (.row [c0,c1,.mm nk,c3,.nils,.mm vm,c6,.mm om])) (hr:gG M rk=some (.row [.int .u64 T,.int .i64 B,.int .i64 E,.int .i64 S,.int .i64 N,.mm mm]))
 (vY:gG M mm=some (.map (cx vX lm) cm)) (Ec:gG M vm=some (.map (eY (vI .i64) lv) cv)) (JG:gG M om=some (.map (cx (vI .i64) lo) co)) (QV:jL 3 lv) (Ba:aH lm X=none)
 (pH:∀M' nx',aq nx M M'->nx<=nx'->ar an ρ 38 [.mp h 0,.int .u64 T] M' nx' (fe nx' M' (.mp rk 0)))
 (b1:h<nx) (b2:rk<nx) (b3:mm<nx) (b4:vm<nx) (b5:om<nx) (hd:aw h rk=False/\aw rk h=False/\aw h mm=False/\aw mm h=False/\aw h vm=False/\aw vm h=False/\aw h om=False/\aw om h=False/\aw rk mm=False/\aw mm rk=False/\aw rk vm=False/\aw vm rk=False/\aw rk om=False/\aw om rk=False/\aw mm vm=False/\aw vm mm=False/\aw mm om=False/\aw om mm=False/\aw vm om=False/\aw om vm=False) (hw:IntKind.i64.wrap ((aH lo X).getD 0+1)=(aH lo X).getD 0+1)
 (p1:cellsOf pp=[pp]) (p2:ax pp=true) (p3:cellsOf pe=[pe]) (p4:ax pe=true) :
 ar an ρ 68 [.mp h 0,.int .i64 i,.agg [.int .i64 K,.int .u64 T,.int .u64 X,.int .u64 VW,.int .u64 VN,.int .u64 V,.int .i64 pk,.int .u64 pa,.int .u64 pb,pp,pe]] M nx fun o =>
  o.1 = .tup []/\nX M nx h nk rk mm vm om [] cm cv co 0 0 lm lv lo [] [] c0 c1 c3 c6 T B E S N K X V i o:=by
 have bV:IntKind.u64.wrap (IntKind.i64.wrap ((0:Nat)+1))=((0+1:Nat):Int):=by rw[wrap_i64 aa aa,wrap_u64 aa aa];omega
 simp only[acr]at bV;refine ar.wk 85 [] adq ?_;refine ky Ei hh p2 p4 hd p1 p3 ?_;generalize xu:aG M nx _=M1;have a1:aq nx M M1:=by rw[<-xu];exact O
 have z0:gG M1 nx=some (.row [.int .i64 K,.int .u64 T,.int .u64 X,.int .u64 VW,.int .u64 VN,.int .u64 V,.int .i64 pk,.int .u64 pa,.int .u64 pb,pp,pe]):=by rw[<-xu];exact J
 clear xu;refine gQ (pH _ _ a1 aa) ?_;rintro⟨v,M2,n2⟩ ⟨g1,g2,g3⟩;simp only at g1 g2 g3;subst g1;have a2:=a1.trans (g2.le aa);replace z0:=(g2 nx aa).trans z0;have zh:=(a2 h b1).trans hh;have zr:=(a2 rk b2).trans hr;have zm:=(a2 mm b3).trans vY;have zv:=(a2 vm b4).trans Ec;have zo:=(a2 om b5).trans JG;clear g2 a1 hh hr vY Ec JG pH;refine yq Ei z0 zh zr zm zv zo Ba QV hd hw bV ?_
 repeat' apply ao
 all_goals first
  | (refine bn _ _ _ _ _ _ ?_ ?_ ?_<;>(intro x hx hy;first | (simp only[aaK,aaZ,or_false]at hx hy;done) | (simp only[aaK,aaZ,or_false]at hx hy;omega));done)
  | skip
 have zz:=fun j hj=>a2 j hj
 refine⟨⟨am,n2+37,n2+67,vc lm cm X,vc lv cv [X,T,((0+1:Nat):Int)],vc lo co X,aa,aa,am,am,aa,⟨rfl,rfl⟩,?_,?_,?_,?_,?_,?_,?_,fun j hj f1 f2 hZ nh iF=>?_⟩⟩
 rotate_right
 ·have zj:=zz j hj
  have k0:aw h j=False:=by simp only[aw,eq_iff_iff,iff_false];exact fun e=>f1 e.symm
  have k1:aw mm j=False:=by simp only[aw,eq_iff_iff,iff_false];exact fun e=>f2 e.symm
  have k2:aw vm j=False:=by simp only[aw,eq_iff_iff,iff_false];exact fun e=>hZ e.symm
  have k3:aw om j=False:=by simp only[aw,eq_iff_iff,iff_false];exact fun e=>nh e.symm
  refine ul Ei k0 k1 k2 k3 zj ?_;try exact⟨⟩
 all_goals first
  | ((refine gk Ei hd zr ?_;try exact⟨⟩);done)
  | ((refine gk Ei hd zr ?_;try exact⟨⟩);first | rfl | (simp;done))
  | skip
theorem Qn (ρ:aK) (M:Hp) (nx h nk rk mm vm om ms s:Nat) (cm cv co m q:Nat) (lm:List (Nat×Int×XV)) (lv:List (Nat×List Int×Int)) (lo:List (Nat×Int×Int)) (ys zs:List XV) (c0 c1 c3 c6 pp pe:XV) (T B E S N K X VW VN V pk pa pb:Int) (i:Int)
 (hh:gG M h=some (.row [c0,c1,.mm nk,c3,.sl ms 8 0 m m,.mm vm,c6,.mm om])) (hr:gG M rk=some (.row [.int .u64 T,.int .i64 B,.int .i64 E,.int .i64 S,.int .i64 N,.mm mm]))
 (vY:gG M mm=some (.map (cx vX lm) cm)) (Ec:gG M vm=some (.map (eY (vI .i64) lv) cv)) (JG:gG M om=some (.map (cx (vI .i64) lo) co)) (QV:jL 3 lv) (Ba:aH lm X=none) (F3:gG M ms=some (.row ys)) (hy:ys.length=m*8) (b6:ms<nx) (bm:m<=100000)
 (pH:∀M' nx',aq nx M M'->nx<=nx'->ar an ρ 38 [.mp h 0,.int .u64 T] M' nx' (fe nx' M' (.mp rk 0)))
 (b1:h<nx) (b2:rk<nx) (b3:mm<nx) (b4:vm<nx) (b5:om<nx) (hd:aw h rk=False/\aw rk h=False/\aw h mm=False/\aw mm h=False/\aw h vm=False/\aw vm h=False/\aw h om=False/\aw om h=False/\aw h ms=False/\aw ms h=False/\aw rk mm=False/\aw mm rk=False/\aw rk vm=False/\aw vm rk=False/\aw rk om=False/\aw om rk=False/\aw rk ms=False/\aw ms rk=False/\aw mm vm=False/\aw vm mm=False/\aw mm om=False/\aw om mm=False/\aw mm ms=False/\aw ms mm=False/\aw vm om=False/\aw om vm=False/\aw vm ms=False/\aw ms vm=False/\aw om ms=False/\aw ms om=False) (hw:IntKind.i64.wrap ((aH lo X).getD 0+1)=(aH lo X).getD 0+1)
 (p1:cellsOf pp=[pp]) (p2:ax pp=true) (p3:cellsOf pe=[pe]) (p4:ax pe=true) :
 ar an ρ 68 [.mp h 0,.int .i64 i,.agg [.int .i64 K,.int .u64 T,.int .u64 X,.int .u64 VW,.int .u64 VN,.int .u64 V,.int .i64 pk,.int .u64 pa,.int .u64 pb,pp,pe]] M nx fun o =>
  o.1 = .tup []/\nX M nx h nk rk mm vm om [ms] cm cv co m 0 lm lv lo ys [] c0 c1 c3 c6 T B E S N K X V i o:=by
 have bV:IntKind.u64.wrap (IntKind.i64.wrap ((0:Nat)+1))=((0+1:Nat):Int):=by rw[wrap_i64 aa aa,wrap_u64 aa aa];omega
 simp only[acr]at bV;refine ar.wk 85 [] adq ?_;refine ky Ei hh p2 p4 hd p1 p3 ?_;generalize xu:aG M nx _=M1;have a1:aq nx M M1:=by rw[<-xu];exact O
 have z0:gG M1 nx=some (.row [.int .i64 K,.int .u64 T,.int .u64 X,.int .u64 VW,.int .u64 VN,.int .u64 V,.int .i64 pk,.int .u64 pa,.int .u64 pb,pp,pe]):=by rw[<-xu];exact J
 clear xu;refine gQ (pH _ _ a1 aa) ?_;rintro⟨v,M2,n2⟩ ⟨g1,g2,g3⟩;simp only at g1 g2 g3;subst g1;have a2:=a1.trans (g2.le aa);replace z0:=(g2 nx aa).trans z0;have zh:=(a2 h b1).trans hh;have zr:=(a2 rk b2).trans hr;have zm:=(a2 mm b3).trans vY;have zv:=(a2 vm b4).trans Ec;have zo:=(a2 om b5).trans JG;have zms:=(a2 ms b6).trans F3;clear g2 a1 hh hr vY Ec JG pH;refine yq Ei z0 zh zr zm zv zo Ba QV hd hw (aI bV (aI zms hy)) ?_
 repeat' apply ao
 all_goals first
  | (refine bn _ _ _ _ _ _ ?_ ?_ ?_<;>(intro x hx hy;first | (simp only[aaK,aaZ,or_false]at hx hy;done) | (simp only[aaK,aaZ,or_false]at hx hy;omega));done)
  | skip
 have UQ:abP (m*8) ys=ys:=aaz aa;have zz:=fun j hj=>a2 j hj
 refine⟨⟨am,n2+37,n2+67,vc lm cm X,vc lv cv [X,T,((0+1:Nat):Int)],vc lo co X,aa,aa,am,am,aa,⟨rfl,rfl⟩,?_,?_,?_,?_,?_,?_,?_,fun j hj f1 f2 hZ nh iF=>?_⟩⟩
 rotate_right
 ·have zj:=zz j hj
  have k0:aw h j=False:=by simp only[aw,eq_iff_iff,iff_false];exact fun e=>f1 e.symm
  have k1:aw mm j=False:=by simp only[aw,eq_iff_iff,iff_false];exact fun e=>f2 e.symm
  have k2:aw vm j=False:=by simp only[aw,eq_iff_iff,iff_false];exact fun e=>hZ e.symm
  have k3:aw om j=False:=by simp only[aw,eq_iff_iff,iff_false];exact fun e=>nh e.symm
  have k4:aw ms j=False:=by simp only[aw,eq_iff_iff,iff_false];exact fun e=>iF (by rw[<-e];simp)
  refine ky Ei k0 k1 k2 k3 k4 zj ?_;try exact⟨⟩
 all_goals first
  | ((refine jz Ei hd zr UQ ?_;try exact⟨⟩);done)
  | ((refine jz Ei hd zr UQ ?_;try exact⟨⟩);first | rfl | (simp;done))
  | skip
theorem Qj (ρ:aK) (M:Hp) (nx h nk rk mm vm om ms s:Nat) (cm cv co m q:Nat) (lm:List (Nat×Int×XV)) (lv:List (Nat×List Int×Int)) (lo:List (Nat×Int×Int)) (ys zs:List XV) (c0 c1 c3 c6 pp pe:XV) (T B E S N K X VW VN V pk pa pb:Int) (i:Int)
 (hh:gG M h=some (.row [c0,c1,.mm nk,c3,.nils,.mm vm,c6,.mm om])) (hr:gG M rk=some (.row [.int .u64 T,.int .i64 B,.int .i64 E,.int .i64 S,.int .i64 N,.mm mm]))
 (vY:gG M mm=some (.map (cx vX lm) cm)) (Ec:gG M vm=some (.map (eY (vI .i64) lv) cv)) (JG:gG M om=some (.map (cx (vI .i64) lo) co)) (QV:jL 3 lv) (Ba:aH lm X=some (.sl s 1 0 q q)) (hs:gG M s=some (.row zs)) (hz:zs.length=q) (b7:s<nx) (bq:q<=100000)
 (pH:∀M' nx',aq nx M M'->nx<=nx'->ar an ρ 38 [.mp h 0,.int .u64 T] M' nx' (fe nx' M' (.mp rk 0)))
 (b1:h<nx) (b2:rk<nx) (b3:mm<nx) (b4:vm<nx) (b5:om<nx) (hd:aw h rk=False/\aw rk h=False/\aw h mm=False/\aw mm h=False/\aw h vm=False/\aw vm h=False/\aw h om=False/\aw om h=False/\aw h s=False/\aw s h=False/\aw rk mm=False/\aw mm rk=False/\aw rk vm=False/\aw vm rk=False/\aw rk om=False/\aw om rk=False/\aw rk s=False/\aw s rk=False/\aw mm vm=False/\aw vm mm=False/\aw mm om=False/\aw om mm=False/\aw mm s=False/\aw s mm=False/\aw vm om=False/\aw om vm=False/\aw vm s=False/\aw s vm=False/\aw om s=False/\aw s om=False) (hw:IntKind.i64.wrap ((aH lo X).getD 0+1)=(aH lo X).getD 0+1)
 (p1:cellsOf pp=[pp]) (p2:ax pp=true) (p3:cellsOf pe=[pe]) (p4:ax pe=true) :
 ar an ρ 68 [.mp h 0,.int .i64 i,.agg [.int .i64 K,.int .u64 T,.int .u64 X,.int .u64 VW,.int .u64 VN,.int .u64 V,.int .i64 pk,.int .u64 pa,.int .u64 pb,pp,pe]] M nx fun o =>
  o.1 = .tup []/\nX M nx h nk rk mm vm om [s] cm cv co 0 q lm lv lo [] zs c0 c1 c3 c6 T B E S N K X V i o:=by
 have bV:IntKind.u64.wrap (IntKind.i64.wrap ((q:Nat)+1))=((q+1:Nat):Int):=by rw[wrap_i64 aa aa,wrap_u64 aa aa];omega
 try simp only[acr]at bV
 refine ar.wk 85 [] adq ?_;refine ky Ei hh p2 p4 hd p1 p3 ?_;generalize xu:aG M nx _=M1;have a1:aq nx M M1:=by rw[<-xu];exact O
 have z0:gG M1 nx=some (.row [.int .i64 K,.int .u64 T,.int .u64 X,.int .u64 VW,.int .u64 VN,.int .u64 V,.int .i64 pk,.int .u64 pa,.int .u64 pb,pp,pe]):=by rw[<-xu];exact J
 clear xu;refine gQ (pH _ _ a1 aa) ?_;rintro⟨v,M2,n2⟩ ⟨g1,g2,g3⟩;simp only at g1 g2 g3;subst g1;have a2:=a1.trans (g2.le aa);replace z0:=(g2 nx aa).trans z0;have zh:=(a2 h b1).trans hh;have zr:=(a2 rk b2).trans hr;have zm:=(a2 mm b3).trans vY;have zv:=(a2 vm b4).trans Ec;have zo:=(a2 om b5).trans JG;have zs':=(a2 s b7).trans hs;clear g2 a1 hh hr vY Ec JG pH;refine yq Ei z0 zh zr zm zv zo Ba QV hd hw (aI bV (aI zs' hz)) ?_;have e1:s≠rk:=by intro e;subst e;simp[aw]at hd
 repeat' apply ao
 all_goals first
  | (refine bn _ _ _ _ _ _ ?_ ?_ ?_<;>(intro x hx hy;first | (simp only[aaK,aaZ,or_false]at hx hy;done) | (simp only[aaK,aaZ,or_false]at hx hy;omega));done)
  | skip
 have UR:abP q zs=zs:=aaz aa;have zz:=fun j hj=>a2 j hj
 refine⟨⟨am,n2+37,n2+67,vc lm cm X,vc lv cv [X,T,((q+1:Nat):Int)],vc lo co X,aa,aa,am,am,aa,⟨rfl,rfl⟩,?_,?_,?_,?_,?_,?_,?_,fun j hj f1 f2 hZ nh iF=>?_⟩⟩
 rotate_right
 ·have zj:=zz j hj
  have k0:aw h j=False:=by simp only[aw,eq_iff_iff,iff_false];exact fun e=>f1 e.symm
  have k1:aw mm j=False:=by simp only[aw,eq_iff_iff,iff_false];exact fun e=>f2 e.symm
  have k2:aw vm j=False:=by simp only[aw,eq_iff_iff,iff_false];exact fun e=>hZ e.symm
  have k3:aw om j=False:=by simp only[aw,eq_iff_iff,iff_false];exact fun e=>nh e.symm
  have k4:aw s j=False:=by simp only[aw,eq_iff_iff,iff_false];exact fun e=>iF (by rw[<-e];simp)
  refine ky Ei k0 k1 k2 k3 k4 zj ?_;try exact⟨⟩
 all_goals first
  | ((refine jz Ei hd zr UR ?_;try exact⟨⟩);done)
  | ((refine jz Ei hd zr UR ?_;try exact⟨⟩);first | rfl | (simp;done))
  | skip
theorem OI (ρ:aK) (M:Hp) (nx h nk rk mm vm om ms s:Nat) (cm cv co m q:Nat) (lm:List (Nat×Int×XV)) (lv:List (Nat×List Int×Int)) (lo:List (Nat×Int×Int)) (ys zs:List XV) (c0 c1 c3 c6 pp pe:XV) (T B E S N K X VW VN V pk pa pb:Int) (i:Int)
 (hh:gG M h=some (.row [c0,c1,.mm nk,c3,.sl ms 8 0 m m,.mm vm,c6,.mm om])) (hr:gG M rk=some (.row [.int .u64 T,.int .i64 B,.int .i64 E,.int .i64 S,.int .i64 N,.mm mm]))
 (vY:gG M mm=some (.map (cx vX lm) cm)) (Ec:gG M vm=some (.map (eY (vI .i64) lv) cv)) (JG:gG M om=some (.map (cx (vI .i64) lo) co)) (QV:jL 3 lv) (Ba:aH lm X=some (.sl s 1 0 q q)) (hs:gG M s=some (.row zs)) (hz:zs.length=q) (b7:s<nx) (bq:q<=100000) (F3:gG M ms=some (.row ys)) (hy:ys.length=m*8) (b6:ms<nx) (bm:m<=100000)
 (pH:∀M' nx',aq nx M M'->nx<=nx'->ar an ρ 38 [.mp h 0,.int .u64 T] M' nx' (fe nx' M' (.mp rk 0)))
 (b1:h<nx) (b2:rk<nx) (b3:mm<nx) (b4:vm<nx) (b5:om<nx) (hd:aw h rk=False/\aw rk h=False/\aw h mm=False/\aw mm h=False/\aw h vm=False/\aw vm h=False/\aw h om=False/\aw om h=False/\aw h s=False/\aw s h=False/\aw h ms=False/\aw ms h=False/\aw rk mm=False/\aw mm rk=False/\aw rk vm=False/\aw vm rk=False/\aw rk om=False/\aw om rk=False/\aw rk s=False/\aw s rk=False/\aw rk ms=False/\aw ms rk=False/\aw mm vm=False/\aw vm mm=False/\aw mm om=False/\aw om mm=False/\aw mm s=False/\aw s mm=False/\aw mm ms=False/\aw ms mm=False/\aw vm om=False/\aw om vm=False/\aw vm s=False/\aw s vm=False/\aw vm ms=False/\aw ms vm=False/\aw om s=False/\aw s om=False/\aw om ms=False/\aw ms om=False/\aw s ms=False/\aw ms s=False) (hw:IntKind.i64.wrap ((aH lo X).getD 0+1)=(aH lo X).getD 0+1)
 (p1:cellsOf pp=[pp]) (p2:ax pp=true) (p3:cellsOf pe=[pe]) (p4:ax pe=true) :
 ar an ρ 68 [.mp h 0,.int .i64 i,.agg [.int .i64 K,.int .u64 T,.int .u64 X,.int .u64 VW,.int .u64 VN,.int .u64 V,.int .i64 pk,.int .u64 pa,.int .u64 pb,pp,pe]] M nx fun o =>
  o.1 = .tup []/\nX M nx h nk rk mm vm om [s,ms] cm cv co m q lm lv lo ys zs c0 c1 c3 c6 T B E S N K X V i o:=by
 have bV:IntKind.u64.wrap (IntKind.i64.wrap ((q:Nat)+1))=((q+1:Nat):Int):=by rw[wrap_i64 aa aa,wrap_u64 aa aa];omega
 try simp only[acr]at bV
 refine ar.wk 85 [] adq ?_;refine ky Ei hh p2 p4 hd p1 p3 ?_;generalize xu:aG M nx _=M1;have a1:aq nx M M1:=by rw[<-xu];exact O
 have z0:gG M1 nx=some (.row [.int .i64 K,.int .u64 T,.int .u64 X,.int .u64 VW,.int .u64 VN,.int .u64 V,.int .i64 pk,.int .u64 pa,.int .u64 pb,pp,pe]):=by rw[<-xu];exact J
 clear xu;refine gQ (pH _ _ a1 aa) ?_;rintro⟨v,M2,n2⟩ ⟨g1,g2,g3⟩;simp only at g1 g2 g3;subst g1;have a2:=a1.trans (g2.le aa);replace z0:=(g2 nx aa).trans z0;have zh:=(a2 h b1).trans hh;have zr:=(a2 rk b2).trans hr;have zm:=(a2 mm b3).trans vY;have zv:=(a2 vm b4).trans Ec;have zo:=(a2 om b5).trans JG;have zs':=(a2 s b7).trans hs;have zms:=(a2 ms b6).trans F3;clear g2 a1 hh hr vY Ec JG pH;refine yq Ei z0 zh zr zm zv zo Ba QV hd hw (aI bV (aI zs' (aI hz (aI zms hy)))) ?_;have e1:s≠rk:=by intro e;subst e;simp[aw]at hd
 repeat' apply ao
 all_goals first
  | (refine bn _ _ _ _ _ _ ?_ ?_ ?_<;>(intro x hx hy;first | (simp only[aaK,aaZ,or_false]at hx hy;done) | (simp only[aaK,aaZ,or_false]at hx hy;omega));done)
  | skip
 have UR:abP q zs=zs:=aaz aa;have UQ:abP (m*8) ys=ys:=aaz aa;have zz:=fun j hj=>a2 j hj
 refine⟨⟨am,n2+37,n2+67,vc lm cm X,vc lv cv [X,T,((q+1:Nat):Int)],vc lo co X,aa,aa,am,am,aa,⟨rfl,rfl⟩,?_,?_,?_,?_,?_,?_,?_,fun j hj f1 f2 hZ nh iF=>?_⟩⟩
 rotate_right
 ·have zj:=zz j hj
  have k0:aw h j=False:=by simp only[aw,eq_iff_iff,iff_false];exact fun e=>f1 e.symm
  have k1:aw mm j=False:=by simp only[aw,eq_iff_iff,iff_false];exact fun e=>f2 e.symm
  have k2:aw vm j=False:=by simp only[aw,eq_iff_iff,iff_false];exact fun e=>hZ e.symm
  have k3:aw om j=False:=by simp only[aw,eq_iff_iff,iff_false];exact fun e=>nh e.symm
  have k4:aw s j=False:=by simp only[aw,eq_iff_iff,iff_false];exact fun e=>iF (by rw[<-e];simp)
  have k5:aw ms j=False:=by simp only[aw,eq_iff_iff,iff_false];exact fun e=>iF (by rw[<-e];simp)
  refine oq Ei k0 k1 k2 k3 k4 k5 zj ?_;try exact⟨⟩
 all_goals first
  | ((refine lO Ei hd zr UR UQ ?_;try exact⟨⟩);done)
  | ((refine lO Ei hd zr UR UQ ?_;try exact⟨⟩);first | rfl | (simp;done))
  | skip
end
section
open Go.Proofs
section
variable {M M':Hp} {lo hi h:Nat} {S:HS} {tag:Nat->Hg} {vrec vtxs vcom vmods vlook:XV} {nk vk ok cn cv co:Nat} {ptrs:List XV} {lnum:List (Nat×Int×Int)} {lver:List (Nat×List Int×Int)} {lobj:List (Nat×Int×Int)}
theorem eM.modPost (H:eM M lo hi h S tag vrec vtxs vcom vmods vlook nk vk ok cn cv co ptrs lnum lver lobj) {nx:Nat} (hh:hi<=nx) {k rk mk cm:Nat} {a:ku} {lm:List (Nat×Int×XV)} (ha:S.txs[k]?=some a) (hv:ptrs[k]?=some (.mp rk 0)) (r1:lo<=rk) (r2:rk<hi) (r3:tag rk = .known k) (m1:lo<=mk) (m2:mk<hi) (m3:tag mk = .kmap k)
 (FX:kD lm cm) (l0:∀x,aH lm x=none->S.places k x=[]) (l1:∀x v,aH lm x=some v->S.places k x≠[]/\bS M lo hi tag (.slot k x) v 1 (S.places k x).length ((S.places k x).map (XV.int .i64)))
 {i:Int} {old:List Nat} (dz:∀j ∈ old,tag j = .mods\/tag j = .slot k r.x) (UD:∀j ∈ old,lo<=j) (fm:S.mods.length<=100000) (fp:(S.places k r.x).length<=100000) {o:ew}
 (P:nX M nx h nk rk mk vk ok old cm cv co S.mods.length (S.places k r.x).length lm lver lobj (S.mods.flatMap cO) ((S.places k r.x).map (XV.int .i64)) vrec vtxs vcom vlook a.t a.b a.e a.s a.n r.kind r.x r.v i o) (qL:a.t=r.t) :
 bX o.2.1 lo o.2.2 h (S.modify i r k)/\aq lo M o.2.1/\nx<=o.2.2:=by
 obtain⟨hn,ns,nm,cm',cv',co',n1,n2,n3,n4,n5,⟨ec,ec2⟩,p1,p2,p3,p4,p5,p6,p7,p8⟩:=P;have vg:=H.h_hi;have mo:=H.lo_h;rw[qL]at p4 p7;have key:∀q,q<hi->¬ vH k r.x (tag q)->gG o.2.1 q=gG M q:=fun q hq hc=>by
  refine p8 q aa (fun e=>hc (by rw[e];exact .inl H.tg)) (fun e=>hc (by rw[e];exact .inr (.inr (.inr (.inr (.inl m3)))))) (fun e=>hc (by rw[e];exact .inr (.inr (.inl H.vtg)))) (fun e=>hc (by rw[e];exact .inr (.inr (.inr (.inl H.otg))))) fun hm=>?_
  rcases dz q hm with e | e
  ·exact hc (.inr (.inl e))
  exact hc (.inr (.inr (.inr (.inr (.inr e)))))
 refine⟨⟨fun q=>if q=ns then .slot k r.x else if q=nm then .mods else tag q,vrec,vtxs,vcom,.sl nm 8 0 (S.mods.length+1) (S.mods.length+1),vlook,nk,vk,ok,cn,cv',co',ptrs,lnum,dD lver cv [r.x,r.t,(((S.places k r.x).length+1:Nat):Int)] (S.mods.length:Int),dD lobj co r.x ((aH lobj r.x).getD 0+1),?_⟩,fun q hq=>?_,hn⟩
 ·refine H.modify key (fun q hq=>by rw[if_neg aa,if_neg aa]) aa p1 ?_ p4 (wZ H.vrow rfl) (fun x w n=>?_) p5 ⟨by rw[ec2];exact zV H.objS.1,fun x=>?_⟩ fun b hb=>?_
  ·refine⟨aa,?_,.inr ⟨aa,nm,rfl,aa,n4,by simp only;rw[if_neg fun e=>n5 e.symm];simp,?_⟩⟩
   ·have:=H.mods.2.1
    simp only[HS.modify,abL,aau,this];simp[cO];omega
   rw[p7];simp only[HS.modify,abL];rfl
  ·rw[cQ,H.verS]
   simp only[HS.modify];by_cases e:x=r.x/\w=r.t/\n=(((S.places k r.x).length+1:Nat):Int)
   ·obtain⟨rfl,rfl,rfl⟩:=e
    rw[if_pos rfl,if_pos ⟨rfl,rfl,rfl⟩]
   rw[if_neg e,if_neg fun q=>e (by cases q;exact⟨rfl,rfl,rfl⟩)]
  ·rw[cQ,H.objS.2,H.objS.2]
   rfl
  rw[ha]at hb;cases hb;refine⟨_,hv,rk,mk,cm',_,rfl,r1,aa,by simp only;rw[if_neg aa,if_neg aa];exact r3,?_,m1,aa,by simp only;rw[if_neg aa,if_neg aa];exact m3,p3,⟨by rw[ec];exact zV FX,fun x hx=>?_⟩,fun x v hx=>?_⟩;·rw[p2];rfl
  ·rw[cQ]at hx
   split at hx;·cases hx
   rename_i e;simp only[HS.modify];rw[if_neg fun q=>e q.2];exact l0 x hx
  rw[cQ]at hx;split at hx
  ·rename_i e
   subst e;cases hx;have ep:(S.modify i r k).places k r.x=S.places k r.x++[(S.mods.length:Int)]:=if_pos ⟨rfl,rfl⟩;rw[ep];refine⟨af,ak,af,.inr ⟨af,ns,af,aa,n3,af,?_⟩⟩;rw[p6,abV];rfl
  rename_i e;simp only[HS.modify];rw[if_neg fun q=>e q.2];obtain⟨g1,g2⟩:=l1 x v hx;refine⟨g1,g2.keep (fun q hq hg=>⟨key q hq (by rw[hg];simp[vH,e]),by rw[if_neg aa,if_neg aa];exact hg⟩) aa⟩
 exact p8 q aa aa aa (by have:=H.vlo;omega) (by have:=H.olo;omega) fun hm=>by have:=UD q hm;omega
end
theorem f68 (ρ:aK) {M:Hp} {nx:Nat} (hr:B3 r cs) (H:bX M lo hi h S) (hh:hi<=nx) (few:S.mods.length<=100000) {k:Nat} (hk:S.num r.t=some (k:Int)) {a:ku} (ha:S.txs[k]?=some a) (qL:a.t=r.t) (fewp:(S.places k r.x).length<=100000) (i:Int)
 (cnt:0<=(S.obj r.x).getD 0/\(S.obj r.x).getD 0<=1000000000) :
 ar an ρ 68 [.mp h 0,.int .i64 i,.agg cs] M nx fun o=>o.1 = .tup []/\bX o.2.1 lo o.2.2 h (S.modify i r k)/\aq lo M o.2.1/\nx<=o.2.2:=by
 obtain⟨pk,pa,pb,pv,ve,rfl,⟨p1,p2⟩,⟨q1,q2⟩⟩:=hr;obtain⟨tag,vrec,vtxs,vcom,vmods,vlook,nk,vk,ok,cn,cv,co,ptrs,lnum,lver,lobj,H⟩:=H;have mD:=H.objS.2 r.x;rw[<-mD]at cnt;have hw:IntKind.i64.wrap ((aH lobj r.x).getD 0+1)=(aH lobj r.x).getD 0+1:=wrap_i64 aa aa;have kA:k<S.txs.length:=(aaq.1 ha).1;obtain⟨w,hv,rk,mk,cm,lm,rfl,r1,r2,r3,r4,m1,m2,m3,m4,⟨FX,l0⟩,l1⟩:=H.known k a ha;have pH:∀M' nx',aq nx M M'->nx<=nx'->ar an ρ 38 [.mp h 0,.int .u64 r.t] M' nx' (fe nx' M' (.mp rk 0)):=fun M' nx' ha hn=>f38 ρ (H.agr (ha.le hh)) aa hk hv kA
 simp only[d_,aa8,abp,qL]at r4;have d1:=aZ H.tg r3 af;have d2:=aZ H.tg m3 af;have d3:=aZ H.tg H.vtg af;have d4:=aZ H.tg H.otg af;have d5:=aZ r3 m3 af;have d6:=aZ r3 H.vtg af;have d7:=aZ r3 H.otg af;have d8:=aZ m3 H.vtg af;have d9:=aZ m3 H.otg af;have NE:=aZ H.vtg H.otg af;have o1:h<nx:=aax H.h_hi hh;have o2:rk<nx:=aax r2 hh;have o3:mk<nx:=aax m2 hh;have o4:vk<nx:=aax H.vhi hh;have o5:ok<nx:=aax H.ohi hh;have fin:∀(old:List Nat) (o:ew),(∀j ∈ old,tag j = .mods\/tag j = .slot k r.x)->(∀j ∈ old,lo<=j) ->
  nX M nx h nk rk mk vk ok old cm cv co S.mods.length (S.places k r.x).length lm lver lobj (S.mods.flatMap cO) ((S.places k r.x).map (XV.int .i64)) vrec vtxs vcom vlook r.t a.b a.e a.s a.n r.kind r.x r.v i o ->
  bX o.2.1 lo o.2.2 h (S.modify i r k)/\aq lo M o.2.1/\nx<=o.2.2:=fun old o g1 g2 P=>by
  rw[<-qL]at P;exact H.modPost hh ha hv r1 r2 r3 m1 m2 m3 FX l0 l1 g1 g2 few fewp P qL
 have bA:=H.row;obtain⟨hz,cF,⟨rfl,pG⟩ | ⟨hl,ms,rfl,s1,s2,s3,s4⟩⟩:=H.mods
 ·have NO:S.mods=[]:=aaG.1 pG
  cases Ba:aH lm r.x with
  | none =>
    have sV:=l0 r.x Ba;have hd:aw h rk=False/\aw rk h=False/\aw h mk=False/\aw mk h=False/\aw h vk=False/\aw vk h=False/\aw h ok=False/\aw ok h=False/\aw rk mk=False/\aw mk rk=False/\aw rk vk=False/\aw vk rk=False/\aw rk ok=False/\aw ok rk=False/\aw mk vk=False/\aw vk mk=False/\aw mk ok=False/\aw ok mk=False/\aw vk ok=False/\aw ok vk=False:=by simp only[aw,eq_iff_iff,iff_false];exact⟨d1,d1.symm,d2,d2.symm,d3,d3.symm,d4,d4.symm,d5,d5.symm,d6,d6.symm,d7,d7.symm,d8,d8.symm,d9,d9.symm,NE,NE.symm⟩
    refine ar.mono (PQ ρ M nx h nk rk mk vk ok 0 0 cm cv co 0 0 lm lver lobj [] [] vrec vtxs vcom vlook pv ve r.t a.b a.e a.s a.n r.kind r.x r.w r.n r.v pk pa pb i bA r4 m4 H.ver H.obj H.vrow Ba pH o1 o2 o3 o4 o5 hd hw p1 p2 q1 q2) fun o ho=>⟨ho.1,fin [] o ?_ ?_ ?_⟩
    ·intro j hj;cases hj
    ·intro j hj;cases hj
    rw[NO,sV];exact ho.2
  | some sv =>
    obtain⟨cf,hzz,hcz,⟨_,e0⟩ | ⟨ht,s,rfl,t1,t2,t3,t4⟩⟩:=l1 r.x sv Ba;·exact(cf (aaG.1 e0)).elim
    have g1:=aZ H.tg t3 af;have g2:=aZ r3 t3 af;have g3:=aZ m3 t3 af;have g4:=aZ H.vtg t3 af;have g5:=aZ H.otg t3 af;have hd:aw h rk=False/\aw rk h=False/\aw h mk=False/\aw mk h=False/\aw h vk=False/\aw vk h=False/\aw h ok=False/\aw ok h=False/\aw h s=False/\aw s h=False/\aw rk mk=False/\aw mk rk=False/\aw rk vk=False/\aw vk rk=False/\aw rk ok=False/\aw ok rk=False/\aw rk s=False/\aw s rk=False/\aw mk vk=False/\aw vk mk=False/\aw mk ok=False/\aw ok mk=False/\aw mk s=False/\aw s mk=False/\aw vk ok=False/\aw ok vk=False/\aw vk s=False/\aw s vk=False/\aw ok s=False/\aw s ok=False:=by simp only[aw,eq_iff_iff,iff_false];exact⟨d1,d1.symm,d2,d2.symm,d3,d3.symm,d4,d4.symm,g1,g1.symm,d5,d5.symm,d6,d6.symm,d7,d7.symm,g2,g2.symm,d8,d8.symm,d9,d9.symm,g3,g3.symm,NE,NE.symm,g4,g4.symm,g5,g5.symm⟩
    refine ar.mono (Qj ρ M nx h nk rk mk vk ok 0 s cm cv co 0 (S.places k r.x).length lm lver lobj [] ((S.places k r.x).map (XV.int .i64)) vrec vtxs vcom vlook pv ve r.t a.b a.e a.s a.n r.kind r.x r.w r.n r.v pk pa pb i bA r4 m4 H.ver H.obj H.vrow Ba t4 af (aax t2 hh) fewp pH o1 o2 o3 o4 o5 hd hw p1 p2 q1 q2) fun o ho=>⟨ho.1,fin [s] o ?_ ?_ ?_⟩
    ·intro j hj;simp only[aaK,aaZ,or_false]at hj;subst hj;exact .inr t3
    ·intro j hj;simp only[aaK,aaZ,or_false]at hj;subst hj;exact t1
    rw[NO];exact ho.2
 cases Ba:aH lm r.x with
 | none =>
   have sV:=l0 r.x Ba;have g1:=aZ H.tg s3 af;have g2:=aZ r3 s3 af;have g3:=aZ m3 s3 af;have g4:=aZ H.vtg s3 af;have g5:=aZ H.otg s3 af;have hd:aw h rk=False/\aw rk h=False/\aw h mk=False/\aw mk h=False/\aw h vk=False/\aw vk h=False/\aw h ok=False/\aw ok h=False/\aw h ms=False/\aw ms h=False/\aw rk mk=False/\aw mk rk=False/\aw rk vk=False/\aw vk rk=False/\aw rk ok=False/\aw ok rk=False/\aw rk ms=False/\aw ms rk=False/\aw mk vk=False/\aw vk mk=False/\aw mk ok=False/\aw ok mk=False/\aw mk ms=False/\aw ms mk=False/\aw vk ok=False/\aw ok vk=False/\aw vk ms=False/\aw ms vk=False/\aw ok ms=False/\aw ms ok=False:=by simp only[aw,eq_iff_iff,iff_false];exact⟨d1,d1.symm,d2,d2.symm,d3,d3.symm,d4,d4.symm,g1,g1.symm,d5,d5.symm,d6,d6.symm,d7,d7.symm,g2,g2.symm,d8,d8.symm,d9,d9.symm,g3,g3.symm,NE,NE.symm,g4,g4.symm,g5,g5.symm⟩
   refine ar.mono (Qn ρ M nx h nk rk mk vk ok ms 0 cm cv co S.mods.length 0 lm lver lobj (S.mods.flatMap cO) [] vrec vtxs vcom vlook pv ve r.t a.b a.e a.s a.n r.kind r.x r.w r.n r.v pk pa pb i bA r4 m4 H.ver H.obj H.vrow Ba s4 cF (aax s2 hh) few pH o1 o2 o3 o4 o5 hd hw p1 p2 q1 q2) fun o ho=>⟨ho.1,fin [ms] o ?_ ?_ ?_⟩
   ·intro j hj;simp only[aaK,aaZ,or_false]at hj;subst hj;exact .inl s3
   ·intro j hj;simp only[aaK,aaZ,or_false]at hj;subst hj;exact s1
   rw[sV];exact ho.2
 | some sv =>
   obtain⟨cf,hzz,hcz,⟨_,e0⟩ | ⟨ht,s,rfl,t1,t2,t3,t4⟩⟩:=l1 r.x sv Ba;·exact(cf (aaG.1 e0)).elim
   have g1:=aZ H.tg t3 af;have g2:=aZ H.tg s3 af;have g3:=aZ r3 t3 af;have g4:=aZ r3 s3 af;have g5:=aZ m3 t3 af;have g6:=aZ m3 s3 af;have g7:=aZ H.vtg t3 af;have g8:=aZ H.vtg s3 af;have g9:=aZ H.otg t3 af;have RG:=aZ H.otg s3 af;have g11:=aZ t3 s3 af;have hd:aw h rk=False/\aw rk h=False/\aw h mk=False/\aw mk h=False/\aw h vk=False/\aw vk h=False/\aw h ok=False/\aw ok h=False/\aw h s=False/\aw s h=False/\aw h ms=False/\aw ms h=False/\aw rk mk=False/\aw mk rk=False/\aw rk vk=False/\aw vk rk=False/\aw rk ok=False/\aw ok rk=False/\aw rk s=False/\aw s rk=False/\aw rk ms=False/\aw ms rk=False/\aw mk vk=False/\aw vk mk=False/\aw mk ok=False/\aw ok mk=False/\aw mk s=False/\aw s mk=False/\aw mk ms=False/\aw ms mk=False/\aw vk ok=False/\aw ok vk=False/\aw vk s=False/\aw s vk=False/\aw vk ms=False/\aw ms vk=False/\aw ok s=False/\aw s ok=False/\aw ok ms=False/\aw ms ok=False/\aw s ms=False/\aw ms s=False:=by simp only[aw,eq_iff_iff,iff_false];exact⟨d1,d1.symm,d2,d2.symm,d3,d3.symm,d4,d4.symm,g1,g1.symm,g2,g2.symm,d5,d5.symm,d6,d6.symm,d7,d7.symm,g3,g3.symm,g4,g4.symm,d8,d8.symm,d9,d9.symm,g5,g5.symm,g6,g6.symm,NE,NE.symm,g7,g7.symm,g8,g8.symm,g9,g9.symm,RG,RG.symm,g11,g11.symm⟩
   refine ar.mono (OI ρ M nx h nk rk mk vk ok ms s cm cv co S.mods.length (S.places k r.x).length lm lver lobj (S.mods.flatMap cO) ((S.places k r.x).map (XV.int .i64)) vrec vtxs vcom vlook pv ve r.t a.b a.e a.s a.n r.kind r.x r.w r.n r.v pk pa pb i bA r4 m4 H.ver H.obj H.vrow Ba t4 af (aax t2 hh) fewp s4 cF (aax s2 hh) few pH o1 o2 o3 o4 o5 hd hw p1 p2 q1 q2) fun o ho=>⟨ho.1,fin [s,ms] o ?_ ?_ ?_⟩
   ·intro j hj;simp only[aaK,aaZ,or_false]at hj;rcases hj with rfl | rfl;exact .inr t3;exact .inl s3
   ·intro j hj;simp only[aaK,aaZ,or_false]at hj;rcases hj with rfl | rfl;exact t1;exact s1
   exact ho.2
end
section
open Go.Proofs
theorem bX.agr {M:Hp} (H:bX M lo hi h S) (ha:aq hi M M'):bX M' lo hi h S:=by obtain⟨tag,vrec,vtxs,vcom,vmods,vlook,nk,vk,ok,cn,cv,co,ptrs,lnum,lver,lobj,H⟩:=H;exact⟨tag,vrec,vtxs,vcom,vmods,vlook,nk,vk,ok,cn,cv,co,ptrs,lnum,lver,lobj,H.agr ha⟩
theorem bX.lo_le {M:Hp} (H:bX M lo hi h S):lo<=h/\h<hi:=by obtain⟨tag,vrec,vtxs,vcom,vmods,vlook,nk,vk,ok,cn,cv,co,ptrs,lnum,lver,lobj,H⟩:=H;exact⟨H.lo_h,H.h_hi⟩
theorem f30read (ρ:aK) {M:Hp} {nx:Nat} (hr:B3 r cs) (H:bX M lo hi h S) (hh:hi<=nx) (k2:r.kind=2) (few:S.looks.length<=100000) (cnt:0<=(S.obj r.x).getD 0/\(S.obj r.x).getD 0<=1000000000) (i:Int) :
 ar an ρ 30 [.mp h 0,.int .i64 i,.agg cs] M nx fun o=>o.1 = .tup []/\bX o.2.1 lo o.2.2 h (S.look ⟨i,0,r.t,r.x,r.w,r.n,false,false⟩)/\aq lo M o.2.1/\nx<=o.2.2:=by
 obtain⟨pk,pa,pb,pv,ve,rfl,⟨p1,p2⟩,⟨q1,q2⟩⟩:=hr;have mo:=H.lo_le;have N_:=fun(M1:Hp) (n1:Nat) (ha:aq nx M M1) (hn:nx<=n1)=>f67 ρ (H.agr (ha.le hh)) (show hi<=n1 by omega) few ⟨i,0,r.t,r.x,r.w,r.n,false,false⟩ cnt
 simp only[cX]at N_;clear H;rw[k2];refine ar.wk 134 [] ab7 ?_;refine lO sJ p1 p2 q1 q2 ?_;generalize xu:aG M nx _=M1;have a1:aq nx M M1:=by rw[<-xu];exact O
 clear xu;refine gQ (N_ M1 _ a1 aa) ?_;rintro⟨u,M2,n2⟩ ⟨g1,g2,g3,g4⟩;simp only at g1 g2 g3 g4;subst g1;refine dt sJ ?_;exact⟨g2,(a1.le aa).trans g3,aa⟩
theorem f30mod (ρ:aK) {M:Hp} {nx:Nat} (hr:B3 r cs) (H:bX M lo hi h S) (hh:hi<=nx) (k34:r.kind=3\/r.kind=4) (few:S.mods.length<=100000) {k:Nat} (hk:S.num r.t=some (k:Int)) {a:ku} (ha:S.txs[k]?=some a) (qL:a.t=r.t) (fewp:(S.places k r.x).length<=100000) (i:Int)
 (cnt:0<=(S.obj r.x).getD 0/\(S.obj r.x).getD 0<=1000000000) :
 ar an ρ 30 [.mp h 0,.int .i64 i,.agg cs] M nx fun o=>o.1 = .tup []/\bX o.2.1 lo o.2.2 h (S.modify i r k)/\aq lo M o.2.1/\nx<=o.2.2:=by
 have mo:=H.lo_le;have vZ:=fun(M1:Hp) (n1:Nat) (Qw:aq nx M M1) (hn:nx<=n1)=>f68 ρ hr (H.agr (Qw.le hh)) (show hi<=n1 by omega) few hk ha qL fewp i cnt
 obtain⟨pk,pa,pb,pv,ve,rfl,⟨p1,p2⟩,⟨q1,q2⟩⟩:=hr;clear H hk ha qL;rcases k34 with e | e
 all_goals
  rw[e]at vZ ⊢
 all_goals
  refine ar.wk 134 [] ab7 ?_
 all_goals
  refine lO sJ p1 p2 q1 q2 ?_;try exact⟨⟩
 all_goals
  generalize xu:aG M nx _=M1;have a1:aq nx M M1:=by rw[<-xu];exact O
  clear xu;refine gQ (vZ M1 _ a1 aa) ?_;rintro⟨u,M2,n2⟩ ⟨g1,g2,g3,g4⟩;simp only at g1 g2 g3 g4;subst g1
 all_goals
  refine dt sJ ?_;try exact⟨⟩
 all_goals
  exact⟨g2,(a1.le aa).trans g3,aa⟩
structure xT (M:Hp) (nx h nk vm om m cn:Nat) (ln:List (Nat×Int×Int)) (ys:List XV) (c0 c3 c4 c6:XV) (T:Int) (i:Int) (old:List Nat) (o:ew):Prop where
 post:nx<=o.2.2/\(∃ts R mk cn',nx<=ts/\ts<o.2.2/\nx<=R/\R<o.2.2/\nx<=mk/\mk<o.2.2/\ts≠R/\ts≠mk/\R≠mk/\gG o.2.1 h=some (.row [c0,.sl ts 1 0 (m+1) (m+1),.mm nk,c3,c4,.mm vm,c6,.mm om])/\gG o.2.1 nk=some (.map (cx (vI .i64) (dD ln cn T (m:Int))) cn') /\
  gG o.2.1 ts=some (.row (ys++[.mp R 0]))/\gG o.2.1 R=some (.row [.int .u64 T,.int .i64 i,.int .i64 0,.int .i64 3,.int .i64 (-1),.mm mk])/\gG o.2.1 mk=some (.map [] 0))/\∀j,j<nx->j≠h->j≠nk->j ∉ old->gG o.2.1 j=gG M j
theorem OU (ρ:aK) (M:Hp) (nx h nk vm om cs m cn:Nat) (ln:List (Nat×Int×Int)) (ys:List XV) (c0 c3 c4 c6 pp pe:XV) (T X VW VN V pk pa pb:Int) (i:Int)
 (hh:gG M h=some (.row [c0,.nils,.mm nk,c3,c4,.mm vm,c6,.mm om])) (hn:gG M nk=some (.map (cx (vI .i64) ln) cn))
 (b1:h<nx) (b2:nk<nx) (hd:aw h nk=False/\aw nk h=False) (p1:cellsOf pp=[pp]) (p2:ax pp=true) (p3:cellsOf pe=[pe]) (p4:ax pe=true) :
 ar an ρ 30 [.mp h 0,.int .i64 i,.agg [.int .i64 1,.int .u64 T,.int .u64 X,.int .u64 VW,.int .u64 VN,.int .u64 V,.int .i64 pk,.int .u64 pa,.int .u64 pb,pp,pe]] M nx fun o =>
  o.1 = .tup []/\xT M nx h nk vm om 0 cn ln [] c0 c3 c4 c6 T i [] o:=by
 refine ar.wk 134 [] ab7 ?_;refine oq sJ p1 p2 p3 p4 hh hn hd ?_
 repeat' apply ao
 all_goals first
  | (refine bn _ _ _ _ _ _ ?_ ?_ ?_<;>(intro x hx hy;first | (simp only[aaK,aaZ,or_false]at hx hy;done) | (simp only[aaK,aaZ,or_false]at hx hy;omega));done)
  | skip
 refine⟨am,⟨nx+30,nx+28,nx+26,vc ln cn T,aa,am,aa,am,aa,am,aa,aa,aa,?_,?_,?_,?_,?_⟩,fun j hj f1 f2 hZ=>?_⟩
 rotate_right
 ·have k0:aw h j=False:=by simp only[aw,eq_iff_iff,iff_false];exact fun e=>f1 e.symm
  have k1:aw nk j=False:=by simp only[aw,eq_iff_iff,iff_false];exact fun e=>f2 e.symm
  refine gk sJ k0 k1 ?_;try exact⟨⟩
 all_goals first
  | ((refine fM sJ hd ?_;try exact⟨⟩);done)
  | ((refine fM sJ hd ?_;try exact⟨⟩);first | rfl | (simp;done))
  | skip
theorem OA (ρ:aK) (M:Hp) (nx h nk vm om cs m cn:Nat) (ln:List (Nat×Int×Int)) (ys:List XV) (c0 c3 c4 c6 pp pe:XV) (T X VW VN V pk pa pb:Int) (i:Int)
 (hh:gG M h=some (.row [c0,.sl cs 1 0 m m,.mm nk,c3,c4,.mm vm,c6,.mm om])) (hn:gG M nk=some (.map (cx (vI .i64) ln) cn)) (dI:gG M cs=some (.row ys)) (cF:ys.length=m) (b3:cs<nx) (hm:1<=m) (bm:m<=100000)
 (b1:h<nx) (b2:nk<nx) (hd:aw h nk=False/\aw nk h=False/\aw h cs=False/\aw cs h=False/\aw nk cs=False/\aw cs nk=False) (p1:cellsOf pp=[pp]) (p2:ax pp=true) (p3:cellsOf pe=[pe]) (p4:ax pe=true) :
 ar an ρ 30 [.mp h 0,.int .i64 i,.agg [.int .i64 1,.int .u64 T,.int .u64 X,.int .u64 VW,.int .u64 VN,.int .u64 V,.int .i64 pk,.int .u64 pa,.int .u64 pb,pp,pe]] M nx fun o =>
  o.1 = .tup []/\xT M nx h nk vm om m cn ln ys c0 c3 c4 c6 T i [cs] o:=by
 refine ar.wk 134 [] ab7 ?_;refine rf sJ p1 p2 p3 p4 hh hn hd dI cF ?_;have kB:abP m ys=ys:=aaz aa
 repeat' apply ao
 all_goals first
  | (refine bn _ _ _ _ _ _ ?_ ?_ ?_<;>(intro x hx hy;first | (simp only[aaK,aaZ,or_false]at hx hy;done) | (simp only[aaK,aaZ,or_false]at hx hy;omega));done)
  | skip
 refine⟨am,⟨nx+30,nx+28,nx+26,vc ln cn T,aa,am,aa,am,aa,am,aa,aa,aa,?_,?_,?_,?_,?_⟩,fun j hj f1 f2 hZ=>?_⟩
 rotate_right
 ·have k0:aw h j=False:=by simp only[aw,eq_iff_iff,iff_false];exact fun e=>f1 e.symm
  have k1:aw nk j=False:=by simp only[aw,eq_iff_iff,iff_false];exact fun e=>f2 e.symm
  have k2:aw cs j=False:=by simp only[aw,eq_iff_iff,iff_false];exact fun e=>hZ (by rw[<-e];simp)
  refine jz sJ k0 k1 k2 ?_;try exact⟨⟩
 all_goals first
  | ((refine gk sJ hd kB ?_;try exact⟨⟩);done)
  | ((refine gk sJ hd kB ?_;try exact⟨⟩);first | rfl | (simp;done))
  | skip
theorem f30begin (ρ:aK) {M:Hp} {nx:Nat} (hr:B3 r cs) (H:bX M lo hi h S) (hh:hi<=nx) (k1:r.kind=1) (few:S.txs.length<=100000) (i:Int) :
 ar an ρ 30 [.mp h 0,.int .i64 i,.agg cs] M nx fun o=>o.1 = .tup []/\bX o.2.1 lo o.2.2 h (S.begin i r)/\aq lo M o.2.1/\nx<=o.2.2:=by
 obtain⟨pk,pa,pb,pv,ve,rfl,⟨p1,p2⟩,⟨q1,q2⟩⟩:=hr;rw[k1];obtain⟨tag,vrec,vtxs,vcom,vmods,vlook,nk,vk,ok,cn,cv,co,ptrs,lnum,lver,lobj,H⟩:=H;have vg:=H.h_hi;have mo:=H.lo_h;have ZW:=H.nhi;have hnlo:=H.nlo;have d1:=aZ H.tg H.ntg af;have fin:∀(old:List Nat) (o:ew),(∀j ∈ old,tag j = .txs)->(∀j ∈ old,lo<=j)->xT M nx h nk vk ok S.txs.length cn lnum ptrs vrec vcom vmods vlook r.t i old o ->
  bX o.2.1 lo o.2.2 h (S.begin i r)/\aq lo M o.2.1/\nx<=o.2.2:=by
  intro old o h1 h2 P;obtain⟨⟨g2,⟨ts,R,mk,cn',c1,c2,c3,c4,c5,c6,c7,c8,c9,e1,e2,e3,e4,e5⟩,g4⟩⟩:=P;have key:∀q,q<hi->¬ Og (tag q)->gG o.2.1 q=gG M q:=fun q hq hc=>g4 q aa (fun e=>hc (by rw[e];exact .inl H.tg)) (fun e=>hc (by rw[e];exact .inr (.inr H.ntg))) fun e=>hc (.inr (.inl (h1 q e)))
  refine⟨⟨fun q=>if q=ts then .txs else if q=R then .known S.txs.length else if q=mk then .kmap S.txs.length else tag q,vrec,_,vcom,vmods,vlook,nk,vk,ok,cn',cv,co,ptrs++[.mp R 0],_,lver,lobj,
   H.begin (tag':=fun q=>if q=ts then .txs else if q=R then .known S.txs.length else if q=mk then .kmap S.txs.length else tag q) key (fun q hq=>by rw[if_neg aa,if_neg aa,if_neg aa]) aa e1 ?_ e2 (fun t=>?_) ⟨R,mk,0,[],rfl,aa,c4,?_,e4,aa,c6,?_,e5,⟨AH _,fun _ _=>rfl⟩,fun x v hx=>by simp[aH]at hx⟩⟩,fun j hj=>g4 j aa aa aa fun e=>by have:=h2 j e;omega,g2⟩
  ·have:=H.txs.2.1
   exact⟨aa,ak,.inr ⟨aa,ts,rfl,aa,c2,af,e3⟩⟩
  ·rw[cQ,H.numS]
   rfl
  ·simp only;rw[if_neg (fun e=>c7 e.symm)];simp
  simp only;rw[if_neg (fun e=>c8 e.symm),if_neg (fun e=>c9 e.symm)];simp
 have bA:=H.row;obtain⟨hz,cF,⟨rfl,pG⟩ | ⟨hl,ck,rfl,s1,s2,s3,s4⟩⟩:=H.txs
 ·have sV:ptrs=[]:=aaG.1 aa
  have hd:aw h nk=False/\aw nk h=False:=by simp only[aw,eq_iff_iff,iff_false];exact⟨d1,d1.symm⟩
  refine ar.mono (OU ρ M nx h nk vk ok 0 0 cn lnum [] vrec vcom vmods vlook pv ve r.t r.x r.w r.n r.v pk pa pb i bA H.num aa aa hd p1 p2 q1 q2) fun o ho=>⟨ho.1,fin [] o (fun j hj=>by cases hj) (fun j hj=>by cases hj) ?_⟩
  rw[pG,sV];exact ho.2
 have d2:=aZ H.tg s3 af;have d3:=aZ H.ntg s3 af;have hd:aw h nk=False/\aw nk h=False/\aw h ck=False/\aw ck h=False/\aw nk ck=False/\aw ck nk=False:=by simp only[aw,eq_iff_iff,iff_false];exact⟨d1,d1.symm,d2,d2.symm,d3,d3.symm⟩
 refine ar.mono (OA ρ M nx h nk vk ok ck S.txs.length cn lnum ptrs vrec vcom vmods vlook pv ve r.t r.x r.w r.n r.v pk pa pb i bA H.num s4 aa aa hl few aa aa hd p1 p2 q1 q2) fun o ho=>⟨ho.1,fin [ck] o (fun j hj=>?_) (fun j hj=>?_) ho.2⟩
 ·simp only[aaK,aaZ,or_false]at hj;subst hj;exact s3
 simp only[aaK,aaZ,or_false]at hj;subst hj;exact s1
def ng (i:Int) (r:aR) (n:Nat) (e:En):my:=⟨i,(n:Int),r.t,e.x,e.w,e.n,true,e.m⟩
def HS.preds (S:HS) (i:Int) (r:aR):Nat->HS
 | 0=>S
 | n+1=>match r.es[n]? with | some e=>(S.preds i r n).look (ng i r n e) | none=>S.preds i r n
theorem nr {S:HS} {i:Int} {r:aR}:∀(n:Nat),(S.preds i r n).looks.length<=S.looks.length+n/\∀x,(0<=(S.obj x).getD 0->0<=((S.preds i r n).obj x).getD 0)/\((S.preds i r n).obj x).getD 0<=max ((S.obj x).getD 0) 0+n
 | 0=>⟨by simp[HS.preds],fun x=>⟨fun h=>h,by simp only[HS.preds];omega⟩⟩
 | n+1=>by
   obtain⟨h1,h2⟩:=nr (S:=S) (i:=i) (r:=r) n;unfold HS.preds;cases he:r.es[n]? with
   | some e =>
     have hl:∀x,((S.preds i r n).look (ng i r n e)).obj x=if x=(ng i r n e).x then some (((S.preds i r n).obj (ng i r n e).x).getD 0+1) else (S.preds i r n).obj x:=fun x=>rfl
     refine⟨by simp[HS.look];omega,fun x=>?_⟩;have:=h2 x;show (0<=(S.obj x).getD 0->0<=(((S.preds i r n).look (ng i r n e)).obj x).getD 0)/\(((S.preds i r n).look (ng i r n e)).obj x).getD 0<=max ((S.obj x).getD 0) 0+((n+1:Nat):Int);rw[hl];by_cases hx:x=(ng i r n e).x
     ·rw[if_pos hx,getD_some,<-hx]
      omega
     rw[if_neg hx];omega
   | none=>exact⟨am,fun x=>by have:=h2 x;simp only;omega⟩
theorem f67h (ρ:aK) {M:Hp} {nx:Nat} (H:HF M nx N lo h S) (few:S.looks.length<=100000) (a:my) (cnt:0<=(S.obj a.x).getD 0/\(S.obj a.x).getD 0<=1000000000) :
 ar an ρ 67 [.mp h 0,.agg (cX a)] M nx (Dg M nx N lo h (S.look a) (.tup [])):=ar.hist H fun _ hh hH=>f67 ρ hH hh few a cnt
def iJ (nx:Nat) (N:Hp) (k:Nat):Prop:=k<nx/\gG N k=none
theorem dN.some {M:Hp} {p:Nat->Prop} {v:XV} {sz len:Nat} {row:List XV} (h:dN M p v sz len row):dN M (fun k=>p k/\∃x,gG M k = .some x) v sz len row:=by
 refine⟨h.1,?_⟩;rcases h.2 with h | ⟨n,off,cap,cs,h1,h2,h3,h4⟩
 ·exact .inl h
 refine .inr ⟨n,off,cap,cs,h1,⟨h2,?_⟩,h3,h4⟩;unfold vR at h3;cases hm:gG M n with
 | none=>rw[hm]at h3;cases h3
 | some x=>exact⟨x,rfl⟩
mutual
theorem dm.some {M:Hp} {p:Nat->Prop}:∀{e:Ex} {cs:List XV},dm M p e cs->dm M (fun k=>p k/\∃x,gG M k = .some x) e cs
 | .mk k x y ps,cs,h=>by simp only[dm]at h ⊢;obtain⟨v,row,h1,h2,h3⟩:=h;exact⟨v,row,h1,h2.some,bP.some h3⟩
theorem bP.some {M:Hp} {p:Nat->Prop}:∀{es:List Ex} {row:List XV},bP M p es row->bP M (fun k=>p k/\∃x,gG M k = .some x) es row
 | [],_,_=>by simp only[bP]
 | e::es,row,h=>by simp only[bP]at h ⊢;exact⟨dm.some h.1,bP.some h.2⟩
end
theorem dN.aside {nx:Nat} {M:Hp} {v:XV} {len:Nat} {row:List XV} (h:dN M (iJ nx N) v sz len row) (hA:gM nx N M N' M') (hq:∀k,iJ nx N' k->q k):dN M' q v sz len row :=
 h.some.keep fun k ⟨⟨h1,h2⟩,x,h3⟩=>⟨by rw[(hA k x h1 h2 h3).1,h3],hq k ⟨h1,(hA k x h1 h2 h3).2⟩⟩
theorem eL.aside {nx:Nat} {M:Hp} (h:eL M (iJ nx N) r cs) (hA:gM nx N M N' M') (hq:∀k,iJ nx N' k->q k):eL M' q r cs:=by obtain⟨pc,ve,h1,h2,h3⟩:=h;exact⟨pc,ve,h1,h2.some.keep fun k ⟨⟨h1,h2⟩,x,h3⟩=>⟨by rw[(hA k x h1 h2 h3).1,h3],hq k ⟨h1,(hA k x h1 h2 h3).2⟩⟩,h3.aside hA hq⟩
theorem f30pred (ρ:aK) {M:Hp} {nx:Nat} (hr:eL M (iJ nx N) r cs) (H:HF M nx N lo h S) (k5:r.kind=5) (few:S.looks.length+r.es.length<=100000) (cnt:∀x,0<=(S.obj x).getD 0/\(S.obj x).getD 0<=100000000) (i:Int) :
 ar an ρ 30 [.mp h 0,.int .i64 i,.agg cs] M nx (Dg M nx N lo h (S.preds i r r.es.length) (.tup [])):=by
 obtain⟨pk,pa,pb,pv,ve,rfl,⟨p1,p2⟩,⟨q1,q2⟩,_,_⟩:=(hr.lt fun k hk=>hk.1).cells;have QH:dN M (iJ nx N) ve 4 r.es.length (r.es.flatMap gq):=by obtain⟨pc,ve',h1,h2,h3⟩:=hr;obtain⟨a1,a2,a3,a4,rfl,_,_⟩:=h2.shape;simp only[aa8,abp,abI,and_true,true_and]at h1;rw[h1.2.2.2.2];exact h3
 have dZ:bE M nx ve 4 r.es.length (r.es.flatMap gq):=dN.lt (QH.keep fun k hk=>⟨rfl,hk.1⟩);have ay:=fun N=>dZ.len (P:=an) (t:=45) iH.2.2.2.2.2 N
 have YS:=H.out (u7 nx);have mo:lo<=nx:=by obtain⟨hi,q1,q2⟩:=H.at';have:=q2.lo_lt;omega
 have Jr:r.es.length<=100000:=aa;clear hr;rw[k5];refine ar.wk 134 [] ab7 ?_;rw[G8];refine ul sJ p1 p2 q1 q2 ay ?_;refine aC (fun m' s=>∃(j:Nat) (N':Hp),j<=r.es.length/\m'=r.es.length - j/\gG s.env 0=some (.mp h 0)/\gG s.env 1=some (.int .i64 i)/\gG s.env 5=some (.mp nx 0)/\gG s.env 63=some ve/\gG s.env 64=some (.int .i64 r.es.length)/\gG s.env 65=some (.int .i64 j) /\
  gG s.M nx=some (.row [.int .i64 5,.int .u64 r.t,.int .u64 r.x,.int .u64 r.w,.int .u64 r.n,.int .u64 r.v,.int .i64 pk,.int .u64 pa,.int .u64 pb,pv,ve])/\gG N' nx=none/\HF s.M s.nx N' lo h (S.preds i r j)/\nx+1<=s.nx/\gM nx N M N' s.M/\aq lo M s.M)
  r.es.length ⟨0,N,aa,aa,?_⟩ ?_
 ·refine dt sJ ?_
  exact⟨YS,H.agr O aa,aa,fun k x k1 k2 k3=>⟨J,k2⟩,O⟩
 rintro m' ⟨env,M',nx'⟩ ⟨j,N',hj,ir,e0,e1,e5,Vm,Vn,Vo,sQ,YN,hF,hn,hA,hG⟩;simp only at e0 e1 e5 Vm Vn Vo sQ hF hn hA hG;have Mw:bE M' nx ve 4 r.es.length (r.es.flatMap gq):=dN.lt (QH.aside hA fun k hk=>hk.1);clear dZ QH ay H;by_cases aL:(j:Int)<r.es.length
 ·have aP:j<r.es.length:=aa
  obtain⟨e,VC⟩:=aao aP;obtain⟨n,o,jw,bC,aU⟩:=Mw.elem (P:=an) aP (t:=45) (t':=67) iH.2.2.2.1 G2.1;have aU:=aU M' (aq.refl _ _);rw[iz _ _ _ VC]at aU;simp only[gq]at aU;have bV:=eF j;have JZ:=nr (S:=S) (i:=i) (r:=r) j;have hcx:=JZ.2 e.x;have RM:=cnt e.x;have dW:=fun(M1:Hp) (n1:Nat) (ha:aq nx' M' M1) (bT:nx'<=n1)=>f67h ρ (hF.agr ha bT) (show (S.preds i r j).looks.length<=100000 by have:=JZ.1;omega) (ng i r j e) (by simp only[ng];omega)
  simp only[ng,cX]at dW;have Vt:S.preds i r (j+1)=(S.preds i r j).look (ng i r j e):=by
   conv=>lhs;unfold HS.preds
   rw[VC]
  clear JZ hcx RM cnt few;refine zQ sJ e0 e1 e5 Vm Vn Vo aL bC aU sQ ?_;generalize xu:aG (aG M' _ _) _ _=M1;have a1:aq nx' M' M1:=by rw[<-xu];exact O
  clear xu;refine gQ (dW M1 _ a1 aa) ?_;rintro⟨u,M2,n2⟩ ⟨k1,k2,N2,k3,k4,k5⟩;simp only at k1 k2 k3 k4 k5;subst k1;have NK:gM nx' N' M' N2 M2:=fun k x h1 h2 h3=>k4 k x aa h2 (by rw[a1 k h1];exact h3)
  obtain⟨c1,c2⟩:=NK nx _ aa YN sQ;refine oq sJ e0 e1 e5 Vm Vn Vo bV ?_;refine⟨r.es.length - (j+1),aa,j+1,N2,aa,rfl,rfl,c1,c2,by rw[Vt];exact k3.agr (aq.refl _ _) aa,aa,hA.trans NK aa,(hG.trans (a1.le aa)).trans k5⟩
 clear cnt few;refine wT sJ e0 e1 e5 Vm Vn Vo aL @Pv ?_;have gB:j=r.es.length:=aa;rw[gB]at hF;exact⟨rfl,am,N',hF.agr (aq.refl _ _) am,hA,hG⟩
def HS.take (S:HS) (i:Nat) (r:aR):HS :=
 if r.kind=1 then S.begin i r
 else if r.kind=2 then S.look ⟨i,0,r.t,r.x,r.w,r.n,false,false⟩
 else if r.kind=3\/r.kind=4 then S.modify i r ((S.num r.t).getD 0).toNat
 else if r.kind=5 then S.preds i r r.es.length
 else if r.kind=6 then match S.txs[((S.num r.t).getD 0).toNat]? with | some a=>S.endTx ((S.num r.t).getD 0).toNat ⟨r.t,a.b,i,1,(S.com.length:Int)⟩ (S.com++[r.t]) | none=>S
 else match S.txs[((S.num r.t).getD 0).toNat]? with | some a=>S.endTx ((S.num r.t).getD 0).toNat ⟨r.t,a.b,i,2,a.n⟩ S.com | none=>S
structure kK (S:HS) (r:aR):Prop where
 kind:1<=r.kind/\r.kind<=7
 tx:r.kind≠1->∃(k:Nat) (a:ku),S.num r.t=some (k:Int)/\S.txs[k]?=some a/\a.t=r.t/\(S.places k r.x).length<=100000
 txs:S.txs.length<=100000
 mods:S.mods.length<=100000
 com:S.com.length<=100000
 looks:S.looks.length+r.es.length+1<=100000
 cnt:∀x,0<=(S.obj x).getD 0/\(S.obj x).getD 0<=100000000
theorem Yt (ρ:aK) {M:Hp} {nx:Nat} (hr:eL M (iJ nx N) r cs) (H:HF M nx N lo h S) (i:Nat) (ok:kK S r) :
 ar an ρ 30 [.mp h 0,.int .i64 i,.agg cs] M nx (Dg M nx N lo h (S.take i r) (.tup [])):=by
 have UK:=(hr.lt fun k hk=>hk.1).c;have hc:=ok.cnt r.x;obtain⟨k1,k2⟩:=ok.kind;have MD:=ok.looks;by_cases e1:r.kind=1
 ·simp only[HS.take,e1,if_true]
  exact ar.hist H fun hi hh hH=>f30begin ρ UK hH hh e1 ok.txs i
 by_cases e5:r.kind=5
 ·have:S.take i r=S.preds i r r.es.length:=by simp[HS.take,e5]
  rw[this];exact f30pred ρ hr H e5 aa ok.cnt i
 by_cases e2:r.kind=2
 ·have:S.take i r=S.look ⟨i,0,r.t,r.x,r.w,r.n,false,false⟩:=by simp[HS.take,e2]
  rw[this];exact ar.hist H fun hi hh hH=>f30read ρ UK hH hh e2 aa aa i
 obtain⟨k,a,q1,q2,q3,q4⟩:=ok.tx e1;have hk:((S.num r.t).getD 0).toNat=k:=by rw[q1];rfl
 by_cases DW:r.kind=3\/r.kind=4
 ·have:S.take i r=S.modify i r k:=by simp only[HS.take,if_neg e1,if_neg e2,if_pos DW,hk]
  rw[this];exact ar.hist H fun hi hh hH=>f30mod ρ UK hH hh DW ok.mods q1 q2 q3 q4 i aa
 by_cases e6:r.kind=6
 ·have:S.take i r=S.endTx k ⟨r.t,a.b,i,1,(S.com.length:Int)⟩ (S.com++[r.t]):=by simp only[HS.take,if_neg e1,if_neg e2,if_neg DW,if_neg e5,if_pos e6,hk,q2]
  rw[this];exact ar.hist H fun hi hh hH=>YZ ρ UK hH hh e6 q1 q2 q3 ok.com i
 have:S.take i r=S.endTx k ⟨r.t,a.b,i,2,a.n⟩ S.com:=by simp only[HS.take,if_neg e1,if_neg e2,if_neg DW,if_neg e5,if_neg e6,hk,q2]
 rw[this];exact ar.hist H fun hi hh hH=>f30abort ρ UK hH hh aa q1 q2 q3 i
end
section
open Go.Proofs
def By (S:HS):Prop:=∀t k,S.num t=some k->∃(j:Nat) (a:ku),k=(j:Int)/\S.txs[j]?=some a
def Ho (S:HS) (t:Int):Option ku:=match S.num t with | some k=>S.txs[k.toNat]? | none=>none
def tx0:ku:=⟨0,0,0,0,0⟩
def txR (S:HS) (t:Int):ku×Bool:=match Ho S t with | some a=>(a,true) | none=>(tx0,false)
theorem mA (ρ:aK) {M:Hp} {nx:Nat} (H:bX M lo hi h S) (hh:hi<=nx) (hn:By S) (t:Int) :
 ar an ρ 13 [.mp h 0,.int .u64 t] M nx (fe nx M (.tup [.agg (d_ (txR S t).1),.bool (txR S t).2])):=by
 obtain⟨tag,vrec,vtxs,vcom,vmods,vlook,nk,vk,ok,cn,cv,co,ptrs,lnum,lver,lobj,H⟩:=H;have hr:=H.row;have U0:=H.num;have mD:=H.numS t;have vg:=H.h_hi;have ZW:=H.nhi;refine ar.wk 29 [.cell 4 39,.tmp 5] Tryz.func13 ?_;cases hs:S.num t with
 | none =>
   rw[hs]at mD;refine lO FI hr U0 mD @fe.eq_1 ?_;exact⟨by simp[txR,Ho,hs,d_,tx0],O,aa⟩
 | some k =>
   obtain⟨j,a,rfl,JC⟩:=hn t k hs;rw[hs]at mD;obtain⟨v,hv,rk,mk,cm,lm,rfl,r1,r2,r3,r4,r5⟩:=H.known j a JC;simp only[d_,aa8,abp]at r4;have yY:=(aaq.1 JC).1;refine jz FI hr U0 mD ?_;generalize xu:aG M nx _=M1;have a1:aq nx M M1:=by rw[<-xu];exact O
   have z1:∃z,gG M1 nx=some (.row z):=by rw[<-xu];exact⟨_,J⟩
   have z2:gG M1 nx=some (.row [.int .u64 0,.int .i64 0,.int .i64 0,.int .i64 0,.int .i64 0]):=by rw[<-xu];exact J
   clear xu;refine lG (f38 ρ (H.agr (a1.le hh)) aa hs hv yY) fun M2 n2 g2 g3=>?_
   have y4:=(g2 rk aa).trans ((a1 rk aa).trans r4);have y2:=(g2 nx aa).trans z2;refine jz FI y4 y2 @fe.eq_1 ?_;exact⟨by simp[txR,Ho,hs,JC,d_],(by(repeat (refine aq.set ?_ aa _));exact a1.trans (g2.le aa)),aa⟩
theorem tZ:∀(es:List fS),(es.flatMap cO).all ax=true
 | []=>rfl
 | e::es=>by rw[aaN,all_append,tZ es];rfl
theorem WK (ρ:aK) {M:Hp} {nx:Nat} (H:bX M lo hi h S) (hh:hi<=nx) (few:S.mods.length<=100000) :
 ar an ρ 127 [.mp h 0] M nx fun r=>dN r.2.1 (fun k=>nx<=k/\k<r.2.2) r.1 8 S.mods.length (S.mods.flatMap cO)/\aq nx M r.2.1/\nx<=r.2.2:=by
 obtain⟨tag,vrec,vtxs,vcom,vmods,vlook,nk,vk,ok,cn,cv,co,ptrs,lnum,lver,lobj,H⟩:=H;have hr:=H.row;have cw:=H.mods.sl;refine ar.wk 10 [.tmp 2] Tryz.func127 ?_;refine fM Ap hr ?_;refine gQ (f192 ρ (cw.agr (aq.refl _ _)) aa few (tZ _)) ?_;rintro⟨u,M2,n2⟩ ⟨c1,c2,c3⟩;simp only at c1 c2 c3;rcases c3 with ⟨e1,e2⟩ | ⟨_,K,e1,e2,e3,e4⟩
 ·subst e2
  subst e1;refine dt Ap ?_;rcases cw.2 with ⟨_,g2,g3⟩ | ⟨_,_,_,_,g1,_⟩
  ·exact⟨⟨cw.1,.inl ⟨rfl,g2,g3⟩⟩,c1.le aa,aa⟩
  cases g1
 subst e1;refine dt Ap ?_;have:=cw.row_len;exact⟨⟨cw.1,.inr ⟨K,0,S.mods.length,_,rfl,⟨aa,aa⟩,by unfold vR;rw[e4],aa,by rw[drop_zero,aaz aa]⟩⟩,c1.le aa,aa⟩
theorem As:∀(es:List fS) (i:Nat) (e:fS),es[i]?=some e->((es.flatMap cO).drop (i*8)).take 8=cO e
 | [],i,e,h=>by simp at h
 | a::es,0,e,h=>by simp only[aaI,aat]at h;subst h;rfl
 | a::es,i+1,e,h=>by simp only[aa1]at h;rw[aaN,show (i+1)*8=(cO a).length+i*8 by simp[cO];omega,drop_length_add_append];exact As es i e h
def Aa (S:HS):Prop:=∀x w n k,S.ver x w n=some k->∃(j:Nat) (m:fS),k=(j:Int)/\S.mods[j]?=some m
def mod0:fS:=⟨0,0,0,0,0,0,false,false⟩
def NB (S:HS) (x w n:Int):fS×Bool:=match S.ver x w n with | some k=>(match S.mods[k.toNat]? with | some m=>(m,true) | none=>(mod0,false)) | none=>(mod0,false)
theorem Wo (ρ:aK) {M:Hp} {nx:Nat} (H:bX M lo hi h S) (hh:hi<=nx) (hv:Aa S) (few:S.mods.length<=100000) (x w n:Int) :
 ar an ρ 132 [.mp h 0,.int .u64 x,.agg [.int .u64 w,.int .u64 n]] M nx (fe nx M (.tup [.agg (cO (NB S x w n).1),.bool (NB S x w n).2])):=by
 obtain⟨tag,vrec,vtxs,vcom,vmods,vlook,nk,vk,ok,cn,cv,co,ptrs,lnum,lver,lobj,H⟩:=H;have hr:=H.row;have Q5:=H.ver;have mD:=H.verS x w n;have vg:=H.h_hi;have hvhi:=H.vhi;have US:=H.vrow;refine ar.wk 34 [.cell 6 90,.tmp 7] Tryz.func132 ?_;cases hs:S.ver x w n with
 | none =>
   rw[hs]at mD;refine ul Kn hr Q5 mD US @fe.eq_1 ?_;exact⟨by simp[NB,hs,cO,mod0],O,aa⟩
 | some k =>
   obtain⟨j,a,rfl,JC⟩:=hv x w n k hs;rw[hs]at mD;have yY:=(aaq.1 JC).1;obtain⟨q,o,Oc,bC,aU⟩:=H.mods.sl.elem (P:=an) yY (t:=80) (t':=90) yT.2.2.2.1 We.1;have aU:=fun N hN=>aU N hN
   rw[As _ _ _ JC]at aU;simp only[cO]at aU;have QR:=aU (aG (aG M nx (.row [.int .u64 w,.int .u64 n])) (nx+1) (.row [.int .i64 0,.int .u64 0,.int .u64 0,.int .u64 0,.int .u64 0,.int .u64 0,.bool false,.bool false])) O;refine oq Kn hr Q5 mD US bC QR @fe.eq_1 ?_;exact⟨by simp[NB,hs,JC,cO],O,aa⟩
theorem lU {α β:Type} {f:α->β}:∀{l:List α},(l.map f).Nodup->l.Nodup
 | [],_=>.nil
 | a::l,h=>by rw[aa3,acL]at h;exact acL.2 ⟨fun hm=>h.1 (ab6.2 ⟨a,hm,rfl⟩),lU h.2⟩
theorem o8 {α β:Type} {f:α->β}:∀{l:List α},(l.map f).Nodup->∀{a b:α},a ∈ l->b ∈ l->f a=f b->a=b
 | [],_,a,b,ha,_,_=>by cases ha
 | c::l,hn,a,b,ha,hb,h=>by
   rw[aa3,acL]at hn;rcases aaK.1 ha with e1 | Jo <;> rcases aaK.1 hb with e2 | rA
   ·rw[e1,e2]
   ·exact(hn.1 (by rw[<-e1,h];exact ab6.2 ⟨b,rA,rfl⟩)).elim
   ·exact(hn.1 (by rw[<-e2,<-h];exact ab6.2 ⟨a,Jo,rfl⟩)).elim
   exact o8 hn.2 Jo rA h
theorem wt:∀{l l':List Nat},l.Nodup->(∀a ∈ l,a ∈ l')->l.length<=l'.length
 | [],_,_,_=>zero_le _
 | a::l,l',h,hs=>by
   rw[acL]at h;have ha:=hs a aaC;have ih:=wt (l:=l) (l':=l'.erase a) h.2 fun b hb=>(mem_erase_of_ne fun e=>h.1 (by rw[<-e];exact hb)).2 (hs b (aaJ _ hb))
   rw[length_erase_of_mem ha]at ih;have:=length_pos_of_mem ha;simp only[aaw];omega
theorem zg {α:Type} {f:α->Nat} {seen:List Nat} {b:Nat}:∀(l:List α),(l.filter fun e=>decide (f e ∉ seen++[b])).length<=(l.filter fun e=>decide (f e ∉ seen)).length
 | []=>u7 _
 | a::l=>by
   have ih:=zg (f:=f) (seen:=seen) (b:=b) l;rw[abS,abS];by_cases h:f a ∈ seen
   ·have h':f a ∈ seen++[b]:=abv _ h
    simp only[h,h',not_true_eq_false,decide_false];simpa using ih
   by_cases h':f a ∈ seen++[b]
   ·simp only[h,h',not_true_eq_false,not_false_eq_true,decide_false,decide_true,if_true,aaw]
    simp only[aay,if_false];omega
   simp only[h,h',not_false_eq_true,decide_true,if_true,aaw];omega
theorem t_ {α:Type} {f:α->Nat} {seen:List Nat}:∀{l:List α} {e:α},f e ∉ seen->e ∈ l->(l.filter fun a=>decide (f a ∉ seen++[f e])).length<(l.filter fun a=>decide (f a ∉ seen)).length
 | [],e,_,he=>by cases he
 | a::l,e,y7,he=>by
   rw[abS,abS];rcases aaK.1 he with rfl | he
   ·have h':f e ∈ seen++[f e]:=af
    have:=zg (f:=f) (seen:=seen) (b:=f e) l;simp only[y7,h',not_true_eq_false,not_false_eq_true,decide_false,decide_true,if_true,aaw];simp only[aay,if_false];omega
   have ih:=t_ (f:=f) y7 he;by_cases h:f a ∈ seen
   ·have h':f a ∈ seen++[f e]:=abv _ h
    simp only[h,h',not_true_eq_false,decide_false];simpa using ih
   by_cases h':f a ∈ seen++[f e]
   ·simp only[h,h',not_true_eq_false,not_false_eq_true,decide_false,decide_true,if_true,aaw]
    simp only[aay,if_false];omega
   simp only[h,h',not_false_eq_true,decide_true,if_true,aaw];omega
theorem f190 (ρ:aK) (f6:ρ.det=false) {M:Hp} {nx box rm c:Nat} {l:List (Nat×Int×Int)} (sQ:gG M box=some (.row [.mm rm])) (RT:gG M rm=some (.map (cx (vI .i64) l) c)) (hb:kD l c) (h1:box<nx) (h2:rm<nx) (few:l.length<=100000) :
 ar an ρ 190 [.nils,.fn (.func 126) [] [.mp box 0]] M nx fun r=>(∃ys:List Int,ys.Perm (l.map (·.2.1))/\bS r.2.1 nx r.2.2 (fun _=>()) () r.1 1 ys.length (ys.map (XV.int .u64)))/\aq nx M r.2.1/\nx<=r.2.2:=by
 refine ar.walkR (m:=13) (rs:=[.tmp 4]) follows f6 Tryz.func190 U rfl rfl rfl ?_
 conv in qD _ _ _ _ _ _ _=>arg 5;whnf
 refine fD ?_;refine fM Ed @iX ?_;refine CY ?_;refine fD ?_;refine fM Ed @iX ?_;refine Cm ?_;refine⟨126,[.mp box 0],fun M' nx'=>∃(ys:List Int) (v:XV),ys.Perm (l.map (·.2.1))/\gG M' nx=some (.row [v])/\bS M' (nx+1) nx' (fun _=>()) () v 1 ys.length (ys.map (XV.int .u64))/\aq nx M M'/\nx+4<=nx',?_,?_,?_⟩;·rfl
 ·generalize hY:xB an ρ 13 _ _ _ _=H
  refine OQ.walk follows (m:=14) Tryz.func126 U rfl rfl rfl ?_
  conv in qD _ _ _ _ _ _ _=>arg 5;whnf
  refine fD ?_;refine oq EN @iX @s6 @pP @tf I8.2.2.2.2 sQ RT ?_;refine Cm ?_;refine Hn (fun m s=>∃(es:List (Nat×Int×Int)) (st:Nat) (v:XV),m=(l.filter fun e=>decide (e.1 ∉ es.map (·.1))).length/\(es.map (·.1)).Nodup/\(∀e ∈ es,e ∈ l)/\gG s.env 0=some (.yd (nx+3))/\gG s.env 5=some (.mp (nx+5) 0)/\gG s.M (nx+5)=some (.iter (some rm) c (es.map (·.1)) st)/\c<=st /\
   gG s.M nx=some (.row [v])/\bS s.M (nx+6) s.nx (fun _=>()) () v 1 es.length (es.map fun e=>XV.int .u64 e.2.1)/\aq nx M s.M/\nx+6<=s.nx) _ ⟨[],c,.nils,rfl,?_⟩ ?_
  ·refine dt EN ?_
   exact⟨af,af,rfl,u7 _,⟨aa,rfl,.inl ⟨rfl,rfl⟩⟩,O,aa⟩
  rintro m ⟨env,M',nx'⟩ ⟨es,st,v,hm,xo,oy,e0,e5,JV,bw,Vw,Bd,ha,hn⟩;simp only at e0 e5 JV Vw Bd ha hn;have Z8:=(ha rm h2).trans RT;refine fD ?_;refine jz EN @iX e5 @qv ?_;refine Cf f6 JV Z8 hb.lt bw (u7 _) ?_ ?_
  ·intro dy
   have UF:(es.map (·.2.1)).Perm (l.map (·.2.1)):=by
    have:es.Perm l:=(perm_ext_iff_of_nodup (lU xo) (lU hb.nd)).2 fun e=>⟨oy e,fun he=>by obtain⟨e',u9,DY⟩:=ab6.1 (dy e he);have:=o8 hb.nd (oy e' u9) he DY;rw[<-this];exact u9⟩
    exact this.map _
   clear dy;refine fM EN @iX ?_;refine fD ?_;refine jz EN @Qc @LC @Tk ?_;refine⟨(fun id h=>by cases h),es.map (·.2.1),v,UF,Vw,?_,ha,aa⟩;obtain⟨o1,o2,o3⟩:=Bd;refine⟨by simpa using o1,af,?_⟩;rcases o3 with ⟨q1,q2⟩ | ⟨q0,q,q1,q2,q3,q4,q5⟩
   ·exact .inl ⟨q1,by simpa using q2⟩
   exact .inr ⟨by simpa using q0,q,by simpa using q1,aa,aa,rfl,by rw[q5];simp⟩
  intro e he y7;have Jx:i7 (aG M' (nx+5) (.iter (some rm) c (es.map (·.1)++[e.1]) c)) (.mp (nx+5) 0)=some ⟨.tup [.int .u64 e.2.1,.int .i64 e.2.2],[nx+5,rm],[]⟩:=rj (vf:=vI .i64) (l:=l) J J hb.nd he;refine fM EN @iX ?_;refine fD ?_;refine fM EN @iX ?_;refine Cm ?_;refine fD ?_;refine ul EN @iX e0 e5 @yA Jx ?_;refine CY ?_;refine Pw (ob [_,_] _ ?_);refine fM EN e0 ?_;refine FD (args:=[.int .u64 e.2.1]) (by simp only[EU];(refine fM EN e0 ?_;try exact⟨⟩)) ?_;refine Eq.mp (congrFun (congrFun (congrFun (congrFun hY _) _) _) _) (EA rfl ?_);have ip:es.length<=100000:=by
   have u9:(es.map (·.1)).length<=(l.map (·.1)).length:=wt xo fun b rA=>by obtain⟨e',u9,rfl⟩:=ab6.1 rA;exact ab6.2 ⟨e',oy e' u9,rfl⟩
   simp only[abd]at u9;omega
  have Uy:((es++[e]).map (·.1)).Nodup:=by rw[abV,nodup_append];refine⟨xo,af,fun a Jo b rA=>?_⟩;simp only[aa3,map_nil,aaE]at rA;subst rA;exact fun e1=>y7 (by rw[<-e1];exact Jo)
  have Of:∀a ∈ es++[e],a ∈ l:=fun a Jo=>by
   rcases mem_append.1 Jo with h | h
   ·exact oy a h
   rw[aaE]at h;subst h;exact he
  have F3:(l.filter fun a=>decide (a.1 ∉ (es++[e]).map (·.1))).length<m:=by rw[hm,abV];exact t_ y7 he
  have yQ:(es++[e]).map (·.1)=es.map (·.1)++[e.1]:=af;have hq:∀q,nx'+8<=q->gG (aG M' (nx+5) (.iter (some rm) c (es.map (·.1)++[e.1]) c)) q=gG M' q:=fun q hq=>by rw[ap,if_neg aa]
  obtain⟨o1,o2,⟨rfl,o3⟩ | ⟨o3,K,rfl,K1,K2,_,K4⟩⟩:=Bd
  ·have QG:es=[]:=aaG.1 o3
   clear xo oy y7 hm o1 o2 yQ hq;refine fM Ed Vw ?_;refine⟨_,rfl,ob [_] _ ?_⟩;refine fM EN @iX ?_;refine Iy ?_;refine jz EN @iX @Df @Nf ?_;refine⟨_,F3,es++[e],c,_,rfl,Uy,Of,e0,e5,by rw[abV];rfl,u7 _,rfl,⟨by simp[QG],af,.inr ⟨af,nx'+11,by simp[QG],aa,aa,rfl,?_⟩⟩,fun q hq=>?_,aa⟩
   ·rw[QG]
    exact J
   have:=ha q hq;exact J
  have kB:abP es.length (es.map fun e=>XV.int .u64 e.2.1)=es.map fun e=>XV.int .u64 e.2.1:=aaz af
  have K5:aw (nx+5) K=False/\aw K (nx+5)=False/\aw nx K=False/\aw K nx=False:=by simp only[aw,eq_iff_iff,iff_false];omega
  clear xo oy y7 hm o2 yQ hq;refine lO Ed Vw K4 kB K5 ?_;refine⟨_,rfl,ob [_] _ ?_⟩;refine fM EN @iX ?_;refine Iy ?_;refine lO EN @iX @Df @Nf K5 ?_;refine⟨_,F3,es++[e],c,_,rfl,Uy,Of,e0,e5,by rw[abV];rfl,u7 _,rfl,⟨by simp only[aau,aaw,aaO];omega,af,.inr ⟨af,nx'+11,af,aa,aa,rfl,?_⟩⟩,fun q hq=>?_,aa⟩
  ·rw[abV]
   exact J
  have:=ha q hq;exact J
 rintro M' nx' ⟨ys,v,y1,y2,y3,y4,y5⟩;show qD _ _ _ _ _ _ _;refine Iy ?_;refine fM Ed y2 ?_;refine⟨⟨ys,y1,?_⟩,y4,aa⟩;obtain⟨o1,o2,o3 | ⟨o3,K,q1,K1,K2,K3,K4⟩⟩:=y3;·exact⟨o1,o2,.inl o3⟩
 exact⟨o1,o2,.inr ⟨o3,K,q1,aa,aa,K3,K4⟩⟩
theorem SD (ρ:aK) {M:Hp} {nx:Nat} {l:List aR} (h:cZ M lo hi m l) (hh:hi<=nx) (x w n:Int):ar an ρ 250 [.mp m 0,.int .u64 x,.agg [.int .u64 w,.int .u64 n]] M nx (fe nx M (.bool (lV l x w n))):=by
 refine ar.wk 20 [.tmp 6] Tryz.func250 ?_;refine dt Sn ?_;have a1:=fun o=>(aq.refl nx M).set (u7 nx) o
 refine lG (TU ρ _ _ w n) fun M2 n2 g2 g3=>?_
 have a2:=(a1 _).trans (g2.le aa);have y:=g2 nx aa;rw[ap,if_pos rfl]at y;cases hu:(decide (w=0)&&decide (n=0)) with
 | true =>
   refine gk Sn hu @fe.eq_1 ?_;exact⟨by simp only[lV,hu,Bool.true_or],a2,aa⟩
 | false =>
   refine gk Sn hu y ?_;refine lG (Qe ρ (h.agr (a2.le hh) (u7 _)) aa x w n) fun M3 n3 k2 k3=>?_
   have a3:=a2.trans (k2.le aa);cases hm:rV l x w n with
   | none =>
     refine jz Sn @wy.eq_1 @wy.eq_2 @fe.eq_1 ?_;exact⟨by simp only[lV,hu,hm];rfl,((a3.set aa _).set aa _),aa⟩
   | some d =>
     refine lO Sn @wy.eq_1 @wy.eq_2 @et.eq_1 @fe.eq_1 ?_;exact⟨by simp only[lV,hu,hm];rfl,((a3.set aa _).set aa _),aa⟩
def Fg (t:Int) (k:Nat):XV:=match k with | 0=>.tup [.agg [.int .u64 0,.int .u64 0],.bool false] | k+1=>.tup [.agg [.int .u64 t,.int .u64 ((k+1:Nat):Int)],.bool true]
theorem ST (ρ:aK) {M:Hp} {nx:Nat} {l:List aR} (h:cZ M lo hi m l) (hh:hi<=nx) (t x:Int):ar an ρ 251 [.mp m 0,.int .u64 t,.int .u64 x] M nx (fe nx M (Fg t (bd l t x).length)):=by
 obtain⟨v,cw,bA⟩:=Xf ρ h hh t x;have ay:=fun N=>cw.len (P:=an) (t:=356) Ir.2.2.2.2.2 N
 have hz:=cw.1;have a1:=fun o=>(aq.refl nx M).set (u7 nx) o
 refine ar.wk 26 [.cell 6 33,.tmp 7] Tryz.func251 ?_;refine dt Wq ?_;refine gQ (bA _ _ (a1 _) aa) ?_;rintro⟨u,M2,n2⟩ ⟨g1,g2,g3⟩;simp only at g1 g2 g3;subst g1;have a2:=(a1 _).trans (g2.le aa);have y:=g2 nx aa;rw[ap,if_pos rfl]at y;have hw:IntKind.u64.wrap ((bd l t x).length:Int)=(bd l t x).length:=wrap_u64 aa aa;by_cases c0:((bd l t x).length:Int)=0
 ·refine lO Wq y ay c0 @fe.eq_1 ?_
  exact⟨by rw[show (bd l t x).length=0 by omega];rfl,a2.set aa _,aa⟩
 refine ul Wq y ay c0 hw @fe.eq_1 ?_;refine⟨?_,a2.set aa _,aa⟩;obtain⟨k,hk⟩:∃k,(bd l t x).length=k+1:=⟨(bd l t x).length - 1,aa⟩;rw[hk];rfl
theorem f170 (ρ:aK) {M:Hp} {nx:Nat} {l:List aR} (hr:eo M b r cs) (h:cZ M lo hi m l) (hh:hi<=nx):ar an ρ 170 [.mp m 0,.agg cs] M nx (fe nx M (.bool (CT l r))):=by
 obtain⟨pk,pa,pb,pv,ve,rfl,⟨p1,p2⟩,⟨q1,q2⟩,_,_⟩:=hr.cells;have a1:=fun o=>(aq.refl nx M).set (u7 nx) o
 refine ar.wk 16 [.tmp 4] Tryz.func170 ?_;by_cases c0:r.kind=2
 ·refine ul oU p1 p2 q1 q2 c0 ?_
  refine lG (SD ρ (h.agr ((a1 _).le hh) (u7 _)) aa r.x r.w r.n) fun M2 n2 g2 g3=>?_
  refine fM oU @fe.eq_1 ?_;exact⟨by simp[CT,c0],(a1 _).trans (g2.le aa),aa⟩
 refine ky oU p1 p2 q1 q2 c0 @fe.eq_1 ?_;exact⟨by simp[CT,c0],a1 _,aa⟩
theorem f171 (ρ:aK) {M:Hp} {nx:Nat} {l:List aR} (hr:eo M b r cs) (h:cZ M lo hi m l) (hh:hi<=nx):ar an ρ 171 [.mp m 0,.agg cs] M nx (fe nx M (.bool (FB l r))):=by
 obtain⟨pk,pa,pb,pv,ve,rfl,⟨p1,p2⟩,⟨q1,q2⟩,_,_⟩:=hr.cells;have a1:=fun o=>(aq.refl nx M).set (u7 nx) o
 refine ar.wk 29 [.tmp 4] Tryz.func171 ?_;refine lO gu p1 p2 q1 q2 ?_;refine lG (ST ρ (h.agr ((a1 _).le hh) (u7 _)) aa r.t r.x) fun M2 n2 g2 g3=>?_
 have a2:=(a1 _).trans (g2.le aa);have y:=g2 nx aa;rw[ap,if_pos rfl]at y;cases hk:(bd l r.t r.x).length with
 | zero =>
   by_cases c0:r.kind=2
   ·refine ul gu y @Fg.eq_1 @Fg.eq_2 c0 @fe.eq_1 ?_
    exact⟨by simp[FB,hk],(by(repeat (refine aq.set ?_ aa _));exact a2),aa⟩
   refine ul gu y @Fg.eq_1 @Fg.eq_2 c0 @fe.eq_1 ?_;exact⟨by simp[FB,hk],(by(repeat (refine aq.set ?_ aa _));exact a2),aa⟩
 | succ k =>
   by_cases c0:r.kind=2
   ·refine ul gu y @Fg.eq_1 @Fg.eq_2 c0 @fe.eq_1 ?_
    exact⟨by simp[FB,hk,c0],(by(repeat (refine aq.set ?_ aa _));exact a2),aa⟩
   refine ul gu y @Fg.eq_1 @Fg.eq_2 c0 @fe.eq_1 ?_;exact⟨by simp[FB,hk,c0],(by(repeat (refine aq.set ?_ aa _));exact a2),aa⟩
theorem Xl (ρ:aK) {l:List En} {M:Hp} {nx:Nat} {v:XV} (cw:bE M b v 4 l.length (l.flatMap gq)) (hb:b<=nx) {first:List XV} (q:En->Bool)
 (hq:∀e ∈ l,∀(M':Hp) (nx':Nat),aq nx M M'->nx<=nx'->ar an ρ g (first++[.agg (gq e)]++caps) M' nx' (fe nx' M' (.bool (q e)))) :
 ar an ρ 321 [v,.fn (.func g) first caps] M nx (fe nx M (.int .i64 (eN q l 0))):=by
 have ay:=fun N=>cw.len (P:=an) (t:=45) iH.2.2.2.2.2 N
 have hz:=cw.1;refine ar.wk 19 [.tmp 4] Tryz.func321 ?_;refine fM Kt ay ?_;refine aC (fun m s=>∃i:Nat,i<=l.length/\m=l.length - i/\eN q (l.drop i) i=eN q l 0/\gG s.env 0=some v/\gG s.env 1=some (.fn (.func g) first caps)/\gG s.env 7=some (.int .i64 l.length)/\gG s.env 8=some (.int .i64 i)/\aq nx M s.M/\nx<=s.nx)
  l.length ⟨0,aa,aa,af,?_⟩ ?_
 ·refine dt Kt ?_
  exact⟨aq.refl _ _,aa⟩
 rintro m ⟨env,M',nx'⟩ ⟨i,hi,hm,pA,e0,e1,e7,e8,ha,hn⟩;simp only at e0 e1 e7 e8 ha hn;by_cases aL:(i:Int)<l.length
 ·have aP:i<l.length:=aa
  obtain⟨e,gA⟩:=aao aP;obtain⟨n,o,jw,bC,aU⟩:=cw.elem (P:=an) aP (t:=45) (t':=67) iH.2.2.2.1 G2.1;have aU:=aU M' (ha.le hb);rw[iz l i e gA]at aU;have bV:=eF i;have bw:=lr (q:=q) gA;refine oq Kt e0 e1 e7 e8 aL bC aU ?_;refine gQ (hq e (aaH gA) M' _ ha aa) ?_;rintro⟨v',M'',nx''⟩ ⟨h1,h2,h3⟩;simp only at h1 h2 h3;subst h1;cases yR:q e with
  | true =>
    refine ky Kt e0 e1 e7 e8 yR @fe.eq_1 ?_;refine⟨?_,ha.trans (h2.le aa),aa⟩;rw[<-pA,bw,yR];rfl
  | false =>
    refine ky Kt e0 e1 e7 e8 yR bV ?_;exact⟨l.length - (i+1),aa,i+1,aa,rfl,by rw[<-pA,bw,yR];rfl,rfl,ha.trans (h2.le aa),aa⟩
 have hd:l.drop i=[]:=aaM aa;refine ky Kt e0 e1 e7 e8 aL @fe.eq_1 ?_;refine⟨?_,ha,aa⟩;rw[<-pA,hd];rfl
theorem Tm (ρ:aK) {l:List En} {M:Hp} {nx:Nat} {v:XV} (cw:bE M b v 4 l.length (l.flatMap gq)) (hb:b<=nx) {first:List XV} (q:En->Bool)
 (hq:∀e ∈ l,∀(M':Hp) (nx':Nat),aq nx M M'->nx<=nx'->ar an ρ g (first++[.agg (gq e)]++caps) M' nx' (fe nx' M' (.bool (q e)))) :
 ar an ρ 252 [v,.fn (.func g) first caps] M nx (fe nx M (.bool (l.any q))):=by
 refine ar.wk 9 [.tmp 4] Tryz.func252 ?_;refine dt lK ?_;refine lG (Xl ρ cw aa q fun e he M' nx' ha hn=>hq e he M' nx' (ha.le aa) aa) fun M2 n2 g2 g3=>?_
 have hi:=uK (q:=q) l 0;refine gk lK hi @fe.eq_1 ?_;exact⟨g2.le aa,aa⟩
theorem Xu (ρ:aK) {l:List Int} {M:Hp} {nx:Nat} {v:XV} (cw:bE M b v 1 l.length (l.map (XV.int .u64))) (hb:b<=nx) {first:List XV} (q:Int->Bool)
 (hq:∀e ∈ l,∀(M':Hp) (nx':Nat),aq nx M M'->nx<=nx'->ar an ρ g (first++[.int .u64 e]++caps) M' nx' (fe nx' M' (.bool (q e)))) :
 ar an ρ 322 [v,.fn (.func g) first caps] M nx (fe nx M (.int .i64 (eN q l 0))):=by
 have ay:=fun N=>cw.len (P:=an) (t:=79) kr.2.2.2.2.2 N
 have hz:=cw.1;refine ar.wk 19 [.tmp 4] Tryz.func322 ?_;refine fM k_ ay ?_;refine aC (fun m s=>∃i:Nat,i<=l.length/\m=l.length - i/\eN q (l.drop i) i=eN q l 0/\gG s.env 0=some v/\gG s.env 1=some (.fn (.func g) first caps)/\gG s.env 7=some (.int .i64 l.length)/\gG s.env 8=some (.int .i64 i)/\aq nx M s.M/\nx<=s.nx)
  l.length ⟨0,aa,aa,af,?_⟩ ?_
 ·refine dt k_ ?_
  exact⟨aq.refl _ _,aa⟩
 rintro m ⟨env,M',nx'⟩ ⟨i,hi,hm,pA,e0,e1,e7,e8,ha,hn⟩;simp only at e0 e1 e7 e8 ha hn;by_cases aL:(i:Int)<l.length
 ·have aP:i<l.length:=aa
  obtain⟨e,gA⟩:=aao aP;obtain⟨n,o,jw,bC,aU⟩:=cw.fldG (P:=an) aP (t:=79) kr.2.2.2.1;have aU:=aU 0 (.int .u64 e) aa (by simp[gA]) 31 1 cU.1 M' (ha.le hb);rw[aaX]at aU;have bV:=eF i;have bw:=lr (q:=q) gA;refine oq k_ e0 e1 e7 e8 aL bC aU ?_;refine gQ (hq e (aaH gA) M' _ ha aa) ?_;rintro⟨v',M'',nx''⟩ ⟨h1,h2,h3⟩;simp only at h1 h2 h3;subst h1;cases yR:q e with
  | true =>
    refine ky k_ e0 e1 e7 e8 yR @fe.eq_1 ?_;refine⟨?_,ha.trans (h2.le aa),aa⟩;rw[<-pA,bw,yR];rfl
  | false =>
    refine ky k_ e0 e1 e7 e8 yR bV ?_;exact⟨l.length - (i+1),aa,i+1,aa,rfl,by rw[<-pA,bw,yR];rfl,rfl,ha.trans (h2.le aa),aa⟩
 have hd:l.drop i=[]:=aaM aa;refine ky k_ e0 e1 e7 e8 aL @fe.eq_1 ?_;refine⟨?_,ha,aa⟩;rw[<-pA,hd];rfl
theorem Wl (ρ:aK) {l:List Int} {M:Hp} {nx:Nat} {v:XV} (cw:bE M b v 1 l.length (l.map (XV.int .u64))) (hb:b<=nx) {first:List XV} (q:Int->Bool)
 (hq:∀e ∈ l,∀(M':Hp) (nx':Nat),aq nx M M'->nx<=nx'->ar an ρ g (first++[.int .u64 e]++caps) M' nx' (fe nx' M' (.bool (q e)))) :
 ar an ρ 254 [v,.fn (.func g) first caps] M nx (fe nx M (.bool (l.any q))):=by
 refine ar.wk 9 [.tmp 4] Tryz.func254 ?_;refine dt lK ?_;refine lG (Xu ρ cw aa q fun e he M' nx' ha hn=>hq e he M' nx' (ha.le aa) aa) fun M2 n2 g2 g3=>?_
 have hi:=uK (q:=q) l 0;refine gk lK hi @fe.eq_1 ?_;exact⟨g2.le aa,aa⟩
end
section
open Go.Proofs
def oL (k t x w n v pk pa pb:Int) (pv ve:XV) (kind:Int):List XV :=
 if kind=2 then [.int .i64 0,.int .u64 0,.int .u64 x,.int .u64 w,.int .u64 n,.int .u64 0,.int .i64 0,.int .u64 0,.int .u64 0,.nils,.nils] else
 if kind=3 then [.int .i64 0,.int .u64 0,.int .u64 x,.int .u64 0,.int .u64 0,.int .u64 v,.int .i64 0,.int .u64 0,.int .u64 0,.nils,.nils] else
 if kind=4 then [.int .i64 0,.int .u64 0,.int .u64 x,.int .u64 0,.int .u64 0,.int .u64 0,.int .i64 0,.int .u64 0,.int .u64 0,.nils,.nils] else
 if kind=5 then [.int .i64 0,.int .u64 0,.int .u64 0,.int .u64 0,.int .u64 0,.int .u64 0,.int .i64 pk,.int .u64 pa,.int .u64 pb,pv,ve] else
 [.int .i64 0,.int .u64 0,.int .u64 0,.int .u64 0,.int .u64 0,.int .u64 0,.int .i64 0,.int .u64 0,.int .u64 0,.nils,.nils]
section
variable (ρ:aK) {M:Hp} {nx:Nat} (k t x w n v pk pa pb:Int) (pv ve:XV) (hp:cellsOf pv=[pv]/\ax pv=true) (he:cellsOf ve=[ve]/\ax ve=true)
include hp he
theorem Yk:ar an ρ 146 [.agg [.int .i64 k,.int .u64 t,.int .u64 x,.int .u64 w,.int .u64 n,.int .u64 v,.int .i64 pk,.int .u64 pa,.int .u64 pb,pv,ve]] M nx (fe nx M (.agg (oL k t x w n v pk pa pb pv ve 1))):=by refine ar.wk 4 [.cell 2 47] Tryz.func146 ?_;refine ul oU hp.1 hp.2 he.1 he.2 @fe.eq_1 ?_;exact⟨by simp[oL],(((aq.refl _ _).set aa _).set aa _).set aa _,aa⟩
theorem Xd:ar an ρ 208 [.agg [.int .i64 k,.int .u64 t,.int .u64 x,.int .u64 w,.int .u64 n,.int .u64 v,.int .i64 pk,.int .u64 pa,.int .u64 pb,pv,ve]] M nx (fe nx M (.agg (oL k t x w n v pk pa pb pv ve 2))):=by refine ar.wk 8 [.cell 2 47] Tryz.func208 ?_;refine ul oU hp.1 hp.2 he.1 he.2 @fe.eq_1 ?_;exact⟨by simp[oL],(((aq.refl _ _).set aa _).set aa _).set aa _,aa⟩
theorem f217:ar an ρ 217 [.agg [.int .i64 k,.int .u64 t,.int .u64 x,.int .u64 w,.int .u64 n,.int .u64 v,.int .i64 pk,.int .u64 pa,.int .u64 pb,pv,ve]] M nx (fe nx M (.agg (oL k t x w n v pk pa pb pv ve 3))):=by refine ar.wk 8 [.cell 2 47] Tryz.func217 ?_;refine ul oU hp.1 hp.2 he.1 he.2 @fe.eq_1 ?_;exact⟨by simp[oL],(((aq.refl _ _).set aa _).set aa _).set aa _,aa⟩
theorem f222:ar an ρ 222 [.agg [.int .i64 k,.int .u64 t,.int .u64 x,.int .u64 w,.int .u64 n,.int .u64 v,.int .i64 pk,.int .u64 pa,.int .u64 pb,pv,ve]] M nx (fe nx M (.agg (oL k t x w n v pk pa pb pv ve 4))):=by refine ar.wk 6 [.cell 2 47] Tryz.func222 ?_;refine ul oU hp.1 hp.2 he.1 he.2 @fe.eq_1 ?_;exact⟨by simp[oL],(((aq.refl _ _).set aa _).set aa _).set aa _,aa⟩
theorem f227:ar an ρ 227 [.agg [.int .i64 k,.int .u64 t,.int .u64 x,.int .u64 w,.int .u64 n,.int .u64 v,.int .i64 pk,.int .u64 pa,.int .u64 pb,pv,ve]] M nx (fe nx M (.agg (oL k t x w n v pk pa pb pv ve 5))):=by
 have p2:=hp.2;have q2:=he.2;have h1:(cellsOf ve).length=1:=by rw[he.1];rfl
 have h2:(cellsOf ve).all ax=true:=by rw[he.1];simp[he.2]
 refine ar.wk 8 [.cell 2 47] Tryz.func227 ?_;refine ul oU hp.1 hp.2 he.1 he.2 @fe.eq_1 ?_;exact⟨by simp[oL],(((aq.refl _ _).set aa _).set aa _).set aa _,aa⟩
end
def nJ (s:List Nat) (kind:Int):List XV :=
 if kind=2 then [.str s,.fn (.func 208) [] [],.fn (.func 209) [] [],.fn (.func 211) [] [],.fn (.func 214) [] [],.fn (.func 215) [] []] else
 if kind=3 then [.str s,.fn (.func 217) [] [],.fn (.func 218) [] [],.fn (.func 219) [] [],.fn (.func 220) [] [],.fn (.func 221) [] []] else
 if kind=4 then [.str s,.fn (.func 222) [] [],.fn (.func 223) [] [],.fn (.func 224) [] [],.fn (.func 225) [] [],.fn (.func 226) [] []] else
 if kind=5 then [.str s,.fn (.func 227) [] [],.fn (.func 228) [] [],.fn (.func 233) [] [],.fn (.func 236) [] [],.fn (.func 238) [] []] else
 [.str s,.fn (.func 146) [] [],.fn (.func 147) [] [],.fn (.func 148) [] [],.fn (.func 149) [] [],.fn (.func 150) [] []]
section
variable (ρ:aK) (M:Hp) (nx:Nat)
theorem WL (s s0:List Nat) (tb:Nat) (hb:tb<nx) (hM:gG M tb=some (.row (nJ s0 1))):ar an ρ 151 [.str s,.mp tb 0] M nx (fe nx M (.agg (nJ s 1))):=by refine ar.wk 9 [.cell 3 206] Tryz.func151 ?_;refine jz PC hM @nJ.eq_1 @fe.eq_1 ?_;exact⟨(((((aq.refl _ _).set aa _).set aa _).set aa _).set aa _).set aa _,aa⟩
theorem SZ:ar an ρ 152 [] M nx fun r=>∃s,fe nx M (.agg (nJ s 2)) r:=by refine ar.wk 2 [.cell 0 206] Tryz.func152 ?_;refine gk PC @nJ.eq_1 @fe.eq_1 ?_;exact⟨_,rfl,((aq.refl _ _).set aa _).set aa _,aa⟩
theorem f153:ar an ρ 153 [] M nx fun r=>∃s,fe nx M (.agg (nJ s 3)) r:=by refine ar.wk 2 [.cell 0 206] Tryz.func153 ?_;refine gk PC @nJ.eq_1 @fe.eq_1 ?_;exact⟨_,rfl,((aq.refl _ _).set aa _).set aa _,aa⟩
theorem f154:ar an ρ 154 [] M nx fun r=>∃s,fe nx M (.agg (nJ s 4)) r:=by refine ar.wk 2 [.cell 0 206] Tryz.func154 ?_;refine gk PC @nJ.eq_1 @fe.eq_1 ?_;exact⟨_,rfl,((aq.refl _ _).set aa _).set aa _,aa⟩
theorem f155:ar an ρ 155 [] M nx fun r=>∃s,fe nx M (.agg (nJ s 5)) r:=by refine ar.wk 2 [.cell 0 206] Tryz.func155 ?_;refine gk PC @nJ.eq_1 @fe.eq_1 ?_;exact⟨_,rfl,((aq.refl _ _).set aa _).set aa _,aa⟩
end
def knT (ws:Nat->List Nat) (z:List Nat):List XV:=[.str z,.nilf,.nilf,.nilf,.nilf,.nilf]++nJ (ws 1) 1++nJ (ws 2) 2++nJ (ws 3) 3++nJ (ws 4) 4++nJ (ws 5) 5++nJ (ws 6) 6++nJ (ws 7) 7
theorem PZ (s:List Nat):nJ s 1=[.str s,.fn (.func 146) [] [],.fn (.func 147) [] [],.fn (.func 148) [] [],.fn (.func 149) [] [],.fn (.func 150) [] []]:=rfl
theorem Pq (s:List Nat):nJ s 2=[.str s,.fn (.func 208) [] [],.fn (.func 209) [] [],.fn (.func 211) [] [],.fn (.func 214) [] [],.fn (.func 215) [] []]:=rfl
theorem Ot (s:List Nat):nJ s 3=[.str s,.fn (.func 217) [] [],.fn (.func 218) [] [],.fn (.func 219) [] [],.fn (.func 220) [] [],.fn (.func 221) [] []]:=rfl
theorem Ox (s:List Nat):nJ s 4=[.str s,.fn (.func 222) [] [],.fn (.func 223) [] [],.fn (.func 224) [] [],.fn (.func 225) [] [],.fn (.func 226) [] []]:=rfl
theorem OK (s:List Nat):nJ s 5=[.str s,.fn (.func 227) [] [],.fn (.func 228) [] [],.fn (.func 233) [] [],.fn (.func 236) [] [],.fn (.func 238) [] []]:=rfl
def kz:List XV:=[.str [],.nilf,.nilf,.nilf,.nilf,.nilf]
theorem XR (ρ:aK) (M:Hp) (nx:Nat):ar an ρ 104 [] M nx fun r=>∃ws z,fe nx M (.agg (knT ws z)) r:=by
 refine ar.wk 16 [.cell 0 207] Tryz.func104 ?_;refine dt Pa ?_;generalize rz:aG (aG (aG M _ _) _ _) _ _=M0;obtain⟨zs,VY⟩:=aap (kz++kz++kz++kz++kz++kz++kz++kz);have a0:aq nx M M0:=by rw[<-rz];exact(((aq.refl _ _).set aa _).set aa _).set aa _
 have t0:gG M0 (nx+2)=some (.row (nJ [] 1)):=by rw[<-rz,ap,if_pos rfl];rfl
 have z0:gG M0 nx=some (.row zs):=by rw[<-rz,ap,if_neg aa,ap,if_neg aa,ap,if_pos rfl,VY];rfl
 clear rz;refine lG (WL ρ _ _ _ [] (nx+2) aa t0) fun M1 n1 g2 g3=>?_
 have a1:aq nx M M1:=a0.trans (g2.le aa);have t1:gG M1 (nx+2)=some (.row (nJ [] 1)):=by rw[g2 _ aa,t0]
 have z1:gG M1 nx=some (.row zs):=by rw[g2 _ aa,z0]
 clear g2 a0 t0 z0;refine dt Pa ?_;refine gQ (SZ ρ _ _) ?_;rintro⟨v,M2,n2⟩ ⟨s2,g1,g2,g3⟩;simp only at g1 g2 g3;subst g1;have a2:aq nx M M2:=a1.trans (g2.le aa);have t2:gG M2 (nx+2)=some (.row (nJ [] 1)):=by rw[g2 _ aa,t1]
 have z2:gG M2 nx=some (.row zs):=by rw[g2 _ aa,z1]
 clear g2 a1 t1 z1;refine dt Pa ?_;refine gQ (f153 ρ _ _) ?_;rintro⟨v,M3,n3⟩ ⟨s3,g1,g2,g3⟩;simp only at g1 g2 g3;subst g1;have a3:aq nx M M3:=a2.trans (g2.le aa);have t3:gG M3 (nx+2)=some (.row (nJ [] 1)):=by rw[g2 _ aa,t2]
 have z3:gG M3 nx=some (.row zs):=by rw[g2 _ aa,z2]
 clear g2 a2 t2 z2;refine dt Pa ?_;refine gQ (f154 ρ _ _) ?_;rintro⟨v,M4,n4⟩ ⟨s4,g1,g2,g3⟩;simp only at g1 g2 g3;subst g1;have a4:aq nx M M4:=a3.trans (g2.le aa);have t4:gG M4 (nx+2)=some (.row (nJ [] 1)):=by rw[g2 _ aa,t3]
 have z4:gG M4 nx=some (.row zs):=by rw[g2 _ aa,z3]
 clear g2 a3 t3 z3;refine dt Pa ?_;refine gQ (f155 ρ _ _) ?_;rintro⟨v,M5,n5⟩ ⟨s5,g1,g2,g3⟩;simp only at g1 g2 g3;subst g1;have a5:aq nx M M5:=a4.trans (g2.le aa);have t5:gG M5 (nx+2)=some (.row (nJ [] 1)):=by rw[g2 _ aa,t4]
 have z5:gG M5 nx=some (.row zs):=by rw[g2 _ aa,z4]
 clear g2 a4 t4 z4;refine dt Pa ?_;refine lG (WL ρ _ _ _ [] (nx+2) aa t5) fun M6 n6 g2 g3=>?_
 have a6:aq nx M M6:=a5.trans (g2.le aa);have t6:gG M6 (nx+2)=some (.row (nJ [] 1)):=by rw[g2 _ aa,t5]
 have z6:gG M6 nx=some (.row zs):=by rw[g2 _ aa,z5]
 clear g2 a5 t5 z5;refine dt Pa ?_;refine lG (WL ρ _ _ _ [] (nx+2) aa t6) fun M7 n7 g2 g3=>?_
 have a7:aq nx M M7:=a6.trans (g2.le aa);have t7:gG M7 (nx+2)=some (.row (nJ [] 1)):=by rw[g2 _ aa,t6]
 have z7:gG M7 nx=some (.row zs):=by rw[g2 _ aa,z6]
 clear g2 a6 t6 z6;subst VY;refine oq Pa z7 @kz.eq_1 @PZ @Pq @Ot @Ox @OK ?_;refine⟨fun q=>if q=1 then [98,101,103,105,110] else if q=2 then s2 else if q=3 then s3 else if q=4 then s4 else if q=5 then s5 else if q=6 then [99,111,109,109,105,116] else [97,98,111,114,116],[],rfl,a7.set aa _,am⟩
end
section
open Go.Proofs
theorem WU (ρ:aK) (M:Hp) (nx:Nat) (k:Int) (h0:1<=k) (h1:k<=7):ar an ρ 317 [.int .i64 k] M nx fun r=>∃s,fe nx M (.tup [.agg (nJ s k),.bool true]) r:=by
 refine ar.wk 14 [.cell 2 206,.tmp 3] Tryz.func317 ?_;have c1:¬ k<1:=aa;have c2:¬ 7<k:=aa;refine gk gy55 c1 c2 ?_;refine gQ (XR ρ _ _) ?_;rintro⟨v,M',nx'⟩ ⟨ws,z,g1,g2,g3⟩;simp only at g1 g2 g3;subst g1;obtain⟨j,rfl,j1,j2⟩:∃j:Nat,k=j/\1<=j/\j<=7:=⟨k.toNat,aa,aa,aa⟩;have UA:Ru (some (6,true)) ((knT ws z).drop ((j:Int).toNat*6))=some (.agg (nJ (ws j) j)):=by have:j=1\/j=2\/j=3\/j=4\/j=5\/j=6\/j=7:=aa;rcases this with rfl | rfl | rfl | rfl | rfl | rfl | rfl<;>rfl
 have hM:gG M' nx=some (.row [.str [],.nilf,.nilf,.nilf,.nilf,.nilf]):=by rw[g2 nx aa,ap,if_pos rfl]
 have ha:aq nx M M':=((aq.refl nx M).set (u7 _) _).trans (g2.le aa);clear g2;generalize hs:ws j=s at UA;have e1:∃a b c d e,nJ s j=[.str s,.fn (.func a) [] [],.fn (.func b) [] [],.fn (.func c) [] [],.fn (.func d) [] [],.fn (.func e) [] []]:=by have:j=1\/j=2\/j=3\/j=4\/j=5\/j=6\/j=7:=aa;rcases this with rfl | rfl | rfl | rfl | rfl | rfl | rfl<;>exact⟨_,_,_,_,_,rfl⟩
 obtain⟨a,b,c,d,e,e1⟩:=e1;rw[e1]at UA;refine gk gy55 UA hM ?_;exact⟨s,by rw[e1],ha.set aa _,am⟩
theorem f317n (ρ:aK) (M:Hp) (nx:Nat) (k:Int) (h:¬ (1<=k/\k<=7)):ar an ρ 317 [.int .i64 k] M nx (fe nx M (.tup [.agg [.str [],.nilf,.nilf,.nilf,.nilf,.nilf],.bool false])):=by
 refine ar.wk 14 [.cell 2 206,.tmp 3] Tryz.func317 ?_;by_cases c1:k<1
 ·refine gk gy55 c1 @fe.eq_1 ?_
  exact⟨((aq.refl _ _).set aa _).set aa _,aa⟩
 have c2:7<k:=aa;refine jz gy55 c1 c2 @fe.eq_1 ?_;exact⟨((aq.refl _ _).set aa _).set aa _,aa⟩
def gR (r s:aR):Bool :=
 decide (r.kind=s.kind)&&(decide (r.t=s.t)&&(decide (r.x=s.x)&&((decide (r.w=s.w)&&decide (r.n=s.n))&&(decide (r.v=s.v)&&(iW r.p s.p&&lu r.es s.es)))))
theorem XE (ρ:aK) {r':aR} {M:Hp} {nx:Nat} {cs':List XV} (hr:eo M b r cs) (sA:eo M b r' cs') (hb:b<=nx):ar an ρ 318 [.agg cs,.agg cs'] M nx (fe nx M (.bool (gR r r'))):=by
 obtain⟨pk,pa,pb,pv,ve,rfl,⟨p1,p2⟩,⟨q1,q2⟩,dZ,yK⟩:=hr.cells;obtain⟨pk',pa',pb',pv',ve',rfl,⟨MR,MS⟩,⟨MT,MU⟩,Mw,Zk⟩:=sA.cells;clear hr sA;have fin:∀{c:Bool},gR r r'=c->∀(M1:Hp) (n1:Nat),aq nx M M1->nx<=n1->fe nx M (.bool (gR r r')) (.bool c,M1,n1):=fun h M1 n1 h1 h2=>by rw[h];exact .mk h1 h2
 refine ar.wk 52 [.tmp 4] Tryz.func318 ?_;by_cases c1:r.kind=r'.kind
 case neg =>
  refine rf oU p1 p2 q1 q2 MR MS MT MU c1 ?_;exact fin (by simp[gR,c1]) _ _ (((aq.refl _ _).set aa _).set aa _) aa
 by_cases c2:r.t=r'.t
 case neg =>
  refine zQ oU p1 p2 q1 q2 MR MS MT MU c1 c2 ?_;exact fin (by simp[gR,c2]) _ _ (((aq.refl _ _).set aa _).set aa _) aa
 by_cases c3:r.x=r'.x
 case neg =>
  refine yq oU p1 p2 q1 q2 MR MS MT MU c1 c2 c3 ?_;exact fin (by simp[gR,c3]) _ _ (((aq.refl _ _).set aa _).set aa _) aa
 cases c4:(decide (r.w=r'.w)&&decide (r.n=r'.n)) with
 | false =>
   refine yq oU p1 p2 q1 q2 MR MS MT MU c1 c2 (aI c3 c4) ?_;exact fin (by simp only[gR,c4];simp) _ _ (((aq.refl _ _).set aa _).set aa _) aa
 | true =>
   by_cases c5:r.v=r'.v
   case neg =>
    refine yq oU p1 p2 q1 q2 MR MS MT MU c1 c2 (aI c3 (aI c4 c5)) ?_;exact fin (by simp[gR,c5]) _ _ (((aq.refl _ _).set aa _).set aa _) aa
   have dy:gR r r'=(iW r.p r'.p&&lu r.es r'.es):=by simp only[gR,c1,c2,c3,c4,c5,decide_true,adj]
   refine yq oU p1 p2 q1 q2 MR MS MT MU c1 c2 (aI c3 (aI c4 c5)) ?_;generalize xu:aG (aG M _ _) _ _=M1;have a1:aq nx M M1:=by rw[<-xu];exact((aq.refl _ _).set aa _).set aa _
   have z1:gG M1 nx=some (.row [.int .i64 r'.kind,.int .u64 r'.t,.int .u64 r'.x,.int .u64 r.w,.int .u64 r.n,.int .u64 r'.v,.int .i64 pk,.int .u64 pa,.int .u64 pb,pv,ve]):=by rw[<-xu,ap,if_neg aa,ap,if_pos rfl]
   have z2:gG M1 (nx+1)=some (.row [.int .i64 r'.kind,.int .u64 r'.t,.int .u64 r'.x,.int .u64 r'.w,.int .u64 r'.n,.int .u64 r'.v,.int .i64 pk',.int .u64 pa',.int .u64 pb',pv',ve']):=by rw[<-xu,ap,if_pos rfl]
   clear xu;refine lG (f356 ρ _ _ _ _ _ b _ _ (aby _) (yK.agr (a1.le hb)) (Zk.agr (a1.le hb)) aa) fun M2 n2 g2 g3=>?_
   have a2:aq nx M M2:=a1.trans (g2.le aa);have y1:=(g2 nx aa).trans z1;have y2:=(g2 (nx+1) aa).trans z2;clear g2 z1 z2 a1;cases h5:iW r.p r'.p with
   | false =>
     refine fM oU h5 ?_;exact fin (by rw[dy,h5];rfl) _ _ a2 aa
   | true =>
     refine jz oU h5 y1 y2 ?_;refine lG (f357 ρ (bE.agr dZ (a2.le hb)) (bE.agr Mw (a2.le hb)) aa) fun M3 n3 g2 g3=>?_
     refine dt oU ?_;exact fin (by rw[dy,h5];rfl) _ _ (a2.trans (g2.le aa)) aa
def Rz:Ex:=.mk 0 0 0 []
def Nh (r:aR):aR :=
 if r.kind=2 then ⟨r.kind,r.t,r.x,r.w,r.n,0,Rz,[]⟩ else if r.kind=3 then ⟨r.kind,r.t,r.x,0,0,r.v,Rz,[]⟩ else if r.kind=4 then ⟨r.kind,r.t,r.x,0,0,0,Rz,[]⟩ else
 if r.kind=5 then ⟨r.kind,r.t,0,0,0,0,r.p,r.es⟩ else ⟨r.kind,r.t,0,0,0,0,Rz,[]⟩
def fL (r:aR):Bool:=decide (1<=r.kind)&&(decide (r.kind<=7)&&(!(decide (r.kind=5) && !(yw r.p))&&gR r (Nh r)))
theorem Gc (M:Hp) (b:Nat):bG M b Rz [.int .i64 0,.int .u64 0,.int .u64 0,.nils]/\jm M b .nils []:=by
 refine⟨?_,?_⟩
 ·simp only[Rz,bG]
  exact⟨.nils,[],rfl,⟨af,.inl ⟨rfl,rfl,rfl⟩⟩,by simp only[cj]⟩
 exact⟨af,.inl ⟨rfl,rfl,rfl⟩⟩
theorem GI (ρ:aK) (r:aR) (s:List Nat) (pk pa pb:Int) (pv ve:XV) (hp:cellsOf pv=[pv]/\ax pv=true) (he:cellsOf ve=[ve]/\ax ve=true) (h1:1<=r.kind) (h7:r.kind<=7) :
 ∃(g g2 g3 g4 g5:Nat) (lx lw ln lv lpk lpa lpb:Int) (lpv lve:XV),nJ s r.kind=[.str s,.fn (.func g) [] [],.fn (.func g2) [] [],.fn (.func g3) [] [],.fn (.func g4) [] [],.fn (.func g5) [] []] /\
  (∀(M':Hp) (nx':Nat),ar an ρ g [.agg [.int .i64 r.kind,.int .u64 r.t,.int .u64 r.x,.int .u64 r.w,.int .u64 r.n,.int .u64 r.v,.int .i64 pk,.int .u64 pa,.int .u64 pb,pv,ve]] M' nx'
   (fe nx' M' (.agg [.int .i64 0,.int .u64 0,.int .u64 lx,.int .u64 lw,.int .u64 ln,.int .u64 lv,.int .i64 lpk,.int .u64 lpa,.int .u64 lpb,lpv,lve]))) /\
  (cellsOf lpv=[lpv]/\ax lpv=true)/\(cellsOf lve=[lve]/\ax lve=true) /\
  ∀(M':Hp) (b':Nat),bG M' b' r.p [.int .i64 pk,.int .u64 pa,.int .u64 pb,pv]->jm M' b' ve r.es->eo M' b' (Nh r) [.int .i64 r.kind,.int .u64 r.t,.int .u64 lx,.int .u64 lw,.int .u64 ln,.int .u64 lv,.int .i64 lpk,.int .u64 lpa,.int .u64 lpb,lpv,lve]:=by
 obtain⟨kind,t,x,w,n,v,p,es⟩:=r;simp only at h1 h7 ⊢;have hn:cellsOf XV.nils=[.nils]/\ax .nils=true:=⟨rfl,rfl⟩;have:kind=1\/kind=2\/kind=3\/kind=4\/kind=5\/kind=6\/kind=7:=aa;rcases this with rfl | rfl | rfl | rfl | rfl | rfl | rfl
 ·exact⟨_,_,_,_,_,_,_,_,_,_,_,_,_,_,rfl,fun M' nx'=>Yk ρ 1 t x w n v pk pa pb pv ve hp he,hn,hn,fun M' b' _ _=>⟨_,_,rfl,(Gc M' b').1,(Gc M' b').2⟩⟩
 ·exact⟨_,_,_,_,_,_,_,_,_,_,_,_,_,_,rfl,fun M' nx'=>Xd ρ 2 t x w n v pk pa pb pv ve hp he,hn,hn,fun M' b' _ _=>⟨_,_,rfl,(Gc M' b').1,(Gc M' b').2⟩⟩
 ·exact⟨_,_,_,_,_,_,_,_,_,_,_,_,_,_,rfl,fun M' nx'=>f217 ρ 3 t x w n v pk pa pb pv ve hp he,hn,hn,fun M' b' _ _=>⟨_,_,rfl,(Gc M' b').1,(Gc M' b').2⟩⟩
 ·exact⟨_,_,_,_,_,_,_,_,_,_,_,_,_,_,rfl,fun M' nx'=>f222 ρ 4 t x w n v pk pa pb pv ve hp he,hn,hn,fun M' b' _ _=>⟨_,_,rfl,(Gc M' b').1,(Gc M' b').2⟩⟩
 ·exact⟨_,_,_,_,_,_,_,_,_,_,_,_,_,_,rfl,fun M' nx'=>f227 ρ 5 t x w n v pk pa pb pv ve hp he,hp,he,fun M' b' h h'=>⟨_,_,rfl,h,h'⟩⟩
 ·exact⟨_,_,_,_,_,_,_,_,_,_,_,_,_,_,rfl,fun M' nx'=>Yk ρ 6 t x w n v pk pa pb pv ve hp he,hn,hn,fun M' b' _ _=>⟨_,_,rfl,(Gc M' b').1,(Gc M' b').2⟩⟩
 exact⟨_,_,_,_,_,_,_,_,_,_,_,_,_,_,rfl,fun M' nx'=>Yk ρ 7 t x w n v pk pa pb pv ve hp he,hn,hn,fun M' b' _ _=>⟨_,_,rfl,(Gc M' b').1,(Gc M' b').2⟩⟩
theorem Yg (ρ:aK) {M:Hp} {nx:Nat} (hr:eo M b r cs) (hb:b<=nx) (hc:dV r.p<=1000):ar an ρ 249 [.agg cs] M nx (fe nx M (.bool (fL r))):=by
 obtain⟨pk,pa,pb,pv,ve,rfl,⟨p1,p2⟩,⟨q1,q2⟩,dZ,yK⟩:=hr.cells;have fin:∀{c:Bool},fL r=c->∀(M1:Hp) (n1:Nat),aq nx M M1->nx<=n1->fe nx M (.bool (fL r)) (.bool c,M1,n1):=fun h M1 n1 h1 h2=>by rw[h];exact .mk h1 h2
 refine ar.wk 38 [.tmp 2] Tryz.func249 ?_;by_cases hk:1<=r.kind/\r.kind<=7
 case neg =>
  refine lO Hw p1 p2 q1 q2 ?_;refine lG (f317n ρ _ _ _ hk) fun M2 n2 g2 g3=>?_
  refine dt Hw ?_;refine fin ?_ _ _ (((((aq.refl _ _).set aa _).trans (g2.le aa)).set aa _).set aa _) aa;by_cases h1:1<=r.kind
  ·have:¬ r.kind<=7:=aa
   simp[fL,this]
  simp[fL,h1]
 obtain⟨Bi,VE⟩:=hk;refine lO Hw p1 p2 q1 q2 ?_;generalize xu:aG M nx _=M1;have a1:aq nx M M1:=by rw[<-xu];exact(aq.refl _ _).set aa _
 have z1:gG M1 nx=some (.row [.int .i64 r.kind,.int .u64 r.t,.int .u64 r.x,.int .u64 r.w,.int .u64 r.n,.int .u64 r.v,.int .i64 pk,.int .u64 pa,.int .u64 pb,pv,ve]):=by rw[<-xu,ap,if_pos rfl]
 clear xu;refine gQ (WU ρ _ _ _ Bi VE) ?_;rintro⟨u,M2,n2⟩ ⟨s,g1,g2,g3⟩;simp only at g1 g2 g3;subst g1;have a2:aq nx M M2:=a1.trans (g2.le aa);have z2:=(g2 nx aa).trans z1;clear g2 z1 a1;obtain⟨g,g2,RI,g4,g5,lx,lw,ln,lv,lpk,lpa,lpb,lpv,lve,QP,hg,⟨l1,l2⟩,⟨m1,m2⟩,NV⟩:=GI ρ r s pk pa pb pv ve ⟨p1,p2⟩ ⟨q1,q2⟩ Bi VE;rw[QP];have z3:∀(o o':bx),gG (aG (aG M2 (n2+3) o) (n2+3) o') nx=gG M2 nx:=fun o o'=>by rw[ap,if_neg aa,ap,if_neg aa]
 have a3:∀(o o':bx),aq nx M (aG (aG M2 (n2+3) o) (n2+3) o'):=fun o o'=>(a2.set aa _).set aa _
 by_cases h5:r.kind=5
 ·refine gk Hw z2 (eq_true h5) ?_
  refine lG (f196 ρ (yK.agr ((a3 _ _).le hb)) aa hc) fun M3 n3 e2 e3=>?_
  have x1:=(e2 nx aa).trans ((z3 _ _).trans z2);have x3:gG M3 (n2+3)=some (.row [.str s,.fn (.func g) [] [],.fn (.func g2) [] [],.fn (.func RI) [] [],.fn (.func g4) [] [],.fn (.func g5) [] []]):=(e2 (n2+3) aa).trans (by rw[ap,if_pos rfl]);have b3:aq nx M M3:=(a3 _ _).trans (e2.le aa);clear e2;cases hx:yw r.p with
  | false =>
    refine fM Hw hx ?_;exact fin (by simp[fL,h5,hx]) _ _ b3 aa
  | true =>
    refine jz Hw hx x1 x3 ?_;refine gQ (hg _ _) ?_;rintro⟨u,M4,n4⟩ ⟨g1,e2,e3⟩;simp only at g1 e2 e3;subst g1;have y1:=(e2 nx aa).trans x1;have a4:aq nx M M4:=b3.trans (e2.le aa);clear e2;refine ul Hw y1 l1 l2 m1 m2 ?_;refine⟨bn _ _ _ _ _ _ (by simp<;>omega) (by simp<;>omega) (by simp<;>omega),?_⟩;generalize mR:aG (aG (aG (aG M4 _ _) _ _) _ _) _ _=M5;have a5:aq nx M M5:=by rw[<-mR];exact(((a4.set aa _).set aa _).set aa _).set aa _
    clear mR y1 a4;refine lG (XE ρ (hr.agr (a5.le hb)) (NV M5 b (yK.agr (a5.le hb)) (bE.agr dZ (a5.le hb))) aa) fun M6 n6 e2 e3=>?_
    refine dt Hw ?_;exact fin (by simp[fL,Bi,VE,h5,hx]) _ _ (a5.trans (e2.le aa)) aa
 refine gk Hw z2 h5 ?_;refine gQ (hg _ _) ?_;rintro⟨u,M4,n4⟩ ⟨g1,e2,e3⟩;simp only at g1 e2 e3;subst g1;have y1:=(e2 nx aa).trans ((z3 _ _).trans z2);have a4:aq nx M M4:=(a3 _ _).trans (e2.le aa);clear e2;refine ul Hw y1 l1 l2 m1 m2 ?_;refine⟨bn _ _ _ _ _ _ (by simp<;>omega) (by simp<;>omega) (by simp<;>omega),?_⟩;generalize mR:aG (aG (aG (aG M4 _ _) _ _) _ _) _ _=M5;have a5:aq nx M M5:=by rw[<-mR];exact(((a4.set aa _).set aa _).set aa _).set aa _
 clear mR y1 a4;refine lG (XE ρ (hr.agr (a5.le hb)) (NV M5 b (yK.agr (a5.le hb)) (bE.agr dZ (a5.le hb))) aa) fun M6 n6 e2 e3=>?_
 refine dt Hw ?_;exact fin (by simp[fL,Bi,VE,h5]) _ _ (a5.trans (e2.le aa)) aa
theorem f165 (ρ:aK) {M:Hp} {nx:Nat} {m:XV} (hr:eo M b r cs) (hb:b<=nx) (hc:dV r.p<=1000):ar an ρ 165 [m,.agg cs] M nx (fe nx M (.bool (fL r))):=by
 obtain⟨pk,pa,pb,pv,ve,rfl,⟨p1,p2⟩,⟨q1,q2⟩,_,_⟩:=hr.cells;refine ar.wk 7 [.tmp 4] Tryz.func165 ?_;refine lO oU p1 p2 q1 q2 ?_;have a1:=fun o=>(aq.refl nx M).set (u7 nx) o
 refine lG (Yg ρ (hr.agr ((a1 _).le hb)) aa hc) fun M2 n2 g2 g3=>?_
 refine fM oU @fe.eq_1 ?_;exact⟨(a1 _).trans (g2.le aa),aa⟩
theorem bE.fld {P:Program} {M:Hp} {v:XV} {len:Nat} {row:List XV} (h:bE M b v sz len row) (hi:i<len) {t:Nat} (ht:es P t=some sz) :
 ∃n o,n<b/\(∀k,br P t v (.int k (i:Int))=some (.mp n o))/\∀(j:Nat) (x:XV),j<sz->((row.drop (i*sz)).take sz)[j]?=some x->∀(t' m:Nat),sa P t'=some (m,false)->∀N,aq b M N->b_ P N t' (.mp n (o+j))=some ⟨x,[n],[]⟩:=by
 obtain⟨n,o,h1,h2,cs,h3,h4,h5⟩:=h.at hi ht;refine⟨n,o,h1,h2,fun j x hj hx t' m oe N hN=>?_⟩;refine dB (lR h3 hN h1) oe ?_;rw[h4,getElem?_take,if_pos hj,getElem?_drop]at hx;exact hx
def tQ:List En->Bool
 | a::c::l=>decide (a.x<c.x)&&tQ (c::l)
 | _=>true
theorem EG {l:List En} {a c:En} (h:l[i]?=some a) (h':l[i+1]?=some c):tQ (l.drop i)=(decide (a.x<c.x)&&tQ (l.drop (i+1))):=by obtain⟨h1,rfl⟩:=aaq.1 h;obtain⟨h2,rfl⟩:=aaq.1 h';rw[aaV h1,aaV h2];rfl
theorem Xy (ρ:aK) {M:Hp} {nx:Nat} {m:XV} (hr:eo M b r cs) (hb:b<=nx):ar an ρ 172 [m,.agg cs] M nx (fe nx M (.bool (tQ r.es))):=by
 obtain⟨pk,pa,pb,pv,ve,rfl,⟨p1,p2⟩,⟨q1,q2⟩,dZ,_⟩:=hr.cells;clear hr;unfold jm at dZ;have ay:=fun N=>dZ.len (P:=an) (t:=45) iH.2.2.2.2.2 N
 have hz:=dZ.1;refine ar.wk 27 [.tmp 4] Tryz.func172 ?_;refine lO qg p1 p2 q1 q2 ?_;refine aC (fun m s=>∃i:Nat,m=r.es.length - i/\(i<r.es.length\/i=0)/\tQ (r.es.drop i)=tQ r.es/\gG s.env 3=some (.mp nx 0)/\gG s.env 5=some (.int .i64 ((i+1:Nat):Int)) /\
  gG s.M nx=some (.row [.int .i64 r.kind,.int .u64 r.t,.int .u64 r.x,.int .u64 r.w,.int .u64 r.n,.int .u64 r.v,.int .i64 pk,.int .u64 pa,.int .u64 pb,pv,ve])/\aq nx M s.M/\nx<=s.nx)
  r.es.length ⟨0,aa,aa,af,?_⟩ ?_
 ·refine dt qg ?_
  exact⟨(aq.refl _ _).set aa _,aa⟩
 rintro m ⟨env,M',nx'⟩ ⟨i,hm,hi,pA,e3,e5,hM,ha,hn⟩;simp only at e3 e5 hM ha hn;by_cases aL:((i+1:Nat):Int)<r.es.length
 ·have h1:i<r.es.length:=aa
  have h2:i+1<r.es.length:=aa;obtain⟨a,Mt⟩:=aao h1;obtain⟨c,Gk⟩:∃e,r.es[i+1]?=some e:=⟨r.es[i+1],by simp[h2]⟩;obtain⟨n,o,jw,bC,aU⟩:=dZ.fld (P:=an) h1 (t:=45) iH.2.2.2.1;obtain⟨n2,o2,Ux,iN,dJ⟩:=dZ.fld (P:=an) h2 (t:=45) iH.2.2.2.1;have g1:=aU 0 (.int .u64 a.x) aa (by rw[iz _ i a Mt];rfl) 31 1 cU.1 M' (ha.le hb);have g2:=dJ 0 (.int .u64 c.x) aa (by rw[iz _ (i+1) c Gk];rfl) 31 1 cU.1 M' (ha.le hb);rw[aaX]at g1 g2;have qC:IntKind.i64.wrap (((i+1:Nat):Int) - 1)=(i:Int):=by rw[wrap_i64 aa aa];omega
  have bV:IntKind.i64.wrap (((i+1:Nat):Int)+1)=((i+1+1:Nat):Int):=by rw[wrap_i64 aa aa];omega
  have bw:=EG Mt Gk;clear aU dJ;by_cases hq:c.x<=a.x
  ·refine yq qg e3 e5 hM ay aL bC iN g1 g2 qC (aI hq @fe.eq_1) ?_
   refine⟨?_,ha,aa⟩;have:¬ a.x<c.x:=aa;rw[<-pA,bw];simp[this]
  refine yq qg e3 e5 hM ay aL bC iN g1 g2 qC (aI bV hq) ?_;refine⟨r.es.length - (i+1),aa,i+1,rfl,aa,?_,rfl,ha,aa⟩;have:a.x<c.x:=aa;rw[<-pA,bw];simp[this]
 refine ky qg e3 e5 hM ay aL @fe.eq_1 ?_;refine⟨?_,ha,aa⟩;rw[<-pA];by_cases h0:i<r.es.length
 ·rw[aaV h0,aaM aa]
  rfl
 rw[aaM aa];rfl
def kG (l:List aR) (p:Ex) (x w n:Int):Bool:=match rV l x w n with | some d=>!d.dead&&xS p x d.v | none=>false
def uu (l:List aR) (r:aR):Bool:=r.es.all fun e=>e.m==kG l r.p e.x e.w e.n
theorem PB (ρ:aK) {e:Ex} {M:Hp} {nx:Nat} {l:List aR} (he:bG M b e cs) (hb:b<=nx) (hc:dV e<=1000) (iu:gI e) (h:cZ M lo hi m l) (hh:hi<=nx) (x w n:Int) :
 ar an ρ 259 [.mp m 0,.agg cs,.int .u64 x,.agg [.int .u64 w,.int .u64 n]] M nx (fe nx M (.bool (kG l e x w n))):=by
 have sx:=he;obtain⟨k,p,q,ps⟩:=e;simp only[bG]at sx;obtain⟨pv,row,rfl,cw,jd⟩:=sx;have hv:=cw.cell;refine ar.wk 32 [.tmp 8] Tryz.func259 ?_;refine gk GV hv.1 hv.2 ?_;generalize xu:aG (aG M nx (bx.row [XV.int IntKind.i64 k,XV.int abW p,XV.int abW q,pv])) (nx+1) (bx.row [XV.int abW w,XV.int abW n])=M1;have a1:aq nx M M1:=by rw[<-xu];exact O
 have m1:gG M1 nx=some (.row [.int .i64 k,.int .u64 p,.int .u64 q,pv]):=by rw[<-xu];simp[ap]
 clear xu;refine lG (Qe ρ (h.agr (a1.le hh) (u7 _)) aa x w n) fun M2 n2 g2 g3=>?_
 have a2:=a1.trans (g2.le aa);have y:=(g2 nx aa).trans m1;cases hm:rV l x w n with
 | none =>
   refine jz GV @wy.eq_1 @wy.eq_2 @fe.eq_1 ?_;exact⟨by simp only[kG,hm],(by(repeat (refine aq.set ?_ aa _));exact a2),aa⟩
 | some d =>
   obtain⟨dv,dd⟩:=d;cases dd with
   | true =>
     refine lO GV @wy.eq_1 @wy.eq_2 @et.eq_1 @fe.eq_1 ?_;exact⟨by simp only[kG,hm,Bool.not_true,Bool.false_and],(by(repeat (refine aq.set ?_ aa _));exact a2),aa⟩
   | false =>
     refine lO GV @wy.eq_1 @wy.eq_2 @et.eq_1 y ?_;have a3:=fun o o'=>((a2.set (show nx<=n2+3 by omega) o).set (show nx<=n2+3 by omega) o')
     refine lG (X2 ρ (he.agr ((a3 _ _).le hb)) aa hc iu x dv) fun M3 n3 k2 k3=>?_
     refine fM GV @fe.eq_1 ?_;exact⟨by simp only[kG,hm,Bool.not_false,adj],(a3 _ _).trans (k2.le aa),aa⟩
theorem WH (ρ:aK) {M:Hp} {nx k:Nat} {l:List aR} (h:cZ M lo hi m l) (hh:hi<=nx) (hk:gG M k=some (.row [.mp m 0])) (QP:k<nx) (e:En):ar an ρ 253 [.agg (gq e),.mp k 0] M nx (fe nx M (.bool (!(lV l e.x e.w e.n)))):=by
 simp only[gq];have a1:=fun o=>(aq.refl nx M).set (u7 nx) o
 refine ar.wk 11 [.tmp 3] Tryz.func253 ?_;refine fM OV hk ?_;refine lG (SD ρ (h.agr ((a1 _).le hh) (u7 _)) aa e.x e.w e.n) fun M2 n2 g2 g3=>?_
 refine fM OV @fe.eq_1 ?_;exact⟨(a1 _).trans (g2.le aa),aa⟩
theorem xU (q:α->Bool) (l:List α):(!(l.any fun e=>!(q e)))=l.all q:=by
 induction l with
 | nil=>rfl
 | cons a l ih=>simp only[any_cons,all_cons,<-ih,Bool.not_or,Bool.not_not]
theorem f173 (ρ:aK) {M:Hp} {nx:Nat} {l:List aR} (hr:eo M b r cs) (hb:b<=nx) (h:cZ M lo hi m l) (hh:hi<=nx):ar an ρ 173 [.mp m 0,.agg cs] M nx (fe nx M (.bool (tN l r))):=by
 obtain⟨pk,pa,pb,pv,ve,rfl,⟨p1,p2⟩,⟨q1,q2⟩,dZ,_⟩:=hr.cells;unfold jm at dZ;refine ar.wk 10 [.tmp 4] Tryz.func173 ?_;refine lO Hk p1 p2 q1 q2 ?_;generalize xu:aG (aG M nx _) (nx+1) _=M1;have a1:aq nx M M1:=by rw[<-xu];exact O
 have m1:gG M1 nx=some (.row [.mp m 0]):=by rw[<-xu];simp[ap]
 clear xu;refine lG (Tm ρ (dZ.agr (a1.le hb)) aa (fun e=>!(lV l e.x e.w e.n)) fun e he M' nx' ha hn=>WH ρ ((h.agr (a1.le hh) (u7 _)).agr (ha.le aa) (u7 _)) aa ((ha _ aa).trans m1) aa e) fun M2 n2 g2 g3=>?_
 have hz:=xU (fun e:En=>lV l e.x e.w e.n) r.es;refine gk Hk hz @fe.eq_1 ?_;exact⟨by simp only[tN],a1.trans (g2.le aa),aa⟩
theorem WP (ρ:aK) {M:Hp} {nx k1 k2:Nat} {l:List aR} (hr:eo M b r cs) (hb:b<=nx) (hc:dV r.p<=1000) (iu:gI r.p) (h:cZ M lo hi m l) (hh:hi<=nx)
 (m1:gG M k1=some (.row [.mp m 0])) (m2:gG M k2=some (.row cs)) (b1:k1<nx) (b2:k2<nx) (e:En) :
 ar an ρ 258 [.agg (gq e),.mp k1 0,.mp k2 0] M nx (fe nx M (.bool (!(e.m==kG l r.p e.x e.w e.n)))):=by
 refine ar.closed fun cF _=>?_
 obtain⟨pk,pa,pb,pv,ve,rfl,⟨p1,p2⟩,⟨q1,q2⟩,_,hp⟩:=hr.cells;have hk:aO nx pv=true:=by
  have:=(cF k2 _ m2).2;simp only[cp,aE,aO]at this;cases hk:aO nx pv with
  | true=>rfl
  | false=>rw[hk]at this;cases this
 have vY:m<nx:=by obtain⟨_,_,_,_,_,_,_,_,h⟩:=h;have:=h.m_hi;omega
 have a1:=fun o=>(aq.refl nx M).set (u7 nx) o
 simp only[gq];refine ar.wk 16 [.tmp 4] Tryz.func258 ?_;refine gk eC m1 m2 ?_;refine aT (bN.read (v:=.bool (kG l r.p e.x e.w e.n)) ((cF.le aa).set aa rfl) ?_ rfl fun N hN=>?_) aj ?_
 ·have hb:∀c,abc m (nx+c)=true:=fun c=>by rw[blt_eq];omega
  simp only[aE,aO,hb];rw[aO.le aa hk]
 ·exact PB ρ (hp.agr (((a1 _).trans (hN.le aa)).le hb)) aa hc iu (h.agr (((a1 _).trans (hN.le aa)).le hh) (u7 _)) aa e.x e.w e.n
 refine jz eC @Th @rG @fe.eq_1 ?_;refine⟨?_,O,aa⟩;cases e.m<;>cases kG l r.p e.x e.w e.n<;>rfl
theorem f175 (ρ:aK) {M:Hp} {nx:Nat} {l:List aR} (hr:eo M b r cs) (hb:b<=nx) (hc:dV r.p<=1000) (iu:gI r.p) (h:cZ M lo hi m l) (hh:hi<=nx):ar an ρ 175 [.mp m 0,.agg cs] M nx (fe nx M (.bool (uu l r))):=by
 have mP:=hr;obtain⟨pk,pa,pb,pv,ve,rfl,⟨p1,p2⟩,⟨q1,q2⟩,dZ,_⟩:=hr.cells;unfold jm at dZ;refine ar.wk 10 [.tmp 4] Tryz.func175 ?_;refine lO Hk p1 p2 q1 q2 ?_;generalize xu:aG (aG M nx _) (nx+1) _=M1;have a1:aq nx M M1:=by rw[<-xu];exact O
 have m1:gG M1 nx=some (.row [.mp m 0]):=by rw[<-xu];simp[ap]
 have m2:gG M1 (nx+1)=some (.row [.int .i64 r.kind,.int .u64 r.t,.int .u64 r.x,.int .u64 r.w,.int .u64 r.n,.int .u64 r.v,.int .i64 pk,.int .u64 pa,.int .u64 pb,pv,ve]):=by rw[<-xu];simp[ap]
 clear xu;refine lG (Tm ρ (dZ.agr (a1.le hb)) aa (fun e=>!(e.m==kG l r.p e.x e.w e.n)) fun e he M' nx' ha hn=>WP ρ ((mP.agr (a1.le hb)).agr (ha.le aa)) aa hc iu ((h.agr (a1.le hh) (u7 _)).agr (ha.le aa) (u7 _)) aa ((ha _ aa).trans m1) ((ha _ aa).trans m2) aa aa e) fun M2 n2 g2 g3=>?_
 have hz:=xU (fun e:En=>e.m==kG l r.p e.x e.w e.n) r.es;refine gk Hk hz @fe.eq_1 ?_;exact⟨by simp only[uu],a1.trans (g2.le aa),aa⟩
theorem WN (ρ:aK) {M:Hp} {nx k1 k2:Nat} {x w n:Int} (m1:gG M k1=some (.row [.int .u64 x])) (m2:gG M k2=some (.row [.int .u64 w,.int .u64 n])) (b1:k1<nx) (b2:k2<nx) (e:En) :
 ar an ρ 257 [.agg (gq e),.mp k1 0,.mp k2 0] M nx (fe nx M (.bool (decide (e.x=x)&&(decide (e.w=w)&&decide (e.n=n))))):=by
 simp only[gq];have a1:=fun o=>(aq.refl nx M).set (u7 nx) o
 refine ar.wk 15 [.tmp 4] Tryz.func257 ?_;by_cases c:e.x=x
 ·refine lO Hv m1 m2 c @fe.eq_1 ?_
  exact⟨a1 _,aa⟩
 refine lO Hv m1 m2 c @fe.eq_1 ?_;exact⟨af,a1 _,aa⟩
def xH (t:Int) (k:Nat):Int×Int:=match k with | 0=>(0,0) | k+1=>(t,((k+1:Nat):Int))
theorem Xq (ρ:aK) {M:Hp} {nx k1 k2:Nat} {l:List aR} (hr:eo M b r cs) (hb:b<=nx) (h:cZ M lo hi m l) (hh:hi<=nx) (m1:gG M k1=some (.row [.mp m 0])) (m2:gG M k2=some (.row cs)) (b1:k1<nx) (b2:k2<nx) (x:Int) :
 ar an ρ 256 [.int .u64 x,.mp k1 0,.mp k2 0] M nx (fe nx M (.bool (!(r.es.any fun e=>decide (e.x=x)&&(decide (e.w=(xH r.t (bd l r.t x).length).1)&&decide (e.n=(xH r.t (bd l r.t x).length).2)))))):=by
 obtain⟨pk,pa,pb,pv,ve,rfl,⟨p1,p2⟩,⟨q1,q2⟩,dZ,_⟩:=hr.cells;unfold jm at dZ;have a1:=fun o=>(aq.refl nx M).set (u7 nx) o
 have z1:=(a1 (.row [.int .u64 x]) k2 b2).trans m2;refine ar.wk 20 [.tmp 4] Tryz.func256 ?_;refine gk Hk m1 m2 ?_;refine lG (ST ρ (h.agr ((a1 _).le hh) (u7 _)) aa r.t x) fun M2 n2 g2 g3=>?_
 have a2:=(a1 (.row [.int .u64 x])).trans (g2.le aa);have y:=g2 nx aa;rw[ap,if_pos rfl]at y;have y2:=(a2 k2 b2).trans m2;obtain⟨v1,YT⟩:=aap (xH r.t (bd l r.t x).length);have ZE:∃f,Fg r.t (bd l r.t x).length = .tup [.agg [.int .u64 v1.1,.int .u64 v1.2],.bool f]:=by
  rw[YT];cases (bd l r.t x).length with
  | zero=>exact⟨_,rfl⟩
  | succ k=>exact⟨_,rfl⟩
 obtain⟨f,hf⟩:=ZE;rw[<-YT];refine gk Hk hf y2 ?_;generalize xu:aG (aG M2 _ _) _ _=M3;have a3:aq n2 M2 M3:=by rw[<-xu];exact O
 have m3:gG M3 (n2+3)=some (.row [.int .u64 v1.1,.int .u64 v1.2]):=by rw[<-xu];simp[ap]
 clear xu;refine lG (Tm ρ (dZ.agr ((a2.trans (a3.le aa)).le hb)) aa (fun e=>decide (e.x=x)&&(decide (e.w=v1.1)&&decide (e.n=v1.2))) fun e he M' nx' ha hn=>WN ρ ((ha _ aa).trans ((a3 nx aa).trans y)) ((ha _ aa).trans m3) aa aa e) fun M4 n4 MM k3'=>?_
 refine fM Hk @fe.eq_1 ?_;exact⟨(a2.trans (a3.le aa)).trans (MM.le aa),aa⟩
def kL:Prop:=∀(ρ:aK) (M:Hp) (nx k:Nat) (xs:List Int),xs.length<=4000->0<xs.length->k<nx->gG M k=some (.row (xs.map (XV.int .u64))) ->
 ar an ρ 125 [.sl k 1 0 xs.length xs.length] M nx fun r=>r.1 = .tup []/\(∃ys:List Int,ys.Perm xs/\ys.Pairwise (· <= ·)/\gG r.2.1 k=some (.row (ys.map (XV.int .u64))))/\(∀j,j<nx->j≠k->gG r.2.1 j=gG M j)/\nx<=r.2.2
def kJ:Prop:=∀(ρ:aK) (M:Hp) (nx:Nat),ar an ρ 125 [.nils] M nx (fe nx M (.tup []))
def fK (ps:List (Int×Int)) (t:Int):List Int:=(ps.filter fun p=>decide (p.1=t)).map (·.2)
theorem BR {t:Int} {p:Int×Int} (h:ps[i]?=some p):fK (ps.take (i+1)) t=if p.1=t then fK (ps.take i) t++[p.2] else fK (ps.take i) t:=by
 have:ps.take (i+1)=ps.take i++[p]:=by rw[aba,h];rfl
 unfold fK;rw[this,filter_append,abV];by_cases e:p.1=t<;>simp[e]
abbrev Ye (M:Hp) (lo hi:Nat) (v:XV) (ys:List Int):Prop:=bS M lo hi (fun _=>()) () v 1 ys.length (ys.map (XV.int .u64))
theorem WQ (hS:kL) (hN:kJ) (ρ:aK) {M:Hp} {nx:Nat} {l:List aR} {tag:Nat->Tg} {le:List (Nat×Int×Bool)} (h:kI M lo hi m mn l tag ps vnum vnames vrows vend rs le) (hh:hi<=nx) (few:ps.length<=1000) (t:Int) :
 ar an ρ 255 [.mp m 0,.int .u64 t] M nx fun r=>(∃ys:List Int,ys.Perm (fK ps t)/\ys.Pairwise (· <= ·)/\bE r.2.1 r.2.2 r.1 1 ys.length (ys.map (XV.int .u64)))/\aq nx M r.2.1/\nx<=r.2.2:=by
 have vY:=h.m_hi;have a0:∀c,aq (nx+c) M M:=fun c=>aq.refl _ _
 refine ar.wk 40 [.tmp 4] Tryz.func255 ?_;refine dt z_ ?_;refine lG (Xc ρ h.row aa h.names) fun M1 n1 g2 g3=>?_
 have Qw:aq nx M M1:=g2.le aa;refine dt z_ ?_;refine aC (fun m' s=>∃(i:Nat) (v:XV),i<=ps.length/\m'=ps.length - i/\gG s.env 0=some (.mp m 0)/\gG s.env 1=some (.int .u64 t)/\gG s.env 4=some v/\gG s.env 14=some (.int .i64 ps.length)/\gG s.env 15=some (.int .i64 i)/\Ye s.M nx s.nx v (fK (ps.take i) t)/\aq nx M s.M/\nx<=s.nx)
  ps.length ⟨0,.nils,aa,aa,?_⟩ ?_
 ·refine dt z_ ?_
  exact⟨⟨by simp[fK],by simp[fK],.inl ⟨rfl,by simp[fK]⟩⟩,(by(repeat (refine aq.set ?_ aa _));exact Qw),aa⟩
 rintro m' ⟨env,M',nx'⟩ ⟨i,v,hi',ir,e0,e1,e4,pu,gW,hv,ha,hn⟩;simp only at e0 e1 e4 pu gW hv ha hn;have ip:(fK (ps.take i) t).length<=4000:=by unfold fK;rw[abd];refine aaT (abh _ _) ?_;rw[aaS];omega
 by_cases aL:(i:Int)<ps.length
 ·have aP:i<ps.length:=aa
  obtain⟨p,hp⟩:=aao aP;have bV:=eF i;refine ky z_ e0 e1 e4 pu gW aL ?_;refine gQ (WC ρ ((ha m aa).trans h.row) aa (h.names.agr (ha.le hh) (u7 _)) aa hp) ?_;rintro⟨u,M2,n2⟩ ⟨g1,g2,g3⟩;simp only[fj]at g1 g2 g3;subst g1;have bw:=BR (t:=t) hp;have jX:=ha.trans (g2.le aa);by_cases UI:p.1=t
  ·rw[if_pos UI]at bw
   obtain⟨hz,cF,⟨rfl,pG⟩ | ⟨hl,k,rfl,k1,k2,_,k4⟩⟩:=hv
   ·have ho:fK (ps.take i) t=[]:=aaG.1 pG
    refine oq z_ e0 e1 e4 pu gW UI bV ?_;refine⟨ps.length - (i+1),aa,i+1,_,aa,rfl,rfl,rfl,?_,(by(repeat (refine aq.set ?_ aa _));exact jX),aa⟩;rw[bw,ho];exact⟨af,af,.inr ⟨af,n2+14,rfl,aa,aa,rfl,J⟩⟩
   have MN:=(g2 k aa).trans k4;have kB:abP (fK (ps.take i) t).length (List.map (XV.int .u64) (fK (ps.take i) t))=List.map (XV.int .u64) (fK (ps.take i) t):=aaz af;refine rf z_ e0 e1 e4 pu gW UI bV MN kB ?_;refine⟨ps.length - (i+1),aa,i+1,_,aa,rfl,rfl,rfl,?_,?_,aa⟩
   ·rw[bw]
    refine⟨ak,af,.inr ⟨af,n2+14,af,aa,aa,rfl,?_⟩⟩;rw[abV];exact J
   exact fun j hj=>by have e1:j≠k:=aa;have:=jX j hj;exact J
  rw[if_neg UI]at bw;refine oq z_ e0 e1 e4 pu gW UI bV ?_;refine⟨ps.length - (i+1),aa,i+1,_,aa,rfl,rfl,rfl,?_,(by(repeat (refine aq.set ?_ aa _));exact jX),aa⟩;rw[bw];exact hv.keep (fun k hk _=>⟨by have:=g2 k aa;exact J,rfl⟩) aa
 have gB:i=ps.length:=aa;subst gB;rw[aa6]at hv ip;obtain⟨hz,cF,⟨rfl,pG⟩ | ⟨hl,k,rfl,k1,k2,_,k4⟩⟩:=hv
 ·refine ky z_ e0 e1 e4 pu gW aL ?_
  refine gQ (hN ρ _ _) ?_;rintro⟨u,M2,n2⟩ ⟨g1,g2,g3⟩;simp only at g1 g2 g3;subst g1;have ho:fK ps t=[]:=aaG.1 pG;refine fM z_ e4 ?_;exact⟨⟨[],by rw[ho],.nil,af,.inl ⟨rfl,rfl,rfl⟩⟩,ha.trans (g2.le aa),aa⟩
 refine ky z_ e0 e1 e4 pu gW aL ?_;refine gQ (hS ρ _ _ k (fK ps t) ip hl aa k4) ?_;rintro⟨u,M2,n2⟩ ⟨g1,⟨ys,y1,y2,y3⟩,g2,g3⟩;simp only at g1 y3 g2 g3;subst g1;refine fM z_ e4 ?_;refine⟨⟨ys,y1,y2,?_⟩,fun j hj=>(g2 j aa aa).trans (ha j hj),aa⟩;have VX:ys.length=(fK ps t).length:=y1.length_eq;have hyb:ys.length<=4000:=by rw[VX];simpa using ip
 rw[<-VX];exact⟨aa,.inr ⟨k,0,ys.length,ys.map (XV.int .u64),rfl,aa,by unfold vR;simp only[y3],af,by rw[drop_zero,aaz af]⟩⟩
theorem wM {M:Hp} {l:List aR} {tag:Nat->Tg} {le:List (Nat×Int×Bool)} (h:kI M lo hi m mn l tag ps vnum vnames vrows vend rs le) (t x:Int):x ∈ fK ps t ↔ x ∈ P_ l t:=by
 unfold fK P_;simp only[ab6,abQ,decide_eq_true_eq,aaF,Prod.exists];constructor
 ·rintro⟨a,b,⟨hm,rfl⟩,rfl⟩
  obtain⟨i,hi⟩:=acO hm;obtain⟨q,_⟩:=h.all i a b hi;unfold bd at q;have:l.filter (oI a b)≠[]:=fun e=>q (by rw[e];rfl)
  obtain⟨r,hr⟩:=exists_mem_of_ne_nil _ this;rw[abQ]at hr;simp only[oI,aaF,decide_eq_true_eq]at hr;exact⟨r,⟨hr.1,hr.2.1,hr.2.2.1⟩,hr.2.2.2⟩
 rintro⟨r,⟨h1,h2,h3⟩,rfl⟩;refine⟨t,r.x,⟨h.whole t r.x fun e=>?_,rfl⟩,rfl⟩;unfold bd at e;have:r ∈ l.filter (oI t r.x):=abQ.2 ⟨h1,by simp[oI,h2,h3]⟩;rw[map_eq_nil_iff]at e;rw[e]at this;cases this
theorem Ik {t:Int} {k:Nat} (h:0<k):xH t k=(t,(k:Int)):=by
 cases k with
 | zero=>omega
 | succ k=>rfl
theorem f174 (hS:kL) (hN:kJ) (ρ:aK) {M:Hp} {nx:Nat} {l:List aR} (hr:eo M b r cs) (hb:b<=nx) (h:cZ M lo hi m l) (hh:hi<=nx) (few:l.length<=1000):ar an ρ 174 [.mp m 0,.agg cs] M nx (fe nx M (.bool (rM l r))):=by
 have mP:=hr;have h0:=h;obtain⟨pk,pa,pb,pv,ve,rfl,⟨p1,p2⟩,⟨q1,q2⟩,dZ,_⟩:=hr.cells;obtain⟨tag,ps,vnum,vnames,vrows,vend,rs,le,h⟩:=h;refine ar.wk 15 [.tmp 4] Tryz.func174 ?_;by_cases k5:r.kind=5
 ·refine ul Hk p1 p2 q1 q2 k5 ?_
  generalize xu:aG (aG M _ _) _ _=M1;have a1:aq nx M M1:=by rw[<-xu];exact O
  have m1:gG M1 nx=some (.row [.mp m 0]):=by rw[<-xu];exact J
  have m2:gG M1 (nx+1)=some (.row [.int .i64 r.kind,.int .u64 r.t,.int .u64 r.x,.int .u64 r.w,.int .u64 r.n,.int .u64 r.v,.int .i64 pk,.int .u64 pa,.int .u64 pb,pv,ve]):=by rw[<-xu,k5];exact J
  clear xu;obtain⟨MV,ps1,w0,w1,w2,w3,rs1,le1,h1⟩:=h0.agr (a1.le hh) (u7 _);refine gQ (WQ hS hN ρ h1 aa (by have:=h1.few;omega) r.t) ?_;rintro⟨u,M2,n2⟩ ⟨⟨ys,y1,y2,y3⟩,g2,g3⟩;simp only at y3 g2 g3;have a2:=a1.trans (g2.le aa);have z1:=(g2 nx aa).trans m1;have z2:=(g2 (nx+1) aa).trans m2;have D0:=y3.cell;clear m1 m2;refine dt Hk ?_;refine lG (Wl ρ y3 aa (fun x=>!(r.es.any fun e=>decide (e.x=x)&&(decide (e.w=(xH r.t (bd l r.t x).length).1)&&decide (e.n=(xH r.t (bd l r.t x).length).2)))) fun x hx M' nx' ha hn=>Xq ρ ((mP.agr (a2.le hb)).agr (ha.le aa)) aa ((h0.agr (a2.le hh) (u7 _)).agr (ha.le aa) (u7 _)) aa ((ha _ aa).trans z1) ((ha _ aa).trans z2) aa aa x) fun M3 n3 MM k3'=>?_
  refine fM Hk @fe.eq_1 ?_;refine⟨?_,a2.trans (MM.le aa),aa⟩;have hz:=xU (fun x:Int=>r.es.any fun e=>decide (e.x=x)&&(decide (e.w=(xH r.t (bd l r.t x).length).1)&&decide (e.n=(xH r.t (bd l r.t x).length).2))) ys;rw[hz];simp only[rM,k5,decide_true,Bool.not_true,Bool.false_or];congr 1;rw[Bool.eq_iff_iff,aa4,aa4];have pB:∀x,x ∈ ys ↔ x ∈ P_ l r.t:=fun x=>by rw[y1.mem_iff,wM h1]
  have ay:∀x,x ∈ P_ l r.t->xH r.t (bd l r.t x).length=(r.t,((bd l r.t x).length:Int)):=fun x hx=>by refine Ik (length_pos_iff.2 fun e=>?_);rw[<-wM h1]at hx;unfold fK at hx;simp only[ab6,abQ,decide_eq_true_eq,Prod.exists]at hx;obtain⟨a,b',⟨hm,rfl⟩,rfl⟩:=hx;obtain⟨i,hi⟩:=acO hm;exact(h1.all i _ _ hi).1 e
  constructor
  ·intro q x hx
   have:=q x ((pB x).2 hx);rw[ay x hx]at this;exact this
  intro q x hx;rw[ay x ((pB x).1 hx)];exact q x ((pB x).1 hx)
 refine ky Hk p1 p2 q1 q2 k5 @fe.eq_1 ?_;exact⟨by simp[rM,k5],O,aa⟩
theorem f124 (ρ:aK) (f6:ρ.det=false) {M:Hp} {nx box rm c:Nat} {l:List (Nat×Int×Int)} (sQ:gG M box=some (.row [.mm rm])) (RT:gG M rm=some (.map (cx (vI .i64) l) c)) (hb:kD l c) (h1:box<nx) (h2:rm<nx) (few:l.length<=100000) :
 ar an ρ 124 [.fn (.func 126) [] [.mp box 0]] M nx fun r=>(∃ys:List Int,ys.Perm (l.map (·.2.1))/\bS r.2.1 nx r.2.2 (fun _=>()) () r.1 1 ys.length (ys.map (XV.int .u64)))/\aq nx M r.2.1/\nx<=r.2.2:=by
 refine ar.wk 5 [.tmp 2] Tryz.func124 ?_;refine Pr ?_;refine gQ (f190 ρ f6 sQ RT hb (show box<nx+2 by omega) aa few) ?_;rintro⟨u,M2,n2⟩ ⟨⟨ys,y1,y2⟩,g2,g3⟩;simp only at y2 g2 g3;refine Pr ?_;refine⟨⟨ys,y1,?_⟩,g2.le aa,aa⟩;obtain⟨o1,o2,o3 | ⟨o3,K,q1,K1,K2,K3,K4⟩⟩:=y2;·exact⟨o1,o2,.inl o3⟩
 exact⟨o1,o2,.inr ⟨o3,K,q1,aa,aa,K3,K4⟩⟩
theorem f78 (hS:kL) (hN:kJ) (ρ:aK) (f6:ρ.det=false) {M:Hp} {nx box rm c:Nat} {l:List (Nat×Int×Int)} (sQ:gG M box=some (.row [.mm rm])) (RT:gG M rm=some (.map (cx (vI .i64) l) c)) (hb:kD l c) (h1:box<nx) (h2:rm<nx) (few:l.length<=4000) :
 ar an ρ 78 [.fn (.func 126) [] [.mp box 0]] M nx fun r=>(∃ys:List Int,ys.Perm (l.map (·.2.1))/\ys.Pairwise (· <= ·)/\bS r.2.1 nx r.2.2 (fun _=>()) () r.1 1 ys.length (ys.map (XV.int .u64)))/\aq nx M r.2.1/\nx<=r.2.2:=by
 refine ar.wk 9 [.tmp 2] Tryz.func78 ?_;refine Pr ?_;refine gQ (f124 ρ f6 sQ RT hb (show box<nx+2 by omega) aa aa) ?_;rintro⟨u,M2,n2⟩ ⟨⟨ys,y1,y2⟩,g2,g3⟩;simp only at y2 g2 g3;have VX:ys.length<=4000:=by rw[y1.length_eq,abd];exact few
 obtain⟨o1,o2,⟨rfl,o3⟩ | ⟨o3,K,rfl,K1,K2,K3,K4⟩⟩:=y2
 ·have hy0:ys=[]:=aaG.1 o3
  refine Pr ?_;refine gQ (hN ρ _ _) ?_;rintro⟨u,M3,n3⟩ ⟨k1,k2,k3⟩;simp only at k1 k2 k3;subst k1;refine Pr ?_;exact⟨⟨ys,y1,by rw[hy0];exact .nil,⟨o1,o2,.inl ⟨rfl,o3⟩⟩⟩,(g2.le aa).trans (k2.le aa),aa⟩
 refine Pr ?_;refine gQ (hS ρ _ _ K ys VX o3 aa K4) ?_;rintro⟨u,M3,n3⟩ ⟨k1,⟨zs,z1,z2,z3⟩,k2,k3⟩;simp only at k1 k2 k3 z3;subst k1;refine Pr ?_;have RV:zs.length=ys.length:=z1.length_eq;refine⟨⟨zs,z1.trans y1,z2,⟨aa,af,.inr ⟨aa,K,by rw[RV],aa,aa,rfl,z3⟩⟩⟩,fun q hq=>(k2 q aa aa).trans (g2 q aa),aa⟩
theorem f79 (ρ:aK) (M:Hp) (nx rm:Nat):ar an ρ 79 [.mm rm] M nx fun r=>∃box,r.1 = .fn (.func 126) [] [.mp box 0]/\nx<=box/\box<r.2.2/\gG r.2.1 box=some (.row [.mm rm])/\aq nx M r.2.1/\nx<=r.2.2:=by refine ar.wk 4 [.tmp 2] Tryz.func79 ?_;refine dt Lj ?_;exact⟨nx,rfl,aa,aa,if_pos rfl,O,aa⟩
def Ev (M:Hp) (o:Nat):Prop:=∃rm c l,gG M o=some (.row [.mm rm])/\gG M rm=some (.map (cx vX l) c)/\kD l c/\l.length<=4000
end
end
end Go.Xs
