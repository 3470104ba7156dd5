/- A part of the proof: the layers and contracts it rests on. -/
import Derived.Test.YtcibleglaghhfaaGreatDoorXsPB
import Derived.Test.YtcibleglaghhfaaGreatDoorXsPC
set_option maxRecDepth 100000
set_option maxHeartbeats 8000000
set_option linter.all false
set_option linter.deprecated false
namespace Go.Xs
open List Nat Option
variable{a b:Nat}
noncomputable section
variable {M M' N N':Hp} {nx nx' lo hi hi' h:Nat} {S S':HS}
def vF:HS:=⟨0,[],[],fun _ _=>[],fun _=>none,[],[],fun _ _ _=>none,[],fun _=>none⟩
def HS.addr (S:HS) (cs:List XV):HS:={ S with nrec:=S.nrec+1,crec:=S.crec++cs }
theorem IV {c:Nat} (ha:a<hi) (hb:b<hi) (hc:c<hi) (hh:h<hi) (ab:a≠b) (ac:a≠c) (ah:a≠h) (bc:b≠c) (bh:b≠h) (ch:c≠h) (la:lo<=a) (lb:lo<=b) (lc:lo<=c) (lh:lo<=h)
 (ga:gG M a=some (.map [] 0)) (gb:gG M b=some (.map [] 0)) (gc:gG M c=some (.map [] 0)) (gh:gG M h=some (.row [.nils,.nils,.mm a,.nils,.nils,.mm b,.nils,.mm c])):bX M lo hi h vF:=by
 refine⟨fun k=>if k=a then .num else if k=b then .ver else if k=c then .obj else .hist,.nils,.nils,.nils,.nils,.nils,a,b,c,0,0,0,[],[],[],[],?_⟩;have nn:∀tg:Hg,bS M lo hi (fun k=>if k=a then Hg.num else if k=b then .ver else if k=c then .obj else .hist) tg .nils 11 0 []:=fun tg=>⟨Z,rfl,.inl ⟨rfl,rfl⟩⟩
 exact {
  lo_h:=lh,h_hi:=hh,tg:=by rw[if_neg ah.symm,if_neg bh.symm,if_neg ch.symm],row:=gh
  recs:=⟨af,rfl,.inl ⟨rfl,rfl⟩⟩,txs:=⟨af,rfl,.inl ⟨rfl,rfl⟩⟩
  known:=fun i x hx=>by simp[vF]at hx
  nlo:=la,nhi:=ha,ntg:=if_pos rfl,num:=ga,numS:=fun t=>rfl
  com:=⟨af,rfl,.inl ⟨rfl,rfl⟩⟩,mods:=⟨af,rfl,.inl ⟨rfl,rfl⟩⟩
  vlo:=lb,vhi:=hb,vtg:=by rw[if_neg ab.symm,if_pos rfl],ver:=gb,vrow:=by intro e he;cases he
  verS:=fun _ _ _=>rfl,looks:=⟨af,rfl,.inl ⟨rfl,rfl⟩⟩
  olo:=lc,ohi:=hc,otg:=by rw[if_neg ac.symm,if_neg bc.symm,if_pos rfl],obj:=gc,objS:=fun _=>rfl }
theorem Pj {c:Nat} (ha:a<nx) (hb:b<nx) (hc:c<nx) (hh:h<nx) (ab:a≠b) (ac:a≠c) (ah:a≠h) (bc:b≠c) (bh:b≠h) (ch:c≠h) (la:lo<=a) (lb:lo<=b) (lc:lo<=c) (lh:lo<=h)
 (ga:gG M a=some (.map [] 0)) (gb:gG M b=some (.map [] 0)) (gc:gG M c=some (.map [] 0)) (gh:gG M h=some (.row [.nils,.nils,.mm a,.nils,.nils,.mm b,.nils,.mm c])) :
 ∃N,HF M nx N lo h vF/\∀k,k≠a->k≠b->k≠c->k≠h->gG N k=none:=by
 obtain⟨N,hN⟩:=zX (fun k=>if k=a\/k=b\/k=c\/k=h then gG M k else none) nx;have g:∀k,k<nx->(k=a\/k=b\/k=c\/k=h)->gG N k=gG M k:=fun k h1 h2=>by rw[hN,if_pos h1];exact if_pos h2
 refine⟨N,⟨fun k o ho=>?_,fun k x hx=>?_,fun k x hx=>?_,nx,Nat.le_refl _,IV ha hb hc hh ab ac ah bc bh ch la lb lc lh ((g a ha (.inl rfl)).trans ga) ((g b hb (.inr (.inl rfl))).trans gb) ((g c hc (.inr (.inr (.inl rfl)))).trans gc) ((g h hh (.inr (.inr (.inr rfl)))).trans gh)⟩,fun k h1 h2 h3 h4=>?_⟩
 ·rw[hN]at ho
  split at ho<;>(try (cases ho;done))
  skip
  split at ho<;>(try (cases ho;done))
  rename_i hk;refine⟨ho,?_⟩;rcases hk with rfl | rfl | rfl | rfl
  ·rw[ga]at ho;cases ho;rfl
  ·rw[gb]at ho;cases ho;rfl
  ·rw[gc]at ho;cases ho;rfl
  ·rw[gh]at ho;cases ho;rfl
 ·rw[hN]at hx
  split at hx
  ·assumption
  ·cases hx
 ·rw[hN]at hx
  split at hx
  ·split at hx
   ·omega
   ·cases hx
  ·cases hx
 ·rw[hN]
  split
  ·exact if_neg Z
  ·rfl
section
variable {tag tag':Nat->Hg} {vrec vtxs vcom vmods vlook:XV} {nk vk ok cn cv co:Nat} {ptrs:List XV} {lnum:List (Nat×Int×Int)} {lver:List (Nat×List Int×Int)} {lobj:List (Nat×Int×Int)}
theorem eM.addr {vrec':XV} {cs:List XV} (H:eM M lo hi h S tag vrec vtxs vcom vmods vlook nk vk ok cn cv co ptrs lnum lver lobj)
 (keep:∀q,q<hi->¬ (fun g=>g=Hg.hist\/g = .recs) (tag q)->gG M' q=gG M q) (cH:∀q,q<hi->tag' q=tag q) (hh:hi<=hi')
 (row:gG M' h=some (.row [vrec',vtxs,.mm nk,vcom,vmods,.mm vk,vlook,.mm ok])) (recs:bS M' lo hi' tag' .recs vrec' 11 (S.nrec+1) (S.crec++cs)) :
 eM M' lo hi' h (S.addr cs) tag' vrec' vtxs vcom vmods vlook nk vk ok cn cv co ptrs lnum lver lobj:=by
 have kk:=fun tg hc=>zf (M:=M) (M':=M') (C:=fun g=>g=Hg.hist\/g = .recs) keep cH tg hc
 exact {
  lo_h:=H.lo_h,h_hi:=Nat.lt_of_lt_of_le H.h_hi hh,tg:=by rw[cH h H.h_hi];exact H.tg,row:=row
  recs:=recs,txs:=H.txs.keep (kk _ ae) hh
  known:=fun i b hb=>by
   obtain⟨v,h1,h2⟩:=H.known i b hb;exact⟨v,h1,h2.keep (fun k hk hg=>⟨keep k hk (by rcases hg with q | q | ⟨x,q⟩<;>rw[q]<;>simp),cH k hk⟩) hh⟩
  nlo:=H.nlo,nhi:=Nat.lt_of_lt_of_le H.nhi hh,ntg:=by rw[cH nk H.nhi];exact H.ntg,num:=by rw[(kk _ ae nk H.nhi H.ntg).1];exact H.num,numS:=H.numS
  com:=H.com.keep (kk _ ae) hh,mods:=H.mods.keep (kk _ ae) hh
  vlo:=H.vlo,vhi:=Nat.lt_of_lt_of_le H.vhi hh,vtg:=by rw[cH vk H.vhi];exact H.vtg,ver:=by rw[(kk _ ae vk H.vhi H.vtg).1];exact H.ver,vrow:=H.vrow,verS:=H.verS
  looks:=H.looks.keep (kk _ ae) hh
  olo:=H.olo,ohi:=Nat.lt_of_lt_of_le H.ohi hh,otg:=by rw[cH ok H.ohi];exact H.otg,obj:=by rw[(kk _ ae ok H.ohi H.otg).1];exact H.obj,objS:=H.objS }
end
theorem Ip {knew:Nat} {old:List Nat} {x y:bx} (hM:Mu N M) (aL:∀k o,gG N k=some o->k<nx) (hx:kF x=true) (hy:kF y=true) (hk:nx<=knew) (ia:knew<nx') (hh:h<nx) (cf:h ∉ old) (gone:∀j,j<nx->j≠h->j ∉ old->gG M' j=gG M j)
 (e1:gG M' h=some x) (e2:gG M' knew=some y) (hN:gG N h≠none) (dz:∀j ∈ old,gG N j≠none):∃N',Mu N' M'/\(∀k o,gG N' k=some o->k<nx'/\(k=knew\/gG N k≠none))/\gM nx N M N' M'/\(∀k,k<nx->k≠h->k ∉ old->gG N' k=gG N k)/\gG N' h=some x/\gG N' knew=some y:=by
 obtain⟨N',JT⟩:=zX (fun k=>if k=knew then some y else if k=h then some x else if k ∈ old then none else gG N k) nx';have g:∀k,k<nx'->gG N' k=if k=knew then some y else if k=h then some x else if k ∈ old then none else gG N k:=fun k hk=>by rw[JT,if_pos hk]
 refine⟨N',fun k o ho=>?_,fun k o ho=>?_,fun k z k1 k2 k3=>⟨?_,?_⟩,fun k k1 k2 k3=>?_,?_,?_⟩
 ·have kA:k<nx':=by rw[JT]at ho;split at ho;assumption;cases ho
  rw[g k kA]at ho;split at ho
  ·rename_i e;subst e;cases ho;exact⟨e2,hy⟩
  ·split at ho
   ·rename_i e;subst e;cases ho;exact⟨e1,hx⟩
   ·split at ho
    ·cases ho
    ·rename_i f1 f2 f3
     obtain⟨q1,q2⟩:=hM k o ho;exact⟨by rw[gone k (aL k o ho) f2 f3];exact q1,q2⟩
 ·have kA:k<nx':=by rw[JT]at ho;split at ho;assumption;cases ho
  refine⟨kA,?_⟩;rw[g k kA]at ho;split at ho
  ·rename_i e;exact .inl e
  ·right
   split at ho
   ·rename_i e;rw[e];exact hN
   ·split at ho
    ·cases ho
    ·rw[ho];simp
 ·rw[gone k k1 (fun e=>hN (by rw[<-e];exact k2)) (fun e=>dz k e k2)];exact k3
 ·rw[g k Z,if_neg Z,if_neg (fun e=>hN (by rw[<-e];exact k2)),if_neg (fun e=>dz k e k2)];exact k2
 ·rw[g k Z,if_neg Z,if_neg k2,if_neg k3]
 ·rw[g h Z,if_neg Z,if_pos rfl]
 ·rw[g knew ia,if_pos rfl]
theorem HF.addr (H:HF M nx N lo h S) {cs:List XV} (dI:cs.length=11) (few:S.nrec<=100000):∃vrec c1 nk c3 c4 vm c6 om old,gG M h=some (.row [vrec,c1,.mm nk,c3,c4,.mm vm,c6,.mm om])/\h<nx/\S.crec.length=S.nrec*11 /\
 ((vrec = .nils/\S.nrec=0/\old=[])\/∃sk,vrec = .sl sk 11 0 S.nrec S.nrec/\1<=S.nrec/\sk<nx/\h≠sk/\gG M sk=some (.row S.crec)/\gG N sk≠none/\lo<=sk/\old=[sk]) /\
 ∀M' nx' knew,nx<=knew->knew<nx'->(∀j,j<nx->j≠h->j ∉ old->gG M' j=gG M j)->gG M' h=some (.row [.sl knew 11 0 (S.nrec+1) (S.nrec+1),c1,.mm nk,c3,c4,.mm vm,c6,.mm om])->gG M' knew=some (.row (S.crec++cs)) ->
  ∃N',HF M' nx' N' lo h (S.addr cs)/\gM nx N M N' M':=by
 obtain⟨mu,lt,ge,hi,vg,tag,vrec,vtxs,vcom,vmods,vlook,nk,vk,ok,cn,cv,co,ptrs,lnum,lver,lobj,H⟩:=H;have bA:=H.row;have hh:=H.h_hi;have hr:=H.recs;obtain⟨r1,r2,r3⟩:=hr;have main:∀old:List Nat,h ∉ old->(∀j ∈ old,j<hi/\tag j = .recs/\gG N j≠none)->∀M' nx' knew,nx<=knew->knew<nx'->(∀j,j<nx->j≠h->j ∉ old->gG M' j=gG M j)->gG M' h=some (.row [.sl knew 11 0 (S.nrec+1) (S.nrec+1),vtxs,.mm nk,vcom,vmods,.mm vk,vlook,.mm ok])->gG M' knew=some (.row (S.crec++cs)) ->
  ∃N',HF M' nx' N' lo h (S.addr cs)/\gM nx N M N' M':=by
  intro old CO bJ M' nx' knew k1 k2 k3 k4 k5;obtain⟨N',p1,p2,p3,p4,p5,p6⟩:=Ip mu lt rfl rfl k1 k2 Z CO k3 k4 k5 (by rw[bA];simp) fun j hj=>(bJ j hj).2.2
  refine⟨N',⟨p1,fun k o ho=>(p2 k o ho).1,fun k o ho=>?_,nx',Nat.le_refl _,fun k=>if k=knew then .recs else tag k,_,vtxs,vcom,vmods,vlook,nk,vk,ok,cn,cv,co,ptrs,lnum,lver,lobj,H.addr (hi':=nx') (fun q q1 q2=>p4 q Z (fun e=>q2 (by rw[e];exact .inl H.tg)) fun e=>q2 (.inr (bJ q e).2.1)) (fun q hq=>if_neg Z) Z p5 ⟨Z,by rw[length_append,r2,dI];omega,.inr ⟨Z,knew,rfl,by have:=H.lo_h;omega,k2,if_pos rfl,p6⟩⟩⟩,p3⟩;rcases(p2 k o ho).2 with e | e
  ·have:=H.lo_h;omega
  ·cases hn:gG N k with
   | none=>exact(e hn).elim
   | some x=>exact ge k x hn
 rcases r3 with ⟨e1,e2⟩ | ⟨e0,sk,e1,e2,e3,e4,e5⟩
 ·subst e1
  exact⟨.nils,vtxs,nk,vcom,vmods,vk,vlook,ok,[],(mu h _ bA).1,Z,r2,.inl ⟨rfl,e2,rfl⟩,main [] ae ae⟩
 ·subst e1
  have cf:h≠sk:=aZ H.tg e4 ae;exact⟨_,vtxs,nk,vcom,vmods,vk,vlook,ok,[sk],(mu h _ bA).1,Z,r2,.inr ⟨sk,rfl,e0,Z,cf,(mu sk _ e5).1,by rw[e5];simp,e2,rfl⟩,main [sk] (by simpa using cf) (fun j hj=>by simp only[mem_singleton]at hj;subst hj;exact⟨e3,e4,by rw[e5];simp⟩)⟩
end
end Go.Xs
namespace Go.Xs
open List Nat Option
variable{args:List XV}{fn:Func}{g:Nat}
noncomputable section
abbrev YW:=List XV->Hp->Nat->(Hp->Nat->Prop)->Prop
section
variable {P:Program} {a:Act} {w w' w0:World} {ρ:aK} {σ σ' σ0:cb} {M N M' M0:Hp} {env be:eX} {ds:List Deferred} {nx nx0 n:Nat}
def HdW (P:Program) (ρ:aK) (w0:World) (σ0:cb) (M0:Hp) (nx0:Nat) (l:Nat) (rec:Loop) (H:YW):Prop :=
 ∀args M nx Q,H args M nx Q->∀w σ us,Ok ρ w σ M->(∀k,nx<=k->σ k=none)->zN w0 σ0 M0 w σ M->nx0<=nx->bb ρ σ args us ->
  us.length=rec.params.size/\∀fr,RoundIn (FW fr) 0 P l rec.fn ((rec.params.zip us.toArray).foldl (fun tmps (t,a)=>tmps.setIfInBounds t a) rec.tmps) rec.assign rec.body w
   fun e w'=>e = .returned (.bool true)/\∃M' nx',Q M' nx'/\∃σ',Ok ρ w' σ' M'/\zN w σ M w' σ' M'/\nx<=nx'/\∀k,σ' k=σ k\/(nx<=k/\k<nx')
def Rx (P:Program) (ρ:aK) (w0:World) (σ0:cb) (M0:Hp) (nx0:Nat):Option (Nat×YW)->Prop
 | none=>True
 | some (k,H)=>∃l rec room,σ0 k=some (l,room)/\oB w0 σ0 M0 l (.loop rec)/\HdW P ρ w0 σ0 M0 nx0 l rec H
theorem Rx.mono {Y:Option (Nat×YW)} (h:Rx P ρ w0 σ0 M0 nx0 Y) (e:zN w0 σ0 M0 w σ M) (jT:nx0<=nx):Rx P ρ w σ M nx Y:=by
 cases Y with
 | none=>trivial
 | some Y =>
   obtain⟨k,H⟩:=Y;obtain⟨l,rec,room,h1,h2,h3⟩:=h;exact⟨l,rec,room,e.sig _ _ h1,h2.ext e,fun args M' nx' Q hH w' σ' us aQ f8 mM QS j_=>h3 args M' nx' Q hH w' σ' us aQ f8 (e.trans mM) (Nat.le_trans jT QS) j_⟩
def OQ (P:Program) (ρ:aK) (g:Nat) (args:List XV) (Y:Nat×YW) (M:Hp) (nx:Nat) (R:Hp->Nat->Prop):Prop :=
 ∀w σ vs,Ok ρ w σ M->(∀k,nx<=k->σ k=none)->bb ρ σ args vs->Rx P ρ w σ M nx (some Y) ->
  (∃fn c,P.funcs[g]?=some fn/\fn.body=some c/\(fn.name == "runtime.NumGoroutine")=false) /\
  CallsIn (FW none) 0 P g vs.toArray w fun e w'=>(∃v,e = .returned v)/\∃M' nx',R M' nx'/\∃σ',Ok ρ w' σ' M'/\zN w σ M w' σ' M'/\nx<=nx'/\∀k,σ' k=σ k\/(nx<=k/\k<nx')
def xB (P:Program) (ρ:aK) (n:Nat) (asg body:Code) (ps:List Nat) (env:eX):YW:=fun args M nx Q =>
 ∃be,qj n ps args env=some be/\wx P ρ n asg (fun e s=>e = .normal/\wx P ρ n body (fun e s'=>e = .normal/\Q s'.M s'.nx) s) ⟨be,M,nx⟩
def FT (P:Program) (ρ:aK) (n:Nat) (Y:Option (Nat×YW)) (all:List Oper):List Oper->XS->(XS->Prop)->Prop
 | [],s,Q=>Q s
 | o::os,s,Q=>match a_ all s.env o.guard with
   | none=>False
   | some false=>∃env,cu n s.env o.dst .udf=some env/\FT P ρ n Y all os ⟨env,s.M,s.nx⟩ Q
   | some true=>(OX P ρ s.env s.M s.nx o.op fun r=>∃env,cu n s.env o.dst r.1=some env/\FT P ρ n Y all os ⟨env,r.2.1,r.2.2⟩ Q) \/
     ∃c k H args,o.op = .call c/\Y=some (k,H)/\EU s.env c=some (k,args)/\H args s.M s.nx fun M' nx'=>∃env,cu n s.env o.dst (.bool true)=some env/\FT P ρ n Y all os ⟨env,M',nx'⟩ Q
theorem ob {Y:Option (Nat×YW)} {all:List Oper} {Q:XS->Prop} {post:List Oper}:∀(pre:List Oper) (s:XS),RN P ρ n all pre s (fun s=>FT P ρ n Y all post s Q)->FT P ρ n Y all (pre++post) s Q
 | [],s,h=>h
 | o::os,s,h=>by
   unfold RN at h;simp only[cons_append];unfold FT;split at h<;>rename_i hg
   ·exact h.elim
   ·rw[hg]
    obtain⟨env,h1,h2⟩:=h;exact⟨env,h1,ob os _ h2⟩
   ·rw[hg]
    exact .inl (Dv h fun r ⟨env,h1,h2⟩=>⟨env,h1,ob os _ h2⟩)
def qD (P:Program) (ρ:aK) (n:Nat) (Y:Option (Nat×YW)):Code->(bg->XS->Prop)->XS->Prop
 | .skip,K,s=>K .normal s
 | .ret,K,s=>K .ret s
 | .exit id,K,s=>K (.exit id) s
 | .seq a b,K,s=>qD P ρ n Y a (fx (qD P ρ n Y b K) K) s
 | .block id c,K,s=>qD P ρ n Y c (fun e s'=>K (Cj id e) s') s
 | .cond c a b,K,s=>∃v,cG s.env c = .bool v/\(v=true->qD P ρ n Y a K s)/\(v=false->qD P ρ n Y b K s)
 | .loop c,K,s=>∃I:Nat->XS->Prop,(∃k,I k s)/\∀k s',I k s'->qD P ρ n Y c (w_ I k K) s'
 | .region id ops draw,K,s=>match draw with
   | false=>FT P ρ n Y ops.toList ops.toList s (K .normal)
   | true=>wx P ρ n (.region id ops true) K s
 | .rangeFunc g ps asg body,K,s=>∃h caps R,cG s.env g = .fn (.func h) [] caps/\OQ P ρ h (.yd s.nx::caps) (s.nx,xB P ρ n asg body ps.toList s.env) s.M (s.nx+1) R/\∀M' nx',R M' nx'->K .normal ⟨s.env,M',nx'⟩
 | _,_,_=>False
theorem Ix {Y:Option (Nat×YW)}:∀(c:Code) (K:bg->XS->Prop) (s:XS),wx P ρ n c K s->qD P ρ n Y c K s:=by
 intro c
 induction c with
 | skip=>intro K s h;exact h
 | ret=>intro K s h;exact h
 | exit id=>intro K s h;exact h
 | region id ops draw =>
   intro K s h;cases draw with
   | false =>
     have:ops.toList=ops.toList++[]:=ae;simp only[qD]
     conv=>arg 6;rw[this]
     exact ob _ _ h
   | true=>exact h
 | seq x y ihx ihy =>
   intro K s h;refine ihx _ s (cC x _ _ s (fun e s' q=>?_) h);cases e with
   | normal=>exact ihy _ _ q
   | exit id=>exact q
   | ret=>exact q
 | cond c x y ihx ihy =>
   intro K s h;obtain⟨v,hv,h1,h2⟩:=h;exact⟨v,hv,fun e=>ihx _ s (h1 e),fun e=>ihy _ s (h2 e)⟩
 | block id c ih=>intro K s h;exact ih _ s h
 | loop c ih =>
   intro K s h;obtain⟨I,h0,h1⟩:=h;exact⟨I,h0,fun k s' hi=>ih _ _ (h1 k s' hi)⟩
 | _=>intro K s h;exact h.elim
theorem Eo (hp:P.follows .mixedOrders=true) {asg body:Code} {fn:FuncId} {tmps:Array Value} {ps:Array Tmp} {D l:Nat}
 (bI:fX ρ σ0 env tmps) (Ea:tmps.size=n) (hl:oB w0 σ0 M0 l (.loop { state:=.ready,pending:=none,fn,tmps,params:=ps,assign:=asg,body,defers:=D })) :
 HdW P ρ w0 σ0 M0 nx0 l { state:=.ready,pending:=none,fn,tmps,params:=ps,assign:=asg,body,defers:=D } (xB P ρ n asg body ps.toList env):=by
 intro args M nx Q ⟨be,he,h⟩ w σ us aQ f8 mM jT j_;obtain⟨e1,e2,e3⟩:=uI ps.toList args us env be tmps he j_ (fun t v hv=>⟨(bI t v hv).1,(bI t v hv).2.mono mM.sig⟩) Ea;refine⟨by rw[e1];simp,fun fr=>?_⟩;refine roundIn_of_wpIn (F:=FW fr) (jh fr _) ?_;rw[Ng];have ez:((ps.zip us.toArray).foldl (fun tmps (t,a)=>tmps.setIfInBounds t a) tmps)=((ps.toList.zip us).foldl (fun tmps (t,a)=>tmps.setIfInBounds t a) tmps):=by
  rw[<-Array.foldl_toList];simp
 simp only[ez];have pG:=hl.ext mM;have aL:=pG.lt;refine Dh hp (fr:=some l) (B:=l+1) asg _ ⟨be,M,nx⟩ _ w σ h ⟨[],⟨e2,e3,aQ,f8,.refl w σ M,Nat.le_refl _,fun _=>.inl rfl,rfl⟩,[],rfl,nodup_nil,fun _ h=>by cases h⟩ _ fun e s1 a1 w1 σ1 ⟨he1,h1⟩ ⟨Yp,bw,Bi⟩=>?_
 subst he1;have r1:=pG.ext bw.ext;refine⟨_,run_beginRound r1.here rfl,?_⟩;have s2:fV w1 σ1 s1.M (w1.putObj l (.loop { state:=.busy,pending:=none,fn,tmps,params:=ps,assign:=asg,body,defers:=D })):=fV.putObj r1 rfl _;have r2:oB (w1.putObj l (.loop { state:=.busy,pending:=none,fn,tmps,params:=ps,assign:=asg,body,defers:=D })) σ1 s1.M l (.loop { state:=.busy,pending:=none,fn,tmps,params:=ps,assign:=asg,body,defers:=D }):=r1.put;have bV:∀c,c≠l->(w1.putObj l (.loop { state:=.busy,pending:=none,fn,tmps,params:=ps,assign:=asg,body,defers:=D })).heap[c]?=w1.heap[c]?:=fun c hc=>World.putObj_heap_other hc
 generalize w1.putObj l (.loop { state:=.busy,pending:=none,fn,tmps,params:=ps,assign:=asg,body,defers:=D })=w2 at s2 r2 bV ⊢;have vj:=bw.ext.size;refine Dh hp (fr:=some l) (B:=l+1) body _ s1 a1 w2 σ1 h1 ⟨Yp,⟨bw.envr,bw.size,s2.ok bw.ok,bw.free,.refl _ _ _,Nat.le_refl _,fun _=>.inl rfl,bw.def0⟩,?_⟩ _ fun e s3 a3 w3 σ3 ⟨he3,h3⟩ ⟨ds3,gT,_⟩=>?_
 ·obtain⟨Ds,q1,q2,q3⟩:=Bi
  exact⟨Ds,q1,q2,fun D hD=>⟨(q3 D hD).1,(q3 D hD).2.side (bV D (by have:=(q3 D hD).1;omega))⟩⟩
 ·subst he3
  have r3:=r2.ext gT.ext;have s4:=fV.putObj r3 rfl (.loop { state:=.ready,pending:=none,fn,tmps,params:=ps,assign:=asg,body,defers:=D });refine⟨_,_,run_endRound none r3.here,rfl,s3.M,s3.nx,h3,σ3,s4.ok gT.ok,?_,Nat.le_trans bw.le gT.le,fun k=>?_⟩
  ·have RU:=s2.size
   have hz3:=gT.ext.size;refine⟨gT.ext.os.trans (s2.os.trans bw.ext.os),gT.ext.tape.trans (s2.tape.trans bw.ext.tape),gT.ext.output.trans (s2.output.trans bw.ext.output),aj,fun c hc sy=>?_,fun c hc=>?_,fun k p hp=>gT.ext.sig k p (bw.ext.sig k p hp),fun c hc=>?_⟩
   ·by_cases cF:c=l
    ·subst cF
     rw[pG.here];exact World.putObj_heap_same r3.lt
    ·have QY:¬ eB σ1 s1.M c:=fun q=>by
      rcases bw.ext.own c q with q | q
      ·exact sy q
      ·omega
     refine(World.putObj_heap_other cF).trans ?_;rw[gT.ext.blk c Z QY,bV c cF,bw.ext.blk c hc sy]
   ·rcases gT.ext.own c hc with q | q
    ·exact bw.ext.own c q
    ·exact .inr Z
   ·rcases gT.ext.held c hc with q | q
    ·exact bw.ext.held c q
    ·exact .inr Z
  ·have CH:=gT.free k
   have Uv:nx<=s1.nx:=bw.le;have ZL:s1.nx<=s3.nx:=gT.le;by_cases hk:s3.nx<=k
   ·left;rw[CH hk,f8 k Z]
   ·rcases gT.old k with e | e
    ·rcases bw.old k with e' | e'
     ·left;rw[e,e']
     ·have e2:nx<=k:=e'
      right;omega
    ·right;omega
theorem xK {Y:Option (Nat×YW)} {all:List Oper} {fr:Option Nat} {Q:Exit->Act->World->Prop} {F:XS->Prop} (hY:Rx P ρ w0 σ0 M0 nx0 Y) :
 ∀(os:List Oper) (s:XS) (a:Act) (w:World) (σ:cb),FT P ρ n Y all os s F->St ds ρ w0 σ0 M0 nx0 n s a w σ ->
  (∀s' a' w' σ',F s'->St ds ρ w0 σ0 M0 nx0 n s' a' w' σ'->Q .normal a' w')->wpListIn (FW fr) 0 P all.toArray Q os a w
 | [],s,a,w,σ,h,hs,hQ=>hQ s a w σ h hs
 | o::os,s,a,w,σ,h,hs,hQ=>by
   unfold FT at h;unfold wpListIn;split at h<;>rename_i hg
   ·exact h.elim
   ·rw[iL hs.envr hg]
    rw[if_neg ae];obtain⟨be,he,h⟩:=h;exact⟨fun f _=>jh fr f,xK hY os _ _ w σ h (hs.skip he) hQ⟩
   ·rw[iL hs.envr hg,if_pos rfl]
    rcases h with h | ⟨c,k,H,args,df,hYe,hy,hH⟩
    ·refine Ns hs.ok hs.envr hs.free h _ _ fun v w' ⟨r,⟨be,he,h'⟩,hp⟩=>?_
     obtain⟨σ',lJ⟩:=hs.step hp he;exact xK hY os _ _ w' σ' h' lJ hQ
    ·subst hYe
     have hY0:=hY;obtain⟨l,rec,room,VP,h_,Mz⟩:=hY;obtain⟨us,b,room',hb,j_,gy⟩:=AG (P:=P) (w:=w) hs.envr df hy;rw[hs.ext.sig _ _ VP]at hb;cases hb;obtain⟨hz,CP⟩:=Mz args s.M s.nx _ hH w σ us hs.ok hs.free hs.ext hs.le j_;refine⟨fun f _=>jh fr f,?_⟩;rw[mZ,Oper.semAt_eq fr a.eval o (fun c' jY=>by rw[df]at jY;cases jY),gy,run_yield (h_.ext hs.ext).here (by simpa using hz)];refine⟨fun q=>(by rw[lD]at q;cases q),(CP fr).mono fun e w' hq=>?_⟩;obtain⟨rfl,M',nx',⟨be,he,h'⟩,σ',g1,g2,g3,g4⟩:=hq;obtain⟨σ2,lJ⟩:=hs.step (r:=(.bool true,M',nx')) (v:=.bool true) ⟨σ',by simp only[VR],g1,g2,g3,g4⟩ he;exact xK hY0 os _ _ w' σ2 h' lJ hQ
theorem He (hp:P.follows .mixedOrders=true):∀(c:Code) (Y:Option (Nat×YW)) (B:Nat) (w0:World) (σ0:cb) (M0:Hp) (nx0:Nat),Rx P ρ w0 σ0 M0 nx0 Y->B<=w0.heap.size ->
 ∀(K:bg->XS->Prop) (s:XS) (a:Act) (w:World) (σ:cb),qD P ρ n Y c K s->Sm ρ B w0 σ0 M0 nx0 n s a w σ ->
 ∀Qm:Exit->Act->World->Prop,(∀e s' a' w' σ',K e s'->Sm ρ B w0 σ0 M0 nx0 n s' a' w' σ'->Qm e.to a' w')->c.wpIn (FW none) 0 P Qm a w:=by
 intro c
 induction c with
 | skip=>intro Y B w0 σ0 M0 nx0 hY hB K s a w σ h hs Qm hQ;exact wpIn_skip (hQ .normal s a w σ h hs)
 | ret=>intro Y B w0 σ0 M0 nx0 hY hB K s a w σ h hs Qm hQ;exact wpIn_ret (hQ .ret s a w σ h hs)
 | exit id=>intro Y B w0 σ0 M0 nx0 hY hB K s a w σ h hs Qm hQ;exact wpIn_exit (hQ (.exit id) s a w σ h hs)
 | region id ops draw =>
   intro Y B w0 σ0 M0 nx0 hY hB K s a w σ h ⟨ds,hs,hk⟩ Qm hQ;cases draw with
   | true=>exact Dh hp _ K s a w σ h ⟨ds,hs,hk⟩ Qm hQ
   | false =>
     simp only[qD]at h;refine wpIn_region_list ?_;have:=xK (fr:=none) (Q:=Qm) (hY.mono hs.ext hs.le) ops.toList s a w σ h hs.rebase fun s' a' w' σ' hF bw=>hQ .normal s' a' w' σ' hF ⟨ds,hs.join bw,hk.ext bw.ext⟩
     simpa using this
 | seq x y ihx ihy =>
   intro Y B w0 σ0 M0 nx0 hY hB K s a w σ h hs Qm hQ;refine wpIn_seq (ihx Y B w0 σ0 M0 nx0 hY hB _ s a w σ h hs _ fun e s' a' w' σ' hK bw=>?_);cases e with
   | normal=>exact ihy Y B w0 σ0 M0 nx0 hY hB K s' a' w' σ' hK bw Qm hQ
   | exit id=>exact hQ (.exit id) s' a' w' σ' hK bw
   | ret=>exact hQ .ret s' a' w' σ' hK bw
 | cond c x y ihx ihy =>
   intro Y B w0 σ0 M0 nx0 hY hB K s a w σ h hs Qm hQ;obtain⟨v,hv,h1,h2⟩:=h;have US:VR ρ σ (cG s.env c) (a.eval c):=let ⟨_,bw,_⟩:=hs;bf bw.envr c
   rw[hv]at US;simp only[VR]at US;exact wpIn_cond_split US (fun e=>ihx Y B w0 σ0 M0 nx0 hY hB K s a w σ (h1 e) hs Qm hQ) fun e=>ihy Y B w0 σ0 M0 nx0 hY hB K s a w σ (h2 e) hs Qm hQ
 | block id c ih =>
   intro Y B w0 σ0 M0 nx0 hY hB K s a w σ h hs Qm hQ;refine wpIn_block (ih Y B w0 σ0 M0 nx0 hY hB _ s a w σ h hs _ fun e s' a' w' σ' hK bw=>?_);have:=hQ (Cj id e) s' a' w' σ' hK bw;cases e with
   | normal=>exact this
   | ret=>exact this
   | exit i =>
     simp only[bg.to,Exit.inBlock];simp only[Cj]at this;cases hb:Nat.beq i id with
     | true =>
       rw[hb]at this;rw[if_pos (eq_of_beq_eq_true hb)];exact this
     | false =>
       rw[hb]at this;rw[if_neg (ne_of_beq_eq_false hb)];exact this
 | loop c ih =>
   intro Y B w0 σ0 M0 nx0 hY hB K s a w σ h hs Qm hQ;obtain⟨I,⟨k0,h0⟩,hr⟩:=h;refine wpIn_loop_ghost (fun k a w=>∃s σ,I k s/\Sm ρ B w0 σ0 M0 nx0 n s a w σ) k0 ⟨s,σ,h0,hs⟩ ?_;rintro k a w ⟨s,σ,hi,bw⟩;refine ih Y B w0 σ0 M0 nx0 hY hB _ s a w σ (hr k s hi) bw _ fun e s' a' w' σ' hK kU=>?_
   cases e with
   | normal =>
     obtain⟨j,hj,mS⟩:=hK;exact⟨j,hj,s',σ',mS,kU⟩
   | exit id=>exact hQ (.exit id) s' a' w' σ' hK kU
   | ret=>exact hQ .ret s' a' w' σ' hK kU
 | rangeFunc f ps asg body iha ihb =>
   intro Y B w0 σ0 M0 nx0 hY hB K s a w σ h ⟨ds,hs,hk⟩ Qm hQ;obtain⟨g,caps,RR,Jz,hI,hKR⟩:=h;have hv:=bf hs.envr f;rw[Jz]at hv;simp only[VR,bb]at hv;obtain⟨us0,us,j_,CM,Jt⟩:=hv;have CM:us0 = #[]:=by apply Array.ext';simpa using CM
   subst CM;refine wpIn_rangeFunc ?_;intro fc _;obtain⟨R,hR⟩:∃R:Loop,R = { state:=.ready,pending:=none,fn:=fc,tmps:=a.tmps,params:=ps,assign:=asg,body,defers:=w.heap.size }:=⟨_,rfl⟩;obtain⟨W1,Mo⟩:∃W1,W1=(w.alloc (.deferred (some []))).alloc (.loop R):=⟨_,rfl⟩;have vj:(w.alloc (.deferred (some []))).heap.size=w.heap.size+1:=World.size_alloc ..;have s1:fV w σ s.M (w.alloc (.deferred (some []))):=fV.alloc hs.ok _;have Rd:=s1.ok hs.ok;have s2:fV (w.alloc (.deferred (some []))) σ s.M W1:=by rw[Mo];exact fV.alloc Rd _
   have d1:oB (w.alloc (.deferred (some []))) σ s.M w.heap.size (.deferred (some [])):=oB.new hs.ok _;have Yo:∀b,b<w.heap.size->(w.alloc (.deferred (some []))).heap[b]?=w.heap[b]?:=fun b hb=>by
    show (w.heap.push _)[b]?=_;rw[Array.getElem?_push,if_neg Z]
   have TQ:∀b,b<w.heap.size+1->W1.heap[b]?=(w.alloc (.deferred (some []))).heap[b]?:=fun b hb=>by
    rw[Mo];show ((w.alloc _).heap.push _)[b]?=_;rw[Array.getElem?_push,if_neg Z]
   have d2:oB W1 σ s.M w.heap.size (.deferred (some [])):=d1.side (TQ _ Z);have r2:oB W1 σ s.M (w.heap.size+1) (.loop R):=by
    have:=oB.new (o:=.loop R) Rd;rw[vj]at this;rw[Mo];exact this
   have x2:zN w σ s.M W1 σ s.M:=s2.ext (s1.ext (.refl _ _ _) fun b hb _=>Yo b hb) fun b hb _=>TQ b Z
   obtain⟨ok3,x3⟩:=(s2.ok Rd).upd (hs.free s.nx (Nat.le_refl _)) (w.heap.size+1,0);have hσ1:∀k,s.nx+1<=k->(σ.upd s.nx (w.heap.size+1,0)) k=none:=fun k hk=>by
    rw[cb.upd_other _ _ Z];exact hs.free k Z
   have mw:=x2.trans x3;have r3:=r2.ext x3;have d3:=d2.ext x3;have aX:bb ρ (σ.upd s.nx (w.heap.size+1,0)) (.yd s.nx::caps) (.func (.yield (w.heap.size+1)) #[] #[]::us.toList):=by
    simp only[bb,VR];exact⟨_,_,rfl,⟨_,_,cb.upd_same ..,rfl⟩,Jt.mono mw.sig⟩
   have Jy:fX ρ (σ.upd s.nx (w.heap.size+1,0)) s.env a.tmps:=fun t v hv=>⟨(hs.envr t v hv).1,(hs.envr t v hv).2.mono mw.sig⟩
   have Mz:=Eo (nx0:=s.nx+1) hp (asg:=asg) (body:=body) (fn:=fc) (ps:=ps) (D:=w.heap.size) Jy hs.size (by rw[<-hR];exact r3);rw[<-hR]at Mz;obtain⟨⟨fn,c,QK,Js,xn⟩,CG⟩:=hI W1 _ _ ok3 hσ1 aX ⟨w.heap.size+1,R,0,cb.upd_same ..,r3,Mz⟩;refine⟨w.heap.size+1,[nK w.heap.size],W1,{ target:=.fn (.func g) us,args:=#[.func (.yield (w.heap.size+1)) #[] #[]] },W1,g,#[.func (.yield (w.heap.size+1)) #[] #[]]++us,W1,?_,?_,fun f' _=>jh none f',?_,fun q=>(by rw[lD]at q;cases q),?_⟩
   ·rw[Mo,hR,mZ];exact run_enterLoop_outer _ _ _ _ _
   ·simp[resolve,j_,Deferred.ofValue]
    rfl
   ·simp only[invoke,callFunc,Sem.run_bind,run_program,Result.andThen_ok,QK,xn,Js,isNone_some,Bool.false_eq_true,if_false,Sem.run_pure]
   ·have ez:(#[.func (.yield (w.heap.size+1)) #[] #[]]++us:Array Value)=(.func (.yield (w.heap.size+1)) #[] #[]::us.toList).toArray:=by
     apply Array.ext';simp
    rw[ez];refine CG.mono fun e w3 hq=>?_
    obtain⟨⟨v,rfl⟩,r1',r2',hr,σ',g1,g2,g3,g4⟩:=hq;have r4:=r3.ext g2;have s4:=fV.putObj r4 rfl (.loop { R with state:=.exhausted });have x4:=mw.trans g2;refine⟨none,w3.putObj (w.heap.size+1) (.loop { R with state:=.exhausted }),?_,?_⟩
    ·have Z0:R.pending=none:=by rw[hR]
     have hsr:R.state = .ready:=by rw[hR]
     have:=run_endLoop (P:=P) r4.here (by rw[hsr];simp);rw[this,Z0]
    ·refine hQ .normal ⟨s.env,r1',r2'⟩ _ _ σ' (hKR _ _ hr) ⟨nK w.heap.size::ds,⟨fun t v hv=>⟨(hs.envr t v hv).1,(hs.envr t v hv).2.mono x4.sig⟩,hs.size,s4.ok g1,fun k hk=>?_,?_,by have:=hs.le;simp only;omega,fun k=>?_,?_⟩,?_⟩
     ·simp only at hk
      rcases g4 k with e | e
      ·rw[e];exact hσ1 k Z
      ·omega
     ·have hz:=hs.ext.size
      exact s4.ext (hs.ext.trans x4) fun c hc _=>World.putObj_heap_other Z
     ·rcases g4 k with e | e
      ·by_cases hk:k=s.nx
       ·right;rw[hk];exact hs.le
       ·rw[e,cb.upd_other _ _ hk];exact hs.old k
      ·right;have:=hs.le;omega
     ·show [nK w.heap.size]++a.defers=_
      rw[hs.def0];rfl
     ·obtain⟨Ds,e1,e2,e3⟩:=hk
      have aL:∀D ∈ Ds,D<w.heap.size:=fun D hD=>(e3 D hD).2.lt
      refine⟨w.heap.size::Ds,by rw[e1];rfl,nodup_cons.2 ⟨fun hm=>absurd (aL _ hm) Z,e2⟩,fun D hD=>?_⟩;have cf:D≠w.heap.size+1:=by
       rcases mem_cons.1 hD with rfl | hD
       ·omega
       ·have:=aL D hD;omega
      have hzw:=hs.ext.size;rcases mem_cons.1 hD with rfl | hD
      ·exact⟨Z,(d3.ext g2).side (World.putObj_heap_other cf)⟩
      ·exact⟨(e3 D hD).1,((e3 D hD).2.ext x4).side (World.putObj_heap_other cf)⟩
 | _=>intro Y B w0 σ0 M0 nx0 hY hB K s a w σ h;exact h.elim
theorem ar.bodyR (hp:P.follows .mixedOrders=true) (j9:ρ.det=false) {c:Code} {R:ew->Prop} (hf:P.funcs[g]?=some fn) (hn:(fn.name == "runtime.NumGoroutine")=false) (hb:fn.body=some c)
 (h:qD P ρ (args.length+(fn.ntmps - args.length)) none c (vA P fn.results.toList R) ⟨cz args 0 .nil,M,nx⟩):ar P ρ g args M nx R:=by
 refine⟨?_,fun hd=>by rw[j9]at hd;cases hd⟩;intro w σ vs aQ f8 aX o a K Q hK;have gy:(callFunc g vs.toArray).run P w = .ok (.enter g vs.toArray) w:=by
  simp only[callFunc,Sem.run_bind,run_program,Result.andThen_ok,hf,hn,hb,isNone_some,Bool.false_eq_true,if_false,Sem.run_pure]
 rw[gy];show Calls P g vs.toArray w _;refine(callsIn_wide (n:=0)).1 ?_;refine callsIn_of_wp_marks (F:=FW none) hf hb (jh none _) ?_;refine He hp c none w.heap.size w σ M nx trivial (Nat.le_refl _) _ _ _ w σ h (qk aQ f8 aX) _ fun e s' a' w' σ' Ml kU=>?_
 have fin:(∃vs,cB P s' fn.results.toList=some vs/\R (cR vs,s'.M,s'.nx))->LeavesInM (FW none) 0 P fn a'.tmps (fun
  | .returned v,w''=>K (a.put o.dst v) w''
  | .panicked chain,w''=>Q (.panic chain) a w''
  | .outgrown,_=>LetsOut Q) a'.defers .returning w':=by
  rintro⟨vs',CR,hR⟩;exact ue kU f8 CR fun v w'' σ'' q1 q2 q3 q4 q5=>hK v w'' ⟨_,hR,σ'',q1,q2,q3,q4,q5⟩
 cases e with
 | normal=>exact fin Ml
 | ret=>exact fin Ml
 | exit id=>exact Ml.elim
theorem OQ.body (hp:P.follows .mixedOrders=true) {c:Code} {Y:Nat×YW} {R:Hp->Nat->Prop} (hf:P.funcs[g]?=some fn) (hn:(fn.name == "runtime.NumGoroutine")=false) (hb:fn.body=some c) (hr:fn.results.toList=[])
 (h:qD P ρ (args.length+(fn.ntmps - args.length)) (some Y) c (fun e s=>(∀id,e ≠ .exit id)/\R s.M s.nx) ⟨cz args 0 .nil,M,nx⟩):OQ P ρ g args Y M nx R:=by
 intro w σ vs aQ f8 aX hY;refine⟨⟨fn,c,hf,hb,hn⟩,?_⟩;refine callsIn_of_wp_marks (F:=FW none) hf hb (jh none _) ?_;refine He hp c (some Y) w.heap.size w σ M nx hY (Nat.le_refl _) _ _ _ w σ h (qk aQ f8 aX) _ fun e s' a' w' σ' ⟨h1,h2⟩ kU=>?_
 have fin:LeavesInM (FW none) 0 P fn a'.tmps (fun e w'=>(∃v,e = .returned v)/\∃M' nx',R M' nx'/\∃σ',Ok ρ w' σ' M'/\zN w σ M w' σ' M'/\nx<=nx'/\∀k,σ' k=σ k\/(nx<=k/\k<nx')) a'.defers .returning w' :=
  ue (vs:=[]) kU f8 (by rw[hr];rfl) fun v w'' σ'' _ q2 q3 q4 q5=>⟨⟨v,rfl⟩,_,_,h2,σ'',q2,q3,q4,q5⟩
 cases e with
 | normal=>exact fin
 | ret=>exact fin
 | exit id=>exact(h1 id rfl).elim
end
end
end Go.Xs
namespace Go.Xs
open List Nat Option
variable{K:bg->XS->Prop}{Y:Option (Nat×YW)}{after:Array Edge}{args:List XV}{clock g id k key m:Nat}{fn:Func}{pos:String}{s:XS}{ty:TypeId}{Γ:cc}
noncomputable section
variable {P:Program} {ρ:aK} {n:Nat} {env:eX} {M:Hp} {nx:Nat} {all os:List Oper} {F:XS->Prop} {d:Option Nat}
def NX (P:Program) (ρ:aK) (n:Nat) (all os:List Oper) (env:eX) (M:Hp) (nx:Nat) (d:Option Nat) (F:XS->Prop) (x:XV):Prop :=
 ρ.det=false/\∃L,wE M x=some L/\∀e ∈ L,aN P ρ n all os env d F (e.val,aY M e.upd,nx+1)
theorem qv (it:Operand) :
 RN P ρ n all (⟨d,.next it false,ty,pos,after,none⟩::os) ⟨env,M,nx⟩ F=NX P ρ n all os env M nx d F (cG env it):=by
 refine propext ?_;unfold RN;simp only[a_];constructor
 ·rintro(⟨e,he,_⟩ | ⟨c',g,args,R,df,_⟩ | ⟨c',g,args,e,hi,df,_⟩ | ⟨it',L,h0,df,hL,hK⟩)
  ·simp[cY]at he
  ·cases df
  ·cases df
  ·cases df;exact⟨h0,L,hL,hK⟩
 ·rintro⟨h0,L,hL,hK⟩
  exact .inr (.inr (.inr ⟨it,L,h0,rfl,hL,hK⟩))
theorem s6 (t:Nat) (x:Operand):cY P Γ env M key (.range t x)=me P M key t (cG env x):=rfl
theorem yA (x:Operand):cY P Γ env M key (.entry x)=i7 M (cG env x):=rfl
def Xn (key m:Nat):NT->Option bx->Option bZ
 | .mp,some (.map _ clock)=>some ⟨.mp key 0,[m],[(key,some (.iter (some m) clock [] clock))]⟩
 | _,_=>none
theorem pP {t:Nat}:me P M key t (.mm m)=Xn key m (nt P t) (gG M m):=by
 unfold me Xn nt;cases hu:P.underlying t with
 | none=>rfl
 | some d =>
   cases d<;>first | rfl | skip
   simp only;cases gG M m with
   | none=>rfl
   | some o=>cases o<;>rfl
theorem tf {es:List (Nat×XV×XV)}:Xn key m .mp (some (.map es clock))=some ⟨.mp key 0,[m],[(key,some (.iter (some m) clock [] clock))]⟩:=rfl
variable {β:Type} {vf:β->XV} {l:List (Nat×Int×β)}
theorem tX (seen:List Nat):∀(l:List (Nat×Int×β)),nz seen (cx vf l)=cx vf (l.filter fun e=>decide (e.1 ∉ seen))
 | []=>rfl
 | e::l=>by
   have ih:=tX seen l;simp only[cx,map_cons,nz]at ih ⊢;by_cases h:e.1 ∈ seen
   ·rw[(eg seen e.1).2 h]
    simp only[h,not_true_eq_false,decide_false,filter_cons_of_neg,Bool.false_eq_true,not_false_eq_true];exact ih
   ·have:db seen e.1=false:=by
     cases hb:db seen e.1 with
     | false=>rfl
     | true=>exact(h ((eg seen e.1).1 hb)).elim
    rw[this];simp only[h,not_false_eq_true,decide_true,filter_cons_of_pos,map_cons];rw[ih]
theorem Cf (j9:ρ.det=false) {since st:Nat} {seen:List Nat} (hk:gG M k=some (.iter (some m) since seen st)) (hm:gG M m=some (.map (cx vf l) clock))
 (hl:∀e ∈ l,e.1<since) (h1:since<=st) (h2:since<=clock)
 (qy:(∀e ∈ l,e.1 ∈ seen)->aN P ρ n all os env d F (.tup [.bool false],M,nx+1))
 (hgo:∀e ∈ l,e.1 ∉ seen->aN P ρ n all os env d F (.tup [.bool true,.int .u64 e.2.1,vf e.2.2],ci M k (.iter (some m) since (seen++[e.1]) clock),nx+1)):NX P ρ n all os env M nx d F (.mp k 0):=by
 have ha:(cx vf l).all (fun e=>Nat.blt e.1 since)=true:=by
  simp only[cx,List.all_map,List.all_eq_true];intro e he;rw[Function.comp_apply,blt_eq];exact hl e he
 have hb:Nat.ble since st=true:=by rw[ble_eq];exact h1
 have hc:Nat.ble since clock=true:=by rw[ble_eq];exact h2
 refine⟨j9,?_⟩;unfold wE;simp only[hk,hm,ha,hb,hc,tX];cases hf:l.filter (fun e=>decide (e.1 ∉ seen)) with
 | nil =>
   refine⟨_,rfl,fun e he=>?_⟩;rw[mem_singleton]at he;subst he;refine qy fun e he=>?_
   rw[filter_eq_nil_iff]at hf;have:=hf e he;simpa using this
 | cons a r =>
   refine⟨_,rfl,fun e he=>?_⟩;simp only[cx,map_cons,mem_cons,mem_map]at he;have key:∀x ∈ a::r,aN P ρ n all os env d F (.tup [.bool true,.int .u64 x.2.1,vf x.2.2],ci M k (.iter (some m) since (seen++[x.1]) clock),nx+1):=fun x hx=>by
    rw[<-hf,mem_filter]at hx;exact hgo x hx.1 (by simpa using hx.2)
   rcases he with rfl | ⟨y,⟨x,hx,rfl⟩,rfl⟩
   ·exact key a mem_cons_self
   ·exact key x (mem_cons_of_mem _ hx)
theorem tY:∀(l:List Nat) (b:Nat),zH (l++[b])=some b
 | [],b=>rfl
 | [a],b=>rfl
 | a::c::l,b=>by
   have:=tY (c::l) b;simp only[cons_append]at this ⊢;exact this
theorem ut:∀{l:List (Nat×Int×β)},(l.map (·.1)).Nodup->∀e ∈ l,Dz e.1 (cx vf l)=some (.int .u64 e.2.1,vf e.2.2)
 | [],_,e,he=>by cases he
 | a::l,hn,e,he=>by
   simp only[cx,map_cons,Dz];rw[map_cons,nodup_cons]at hn;rcases mem_cons.1 he with rfl | he
   ·rw[beq_refl]
   ·have:Nat.beq a.1 e.1=false:=by
     cases hb:Nat.beq a.1 e.1 with
     | false=>rfl
     | true=>exact(hn.1 (by rw[eq_of_beq_eq_true hb];exact mem_map.2 ⟨e,he,rfl⟩)).elim
    rw[this];exact ut hn.2 e he
theorem rj {since:Nat} {seen:List Nat} {e:Nat×Int×β} (hk:gG M k=some (.iter (some m) since (seen++[e.1]) clock)) (hm:gG M m=some (.map (cx vf l) clock)) (hn:(l.map (·.1)).Nodup) (he:e ∈ l) :
 i7 M (.mp k 0)=some ⟨.tup [.int .u64 e.2.1,vf e.2.2],[k,m],[]⟩:=by
 unfold i7;simp only[hk,hm,tY,beq_refl,ut hn e he]
theorem ar.walkR (hp:P.follows .mixedOrders=true) (j9:ρ.det=false) {c:Code} {rs:List ResultVar} {R:ew->Prop} (hf:P.funcs[g]?=some fn) (hn:(fn.name == "runtime.NumGoroutine")=false) (hb:fn.body=some c) (hm:args.length+(fn.ntmps - args.length)=m) (hr:fn.results.toList=rs)
 (h:qD P ρ m none c (vA P rs R) ⟨cz args 0 .nil,M,nx⟩):ar P ρ g args M nx R:=by
 subst hm hr;exact ar.bodyR hp j9 hf hn hb h
theorem OQ.walk (hp:P.follows .mixedOrders=true) {c:Code} {Y:Nat×YW} {R:Hp->Nat->Prop} (hf:P.funcs[g]?=some fn) (hn:(fn.name == "runtime.NumGoroutine")=false) (hb:fn.body=some c) (hr:fn.results.toList=[]) (hm:args.length+(fn.ntmps - args.length)=m)
 (h:qD P ρ m (some Y) c (fun e s=>(∀id,e ≠ .exit id)/\R s.M s.nx) ⟨cz args 0 .nil,M,nx⟩):OQ P ρ g args Y M nx R:=by
 subst hm;exact OQ.body hp hf hn hb hr h
theorem iX (f:XS->Prop) (K:bg->XS->Prop) (s:XS):fx f K .normal s=f s:=rfl
theorem Qc (f:XS->Prop) (K:bg->XS->Prop) (i:Nat) (s:XS):fx f K (.exit i) s=K (.exit i) s:=rfl
theorem Df (I:Nat->XS->Prop) (k:Nat) (K:bg->XS->Prop) (s:XS):w_ I k K .normal s = ∃j,j<k/\I j s:=rfl
theorem LC (I:Nat->XS->Prop) (k:Nat) (K:bg->XS->Prop) (i:Nat) (s:XS):w_ I k K (.exit i) s=K (.exit i) s:=rfl
theorem Nf (i:Nat):Cj i .normal = .normal:=rfl
theorem Tk (i:Nat):Cj i (.exit i) = .normal:=by simp[Cj]
theorem FD {H:YW} {c:Call} {Q:XS->Prop} (hy:EU env c=some (k,args))
 (h:H args M nx fun M' nx'=>∃be,cu n env d (.bool true)=some be/\FT P ρ n (some (k,H)) all os ⟨be,M',nx'⟩ Q):FT P ρ n (some (k,H)) all (⟨d,.call c,ty,pos,after,none⟩::os) ⟨env,M,nx⟩ Q:=by
 unfold FT;simp only[a_];exact .inr ⟨c,k,H,args,rfl,rfl,hy,h⟩
theorem Pw {l:List Oper} (h:FT P ρ n Y l l s (K .normal)):qD P ρ n Y (.region id l.toArray false) K s:=h
theorem EA {asg body:Code} {ps:List Nat} {e0 be:eX} {Q:Hp->Nat->Prop} (hp:qj m ps args e0=some be)
 (h:W P ρ m asg [] (fun e s=>e = .normal/\W P ρ m body [] (fun e s'=>e = .normal/\Q s'.M s'.nx) s) ⟨be,M,nx⟩):xB P ρ m asg body ps e0 args M nx Q:=⟨be,hp,h⟩
theorem po {x y:Code} (h:W P ρ n x [] (fx (qD P ρ n Y y K) K) s):qD P ρ n Y (.seq x y) K s:=Ix x _ s h
theorem CY {x y:Code} (h:qD P ρ n Y x (fx (qD P ρ n Y y K) K) s):qD P ρ n Y (.seq x y) K s:=h
theorem Iy {x:Code} (h:W P ρ n x [] K s):qD P ρ n Y x K s:=Ix x _ s h
theorem Cm {x:Code} (h:qD P ρ n Y x (fun e s'=>K (Cj id e) s') s):qD P ρ n Y (.block id x) K s:=h
theorem Hn {c:Code} (I:Nat->XS->Prop) (k:Nat) (h0:I k s) (h:∀k s',I k s'->qD P ρ n Y c (w_ I k K) s'):qD P ρ n Y (.loop c) K s:=⟨I,⟨k,h0⟩,h⟩
end
end Go.Xs
namespace Go.Xs
open List Nat Option
noncomputable section
open Classical
theorem fg {α:Type} {f:α->List XV} {sz:Nat} (hf:∀a,(f a).length=sz):∀(l:List α),(l.flatMap f).length=l.length*sz
 | []=>ae
 | a::l=>by rw[flatMap_cons,length_append,hf,fg hf l,length_cons];rw[Nat.add_mul];omega
theorem wY:∀(xs ys:List XV) (k:Nat) (vs:List XV),bp (xs++ys) (xs.length+k) vs=xs++bp ys k vs
 | [],ys,k,vs=>ae
 | c::xs,ys,k,vs=>by
   rw[cons_append,length_cons,show xs.length+1+k=(xs.length+k)+1 by omega,cons_append];simp only[bp];rw[wY xs ys k vs]
theorem nC {α:Type} {f:α->List XV} {g:α->α} {sz o:Nat} {vs:List XV} (hf:∀a,(f a).length=sz) (ho:o+vs.length<=sz):∀(l:List α) (i:Nat),i<l.length->(∀a,l[i]?=some a->f (g a)=bp (f a) o vs)->(l.modify i g).flatMap f=bp (l.flatMap f) (i*sz+o) vs
 | [],i,h,_=>by simp at h
 | a::l,0,_,hg=>by
   have h1:=hg a rfl;have:=hf a;rw[modify_zero_cons,flatMap_cons,flatMap_cons,h1,Nat.zero_mul,Nat.zero_add];rw[fa _ _ _ Z,fa _ _ _ (by rw[length_append];omega),take_append_of_le_length Z,drop_append_of_le_length Z];simp
 | a::l,i+1,h,hg=>by
   have h0:=hf a;have hl:i<l.length:=by simpa using h
   have ih:=nC (g:=g) (vs:=vs) hf ho l i hl (fun b hb=>hg b (by simpa using hb));rw[modify_succ_cons,flatMap_cons,flatMap_cons,ih,show (i+1)*sz+o=(f a).length+(i*sz+o) by rw[h0,Nat.add_mul];omega,wY]
def HS.wr (S:HS) (n:Nat) (cr:List XV):HS:={ S with nrec:=n,crec:=cr }
def fJ (P:Nat->Prop) (l:List fS):List fS:=l.mapIdx fun j m=>{ m with fin:=m.fin||decide (P j) }
def xx (len:Int) (i:Nat) (l:List ku):List ku:=l.mapIdx fun k a=>if k<i/\a.s=3 then { a with e:=len } else a
def HS.done (S:HS) (len:Int) (i:Nat) (P:Nat->Prop):HS:={ S with txs:=xx len i S.txs,mods:=fJ P S.mods }
theorem im (P:Nat->Prop) (l:List fS):(fJ P l).length=l.length:=by simp[fJ]
theorem rp (len:Int) (i:Nat) (l:List ku):(xx len i l).length=l.length:=by simp[xx]
theorem ie (P:Nat->Prop) (l:List fS) (j:Nat):(fJ P l)[j]?=(l[j]?).map fun m=>{ m with fin:=m.fin||decide (P j) }:=by simp[fJ]
theorem fw (len:Int) (i:Nat) (l:List ku) (k:Nat):(xx len i l)[k]?=(l[k]?).map fun a=>if k<i/\a.s=3 then { a with e:=len } else a:=by simp[xx]
theorem Br (l:List fS):fJ (fun _=>False) l=l:=by
 refine ext_getElem? fun j=>?_
 rw[ie];cases l[j]? <;> simp
theorem ki {P Q:Nat->Prop} (h:∀j,P j ↔ Q j) (l:List fS):fJ P l=fJ Q l:=by
 have:P=Q:=funext fun j=>propext (h j)
 rw[this]
theorem BS (len:Int) (l:List ku):xx len 0 l=l:=by
 refine ext_getElem? fun j=>?_
 rw[fw];cases l[j]? <;> simp
theorem EX (P:Nat->Prop) (l:List fS) (j0:Nat):fJ (fun j=>P j\/j=j0) l=(fJ P l).modify j0 fun m=>{ m with fin:=true }:=by
 refine ext_getElem? fun j=>?_
 rw[ie,getElem?_modify,ie];by_cases h:j=j0
 ·subst h
  cases l[j]? <;> simp
 ·have h':¬ j0=j:=fun e=>h e.symm
  cases l[j]? <;> simp[h,h']
theorem tU (len:Int) (i:Nat) (l:List ku):xx len (i+1) l=(xx len i l).modify i fun a=>if a.s=3 then { a with e:=len } else a:=by
 refine ext_getElem? fun k=>?_
 rw[fw,getElem?_modify,fw];by_cases h:k=i
 ·subst h
  cases l[k]? with
  | none=>rfl
  | some a=>simp
 ·have h':¬ i=k:=fun e=>h e.symm
  cases l[k]? with
  | none=>rfl
  | some a =>
    have:(k<i+1) ↔ k<i:=Z;simp[this,h']
theorem KO (P:Nat->Prop) (l:List fS) {j0:Nat} (h:j0<l.length):(fJ (fun j=>P j\/j=j0) l).flatMap cO=bp ((fJ P l).flatMap cO) (j0*8+7) [.bool true]:=by
 rw[EX];exact nC (f:=cO) (g:=fun m=>{ m with fin:=true }) (sz:=8) (o:=7) (vs:=[.bool true]) (fun a=>rfl) af (fJ P l) j0 (by rw[im];exact h) fun a _=>rfl
section
variable {M M' N:Hp} {lo hi hi' h:Nat} {S:HS} {tag tag':Nat->Hg} {vrec vtxs vcom vmods vlook:XV} {nk vk ok cn cv co:Nat} {ptrs:List XV} {lnum:List (Nat×Int×Int)} {lver:List (Nat×List Int×Int)} {lobj:List (Nat×Int×Int)}
theorem eM.setMods {ms:List fS} (H:eM M lo hi h S tag vrec vtxs vcom vmods vlook nk vk ok cn cv co ptrs lnum lver lobj)
 (keep:∀q,q<hi->tag q ≠ .mods->gG M' q=gG M q) (mods:bS M' lo hi tag .mods vmods 8 ms.length (ms.flatMap cO)) :
 eM M' lo hi h { S with mods:=ms } tag vrec vtxs vcom vmods vlook nk vk ok cn cv co ptrs lnum lver lobj:=by
 have kk:∀tg:Hg,tg ≠ .mods->∀k,k<hi->tag k=tg->gG M' k=gG M k/\tag k=tg:=fun tg hc k hk hg=>⟨keep k hk (by rw[hg];exact hc),hg⟩
 exact {
  lo_h:=H.lo_h,h_hi:=H.h_hi,tg:=H.tg,row:=by rw[(kk _ ae h H.h_hi H.tg).1];exact H.row
  recs:=H.recs.keep (kk _ ae) (Nat.le_refl _),txs:=H.txs.keep (kk _ ae) (Nat.le_refl _)
  known:=fun i b hb=>by
   obtain⟨v,h1,h2⟩:=H.known i b hb;exact⟨v,h1,h2.keep (fun k hk hg=>⟨keep k hk (by rcases hg with q | q | ⟨x,q⟩<;>rw[q]<;>simp),rfl⟩) (Nat.le_refl _)⟩
  nlo:=H.nlo,nhi:=H.nhi,ntg:=H.ntg,num:=by rw[(kk _ ae nk H.nhi H.ntg).1];exact H.num,numS:=H.numS
  com:=H.com.keep (kk _ ae) (Nat.le_refl _),mods:=mods
  vlo:=H.vlo,vhi:=H.vhi,vtg:=H.vtg,ver:=by rw[(kk _ ae vk H.vhi H.vtg).1];exact H.ver,vrow:=H.vrow,verS:=H.verS
  looks:=H.looks.keep (kk _ ae) (Nat.le_refl _)
  olo:=H.olo,ohi:=H.ohi,otg:=H.otg,obj:=by rw[(kk _ ae ok H.ohi H.otg).1];exact H.obj,objS:=H.objS }
theorem eM.setTx {ts:List ku} {i rk mk:Nat} {a a':ku} (H:eM M lo hi h S tag vrec vtxs vcom vmods vlook nk vk ok cn cv co ptrs lnum lver lobj) (hi':ts.length=S.txs.length) (hts:∀j,j≠i->ts[j]?=S.txs[j]?) (VS:ts[i]?=some a')
 (Gr:tag rk = .known i) (hv:ptrs[i]?=some (.mp rk 0)) (Qx:S.txs[i]?=some a) (hm:gG M rk=some (.row (d_ a++[.mm mk])))
 (keep:∀q,q<hi->q≠rk->gG M' q=gG M q) (bA:gG M' rk=some (.row (d_ a'++[.mm mk]))) :
 eM M' lo hi h { S with txs:=ts } tag vrec vtxs vcom vmods vlook nk vk ok cn cv co ptrs lnum lver lobj:=by
 have kk:∀tg:Hg,tg ≠ .known i->∀k,k<hi->tag k=tg->gG M' k=gG M k/\tag k=tg:=fun tg hc k hk hg=>⟨keep k hk (fun e=>hc (by rw[<-hg,e];exact Gr)),hg⟩
 exact {
  lo_h:=H.lo_h,h_hi:=H.h_hi,tg:=H.tg,row:=by rw[(kk _ ae h H.h_hi H.tg).1];exact H.row
  recs:=H.recs.keep (kk _ ae) (Nat.le_refl _),txs:=by rw[show ({ S with txs:=ts }:HS).txs.length=S.txs.length from hi'];exact H.txs.keep (kk _ ae) (Nat.le_refl _)
  known:=fun j b hb=>by
   by_cases hj:j=i
   ·subst hj
    have rA:a'=b:=by
     have:ts[j]?=some b:=hb;rw[VS]at this;cases this;rfl
    subst rA;obtain⟨v,h1,rk2,mk2,c,lm,e1,e2,e3,e4,e5,e6,e7,e8,e9,dx,kW⟩:=H.known j a Qx;rw[hv]at h1;cases h1;cases e1;rw[hm]at e5;have emk:mk=mk2:=by
     simp only[Option.some.injEq,bx.row.injEq,append_cancel_left_eq,List.cons.injEq,XV.mm.injEq,and_true]at e5;exact e5
    subst emk;exact⟨_,hv,rk,mk,c,lm,rfl,e2,e3,e4,bA,e6,e7,e8,by rw[(kk _ ae mk e7 e8).1];exact e9,dx,fun x v hx=>⟨(kW x v hx).1,(kW x v hx).2.keep (kk _ ae) (Nat.le_refl _)⟩⟩
   ·obtain⟨v,h1,h2⟩:=H.known j b (by have:ts[j]?=some b:=hb;rw[hts j hj]at this;exact this)
    exact⟨v,h1,h2.keep (fun k hk hg=>⟨keep k hk (fun e=>by subst e;rw[Gr]at hg;rcases hg with q | q | ⟨x,q⟩<;>simp at q;exact hj q.symm),rfl⟩) (Nat.le_refl _)⟩
  nlo:=H.nlo,nhi:=H.nhi,ntg:=H.ntg,num:=by rw[(kk _ ae nk H.nhi H.ntg).1];exact H.num,numS:=H.numS
  com:=H.com.keep (kk _ ae) (Nat.le_refl _),mods:=H.mods.keep (kk _ ae) (Nat.le_refl _)
  vlo:=H.vlo,vhi:=H.vhi,vtg:=H.vtg,ver:=by rw[(kk _ ae vk H.vhi H.vtg).1];exact H.ver,vrow:=H.vrow,verS:=H.verS
  looks:=H.looks.keep (kk _ ae) (Nat.le_refl _)
  olo:=H.olo,ohi:=H.ohi,otg:=H.otg,obj:=by rw[(kk _ ae ok H.ohi H.otg).1];exact H.obj,objS:=H.objS }
end
theorem zl {M N:Hp} {nx:Nat} (mu:Mu N M) (lt:∀k o,gG N k=some o->k<nx) {k:Nat} (hk:k<nx) (hN:gG N k≠none) {x:bx} (hx:kF x=true) {M':Hp} (h1:gG M' k=some x) (h2:∀j,j<nx->j≠k->gG M' j=gG M j) :
 Mu (ci N k x) M'/\(∀j o,gG (ci N k x) j=some o->j<nx)/\gM nx N M (ci N k x) M':=by
 refine⟨fun j o ho=>?_,fun j o ho=>?_,fun j z j1 j2 j3=>?_⟩
 ·rw[ao]at ho
  split at ho
  ·rename_i e;subst e;cases ho;exact⟨h1,hx⟩
  ·rename_i e
   obtain⟨q1,q2⟩:=mu j o ho;exact⟨by rw[h2 j (lt j o ho) (fun q=>e q.symm)];exact q1,q2⟩
 ·rw[ao]at ho
  split at ho
  ·rename_i e;subst e;exact hk
  ·exact lt j o ho
 ·have:k≠j:=fun e=>hN (by rw[e];exact j2)
  exact⟨by rw[h2 j j1 (fun q=>this q.symm)];exact j3,by rw[ao,if_neg this];exact j2⟩
end
end Go.Xs
namespace Go.Xs
open List Nat Option
variable{M:Hp}{b nx o:Nat}{f:Int->Option (List bO)}{v:XV}
noncomputable section
open Go.Proofs
def Hl (M:Hp) (b nx n':Nat) (v:XV) (l:List bO):Prop:=∃rk sv,v = .mp rk 0/\(rk<b\/nx<=rk)/\rk<n'/\gG M rk=some (.row [sv])/\bE M b sv 4 l.length (l.flatMap aV)
theorem bE.up {b':Nat} {sz len:Nat} {row:List XV} (h:bE M b v sz len row) (hb:b<=b'):bE M b' v sz len row :=
 dN.lt ((bE.pp h).keep fun k hk=>⟨rfl,Nat.lt_of_lt_of_le hk hb⟩)
theorem Hl.at {n':Nat} {l:List bO} (h:Hl M b nx n' v l) (hb:b<=n'):kn M n' v l:=by
 obtain⟨rk,sv,h1,h2,h3,h4,h5⟩:=h;exact⟨rk,sv,h1,h3,h4,h5.up hb⟩
theorem zi (ρ:aK) (h:ey M b o f) (hb:b<=nx) (x:Int):ar am ρ 54 [.mp o 0,.int .u64 x] M nx fun r=>Hl r.2.1 b nx r.2.2 r.1 ((f x).getD [])/\aq nx M r.2.1/\nx<=r.2.2:=by
 obtain⟨ho,rm,c,l,h1,h2,h3,h4,h5⟩:=h;refine ar.wk 24 [.tmp 4] Tryz.func54 ?_;cases hx:aH l x with
 | none =>
   refine jz HB h1 h3 hx ?_;refine⟨⟨_,.nils,rfl,.inr Z,Z,by rw[ao,if_pos rfl],?_⟩,(aq.refl _ _).set Z _,Z⟩;rw[h4 x hx];exact⟨ae,.inl ⟨rfl,rfl,rfl⟩⟩
 | some v =>
   obtain⟨ins,h6,rk,sv,rfl,h8,h9,Gf⟩:=h5 x v hx;refine jz HB h1 h3 hx ?_;refine⟨⟨rk,sv,rfl,.inl h8,Z,h9,?_⟩,aq.refl _ _,Z⟩;rw[h6];exact Gf
def Bm:bO:=⟨0,0,0,0⟩
def mC (l:List bO) (w n:Int):Int×Bool:=if (ba l w n).2=false\/(ba l w n).1=0 then (0,false) else ((l[((ba l w n).1 - 1).toNat]?.getD Bm).wr,true)
theorem jt (l:List bO) (w n:Int):0<=(ba l w n).1/\(ba l w n).1<=l.length:=by
 unfold ba;split
 ·simp
 ·have:=ta (gi w n) l 0
  simp only;omega
theorem yU (ρ:aK) (h:ey M b o f) (hb:b<=nx) (x w n:Int) :
 ar am ρ 19 [.mp o 0,.int .u64 x,.agg [.int .u64 w,.int .u64 n]] M nx (fe nx M (.tup [.int .i64 (mC ((f x).getD []) w n).1,.bool (mC ((f x).getD []) w n).2])):=by
 refine ar.wk 38 [.tmp 6,.tmp 7] Tryz.func19 ?_;refine dt sG ?_;generalize xu:ci M nx _=M1;have a1:aq nx M M1:=by rw[<-xu];exact O
 have z1:gG M1 nx=some (.row [.int .u64 w,.int .u64 n]):=by rw[<-xu];exact J
 clear xu;refine gQ (zi ρ (h.agr (a1.le hb)) Z x) ?_;rintro⟨u,M2,n2⟩ ⟨g1,g2,g3⟩;simp only at g1 g2 g3;have a2:aq nx M M2:=a1.trans (g2.le Z);have z2:=(g2 nx Z).trans z1;obtain⟨l,hl⟩:∃l,l=(f x).getD []:=⟨_,rfl⟩;rw[<-hl]at g1 ⊢;have DX:=g1.at Z;obtain⟨rk,sv,e1,e0,e2,e3,e4⟩:=g1;subst e1;clear g2 h;refine fM sG z2 ?_;refine lL (Nl ρ DX Z w n) af ?_ ?_
 ·refine dt sG ?_;try exact⟨⟩
 rintro⟨u,M3,n3⟩ ⟨k1,k2,k3⟩;simp only at k1 k2 k3;subst k1;have a3:=a2.trans (k2.le Z);have y3:=(k2 rk Z).trans e3;have JZ:=jt l w n;have hz:=e4.1;cases uW:(ba l w n).2 with
 | false =>
   refine gk sG uW @fe.eq_1 ?_;exact⟨by simp[mC,uW],a3,Z⟩
 | true =>
   by_cases sV:(ba l w n).1=0
   ·refine jz sG uW sV @fe.eq_1 ?_
    exact⟨by simp[mC,sV],a3,Z⟩
   ·have uT:((ba l w n).1 - 1).toNat<l.length:=Z
    obtain⟨e,gA⟩:∃e,l[((ba l w n).1 - 1).toNat]?=some e:=⟨l[((ba l w n).1 - 1).toNat],by simp[uT]⟩;have hw:IntKind.i64.wrap ((ba l w n).1 - 1)=((((ba l w n).1 - 1).toNat:Nat):Int):=by rw[wrap_i64 Z Z];omega
    obtain⟨q,o,Oc,bC,aU⟩:=e4.fldG (P:=am) uT (t:=100) cU.2.2.2.1;have aU:=aU 2 (.int .i64 e.wr) Z (by rw[jr l _ e gA];rfl) 3 1 dA.1 M3 (k2.le Z);refine oq sG uW sV y3 hw bC aU @fe.eq_1 ?_;refine⟨?_,a3,Z⟩;unfold mC;rw[if_neg (by simp[uW,sV]),gA];rfl
def jQ (l:List bO) (w n:Int):bO×Bool:=if (ba l w n).2=false\/(ba l w n).1=l.length then (Bm,false) else (l[(ba l w n).1.toNat]?.getD Bm,true)
theorem qH (ρ:aK) (h:ey M b o f) (hb:b<=nx) (x w n:Int) :
 ar am ρ 17 [.mp o 0,.int .u64 x,.agg [.int .u64 w,.int .u64 n]] M nx (fe nx M (.tup [.agg [.int .u64 (jQ ((f x).getD []) w n).1.w,.int .u64 (jQ ((f x).getD []) w n).1.n],.int .i64 (jQ ((f x).getD []) w n).1.wr,.bool (jQ ((f x).getD []) w n).2])):=by
 refine ar.wk 54 [.cell 6 25,.tmp 7,.tmp 8] Tryz.func17 ?_;refine dt sG ?_;generalize xu:ci (ci M nx _) _ _=M1;have a1:aq nx M M1:=by rw[<-xu];exact O
 have z1:gG M1 nx=some (.row [.int .u64 w,.int .u64 n]):=by rw[<-xu];exact J
 have z0:gG M1 (nx+1)=some (.row [.int .u64 0,.int .u64 0]):=by rw[<-xu];exact J
 clear xu;refine gQ (zi ρ (h.agr (a1.le hb)) Z x) ?_;rintro⟨u,M2,n2⟩ ⟨g1,g2,g3⟩;simp only at g1 g2 g3;have a2:aq nx M M2:=a1.trans (g2.le Z);have z2:=(g2 nx Z).trans z1;have z3:=(g2 (nx+1) Z).trans z0;obtain⟨l,hl⟩:∃l,l=(f x).getD []:=⟨_,rfl⟩;rw[<-hl]at g1 ⊢;have DX:=g1.at Z;obtain⟨rk,sv,e1,e0,e2,e3,e4⟩:=g1;subst e1;clear g2 h;refine fM sG z2 ?_;refine lL (Nl ρ DX Z w n) af ?_ ?_
 ·refine dt sG ?_;try exact⟨⟩
 rintro⟨u,M3,n3⟩ ⟨k1,k2,k3⟩;simp only at k1 k2 k3;subst k1;have a3:=a2.trans (k2.le Z);have y3:=(k2 rk Z).trans e3;have y0:=(k2 (nx+1) Z).trans z3;have JZ:=jt l w n;have hz:=e4.1;have ay:=fun N=>e4.len (P:=am) (t:=100) cU.2.2.2.2.2 N
 cases uW:(ba l w n).2 with
 | false =>
   refine jz sG uW y0 @fe.eq_1 ?_;exact⟨by simp[jQ,uW,Bm],(by(repeat (refine aq.set ?_ Z _));exact a3),Z⟩
 | true =>
   by_cases sV:(ba l w n).1=(l.length:Int)
   ·refine ky sG uW sV y0 y3 ay @fe.eq_1 ?_
    exact⟨by simp[jQ,sV,Bm],(by(repeat (refine aq.set ?_ Z _));exact a3),Z⟩
   ·have uT:(ba l w n).1.toNat<l.length:=Z
    obtain⟨e,gA⟩:∃e,l[(ba l w n).1.toNat]?=some e:=⟨l[(ba l w n).1.toNat],by simp[uT]⟩;obtain⟨j,hj⟩:∃j:Nat,(ba l w n).1=(j:Int):=⟨(ba l w n).1.toNat,Z⟩;have hjt:(ba l w n).1.toNat=j:=Z;rw[hjt]at uT gA;obtain⟨q,o,Oc,bC,cs,dI,bA,jT⟩:=e4.at (P:=am) uT (t:=100) cU.2.2.2.1;rw[jr l j e gA]at bA;have Uh:=lR dI (k2.le Z) Oc;have aU:∀N,aq b M3 N->b_ am N 25 (.mp q o)=some ⟨.agg [.int .u64 e.w,.int .u64 e.n],[q],[]⟩:=fun N hN=>by
     rw[fG (lR Uh hN Z) dc.1 Z];have:(cs.drop o).take 2=((cs.drop o).take 4).take 2:=by rw[take_take];rfl
     rw[this,<-bA];rfl
    have VF:=aU M3 (aq.refl _ _);have Gn:b_ am M3 3 (.mp q (o+2))=some ⟨.int .i64 e.wr,[q],[]⟩:=by
     refine dB Uh dA.1 ?_;have:((cs.drop o).take 4)[2]?=some (.int .i64 e.wr):=by rw[<-bA];rfl
     rw[getElem?_take,if_pos Z,getElem?_drop]at this;exact this
    have hnj:¬ (j:Int)=(l.length:Int):=Z;refine zQ sG uW hj hnj y0 y3 ay bC VF Gn @fe.eq_1 ?_;refine⟨by(repeat' apply an)<;>exact yj,?_,(by(repeat (refine aq.set ?_ Z _));exact a3),Z⟩;have VK:jQ l w n=(e,true):=by
     unfold jQ;rw[if_neg (by rw[uW,hj];simp;omega),hjt,gA];rfl
    rw[VK]
end
end Go.Xs
namespace Go.Xs
open List Nat Option
variable{M:Hp}{b nx o:Nat}{f:Int->Option (List bO)}
noncomputable section
open Go.Proofs
def BF (e:bO):List XV:=[.int .u64 e.w,.int .u64 e.n]
theorem qO {α:Type} {f:α->List XV} {l:List α} {i:Nat} {e:α} (h:l[i]?=some e):(l.take (i+1)).flatMap f=(l.take i).flatMap f++f e:=by
 have:l.take (i+1)=l.take i++[e]:=by rw[take_add_one,h];rfl
 rw[this,flatMap_append];simp
theorem KB (ρ:aK) (h:ey M b o f) (hb:b<=nx) (x:Int) (few:((f x).getD []).length<=100000) :
 ar am ρ 21 [.mp o 0,.int .u64 x] M nx fun r=>(∃K,r.1 = .sl K 2 0 (((f x).getD []).length+1) (((f x).getD []).length+1)/\nx<=K/\K<r.2.2/\gG r.2.1 K=some (.row ([.int .u64 0,.int .u64 0]++((f x).getD []).flatMap BF)))/\aq nx M r.2.1/\nx<=r.2.2:=by
 refine ar.wk 29 [.tmp 4] Tryz.func21 ?_;refine dt sO ?_;generalize xu:ci M (nx+2) _=M1;have a1:aq nx M M1:=by rw[<-xu];exact O
 have z0:gG M1 (nx+2)=some (.row [.int .u64 0,.int .u64 0]):=by rw[<-xu];exact J
 clear xu;refine gQ (zi ρ (h.agr (a1.le hb)) Z x) ?_;rintro⟨u,M2,n2⟩ ⟨g1,g2,g3⟩;simp only at g1 g2 g3;have a2:aq nx M M2:=a1.trans (g2.le Z);have z3:=(g2 (nx+2) Z).trans z0;obtain⟨l,hl⟩:∃l,l=(f x).getD []:=⟨_,rfl⟩;rw[<-hl]at g1 few ⊢;obtain⟨rk,sv,e1,e0,e2,e3,e4⟩:=g1;subst e1;clear g2 h;have ay:=fun N=>e4.len (P:=am) (t:=100) cU.2.2.2.2.2 N
 have hz:=e4.1;refine gk sO e3 ay ?_;refine aC (fun m' s=>∃(i K:Nat),i<=l.length/\m'=l.length - i/\gG s.env 5=some (.sl K 2 0 (i+1) (i+1))/\gG s.env 16=some sv/\gG s.env 17=some (.int .i64 l.length)/\gG s.env 18=some (.int .i64 i) /\
  nx<=K/\K<s.nx/\gG s.M K=some (.row ([.int .u64 0,.int .u64 0]++(l.take i).flatMap BF))/\aq nx M2 s.M/\n2<=s.nx) l.length ⟨0,nx+2,Z,Z,?_⟩ ?_
 ·refine dt sO ?_
  exact⟨Z,Z,by simpa using z3,aq.refl _ _,Z⟩
 ·rintro m' ⟨env,M',nx'⟩ ⟨i,K,hi,ir,f5,oF,qH,sY,Gg,Gh,hv,ha,hn⟩
  simp only at f5 oF qH sY Gh hv ha hn;by_cases aL:(i:Int)<l.length
  ·have aP:i<l.length:=Z
   obtain⟨e,gA⟩:∃e,l[i]?=some e:=⟨l[i],by simp[aP]⟩;obtain⟨q,o,Oc,bC,aU⟩:=e4.elem (P:=am) aP (t:=100) (t':=106) cU.2.2.2.1 gZ.1;have aU:=aU M' (ha.le Z);rw[jr l i e gA]at aU;simp only[aV]at aU;have bV:=eF i;have bw:=qO (f:=BF) gA;obtain⟨cs,dI⟩:∃cs,cs=[XV.int .u64 0,XV.int .u64 0]++(l.take i).flatMap BF:=⟨_,rfl⟩;rw[<-dI]at hv;have cF:cs.length=(i+1)*2:=by
    rw[dI,length_append,fg (sz:=2) (fun a=>rfl),length_take];simp only[length_cons,length_nil];omega
   have kB:List.take ((i+1)*2) cs=cs:=take_of_length_le Z;refine yq sO @f5 @oF @qH @sY aL bC aU bV hv cF kB ?_;refine⟨l.length - (i+1),Z,i+1,nx'+9,Z,rfl,rfl,rfl,Z,Z,?_,fun q hq=>?_,Z⟩
   ·rw[if_pos (show aw (nx'+9) (nx'+9) from rfl),dI,bw]
    simp[BF]
   ·have:=ha q hq
    exact J
  ·have gB:l.take i=l:=take_of_length_le Z
   have uT:i=l.length:=Z;rw[gB]at hv;rw[uT]at f5;refine ul sO @f5 @oF @qH @sY aL ?_;exact⟨⟨K,rfl,Gg,Z,by simpa using hv⟩,(by(repeat (refine aq.set ?_ Z _));exact a2.trans ha),Z⟩
def BG (e:bO):List XV:=[.int .i64 e.wr]
theorem SE (ρ:aK) (h:ey M b o f) (hb:b<=nx) (x:Int) (few:((f x).getD []).length<=100000) :
 ar am ρ 24 [.mp o 0,.int .u64 x] M nx fun r=>bS r.2.1 nx r.2.2 (fun _=>()) () r.1 1 ((f x).getD []).length (((f x).getD []).flatMap BG)/\aq nx M r.2.1/\nx<=r.2.2:=by
 refine ar.wk 26 [.tmp 4] Tryz.func24 ?_;refine dt FH ?_;refine gQ (zi ρ (h.agr (aq.refl _ _)) Z x) ?_;rintro⟨u,M2,n2⟩ ⟨g1,g2,g3⟩;simp only at g1 g2 g3;have a2:aq nx M M2:=g2.le Z;obtain⟨l,hl⟩:∃l,l=(f x).getD []:=⟨_,rfl⟩;rw[<-hl]at g1 few ⊢;obtain⟨rk,sv,e1,e0,e2,e3,e4⟩:=g1;subst e1;clear g2 h;have ay:=fun N=>e4.len (P:=am) (t:=100) cU.2.2.2.2.2 N
 have hz:=e4.1;refine gk FH e3 ay ?_;refine aC (fun m' s=>∃(i:Nat) (v:XV),i<=l.length/\m'=l.length - i/\gG s.env 4=some v/\gG s.env 13=some sv/\gG s.env 14=some (.int .i64 l.length)/\gG s.env 15=some (.int .i64 i) /\
  bS s.M nx s.nx (fun _=>()) () v 1 i ((l.take i).flatMap BG)/\aq nx M2 s.M/\n2<=s.nx) l.length ⟨0,.nils,Z,Z,?_⟩ ?_
 ·refine dt FH ?_
  exact⟨⟨Z,ae,.inl ⟨rfl,rfl⟩⟩,aq.refl _ _,Z⟩
 ·rintro m' ⟨env,M',nx'⟩ ⟨i,v,hi,ir,f4,mA,nZ,ni,hv,ha,hn⟩
  simp only at f4 mA nZ ni hv ha hn;by_cases aL:(i:Int)<l.length
  ·have aP:i<l.length:=Z
   obtain⟨e,gA⟩:∃e,l[i]?=some e:=⟨l[i],by simp[aP]⟩;obtain⟨q,o,Oc,bC,aU⟩:=e4.elem (P:=am) aP (t:=100) (t':=106) cU.2.2.2.1 gZ.1;have aU:=aU M' (ha.le Z);rw[jr l i e gA]at aU;simp only[aV]at aU;have bV:=eF i;have bw:=qO (f:=BG) gA;obtain⟨cs,dI⟩:∃cs,cs=(l.take i).flatMap BG:=⟨_,rfl⟩;rw[<-dI]at hv bw;obtain⟨v1,v2,⟨rfl,AW⟩ | ⟨hi1,K,rfl,K1,K2,_,K4⟩⟩:=hv
   ·have RM:cs=[]:=length_eq_zero_iff.1 Z
    refine wT FH f4 @mA @nZ @ni aL bC aU bV ?_;refine⟨l.length - (i+1),Z,i+1,_,Z,rfl,rfl,rfl,⟨Z,by rw[bw,RM];simp[BG,AW],.inr ⟨Z,nx'+9,?_,Z,Z,rfl,?_⟩⟩,fun q hq=>?_,Z⟩
    ·rw[AW]
    ·rw[bw,RM];exact J
    ·have:=ha q hq
     exact J
   ·have kB:List.take i cs=cs:=take_of_length_le Z
    have v2':cs.length=i:=Z;refine yq FH f4 @mA @nZ @ni aL bC aU bV K4 v2' kB ?_;refine⟨l.length - (i+1),Z,i+1,_,Z,rfl,rfl,rfl,⟨Z,by rw[bw];simp[BG,v2'],.inr ⟨Z,nx'+9,rfl,Z,Z,rfl,?_⟩⟩,fun q hq=>?_,Z⟩
    ·rw[bw];exact J
    ·have:=ha q hq
     exact J
  ·have gB:l.take i=l:=take_of_length_le Z
   have uT:i=l.length:=Z;rw[gB,uT]at hv;refine ul FH f4 @mA @nZ @ni aL ?_;exact⟨hv.agr (aq.refl _ _) Z,(by(repeat (refine aq.set ?_ Z _));exact a2.trans ha),Z⟩
end
end Go.Xs
namespace Go.Xs
open List Nat Option
variable{L l:List aR}{M:Hp}{b hi i lo m nx:Nat}{cs:List XV}{r:aR}{v:XV}
open Go.Proofs
def Ky (a c:En):Bool:=decide (a.x=c.x)&&(decide (a.w=c.w)&&(decide (a.n=c.n)&&decide (a.m=c.m)))
def lu:List En->List En->Bool
 | [],[]=>true
 | a::l,c::l'=>Ky a c&&lu l l'
 | _,_=>false
theorem iz:∀(es:List En) (i:Nat) (e:En),es[i]?=some e->((es.flatMap b9).drop (i*4)).take 4=b9 e
 | [],_,_,h=>by simp at h
 | a::es,0,e,h=>by
   simp only[getElem?_cons_zero,Option.some.injEq]at h;subst h;simp[b9]
 | a::es,i+1,e,h=>by
   simp only[getElem?_cons_succ]at h;have:=iz es i e h;rw[<-this,flatMap_cons,show (i+1)*4=(b9 a).length+i*4 by simp[b9];omega,<-drop_drop];simp
theorem xd:∀{l l':List En},lu l l'=true->l.length=l'.length
 | [],[],_=>rfl
 | [],_::_,h=>by simp[lu]at h
 | _::_,[],h=>by simp[lu]at h
 | a::l,c::l',h=>by simp only[lu,Bool.and_eq_true]at h;simp[xd h.2]
theorem Cn {l l':List En} {a c:En} (h:l[i]?=some a) (h':l'[i]?=some c):lu (l.drop i) (l'.drop i)=(Ky a c&&lu (l.drop (i+1)) (l'.drop (i+1))):=by
 obtain⟨h1,rfl⟩:=List.getElem?_eq_some_iff.1 h;obtain⟨h2,rfl⟩:=List.getElem?_eq_some_iff.1 h';rw[drop_eq_getElem_cons h1,drop_eq_getElem_cons h2];rfl
theorem X8 (ρ:aK) {l l':List En} {v':XV} (h:jm M b v l) (h':jm M b v' l') (hb:b<=nx):ar am ρ 294 [v,v'] M nx (fe nx M (.bool (lu l l'))):=by
 unfold jm at h h';have ay:=fun N=>h.len (P:=am) (t:=41) eo.2.2.2.2.2 N
 have A_:=fun N=>h'.len (P:=am) (t:=41) eo.2.2.2.2.2 N
 have hz:=h.1;refine ar.wk 26 [.tmp 4] Tryz.func294 ?_;by_cases hl:(l.length:Int)=l'.length
 ·refine jz sH ay A_ hl ?_
  refine aC (fun m s=>∃i:Nat,i<=l.length/\m=l.length - i/\lu (l.drop i) (l'.drop i)=lu l l'/\gG s.env 0=some v/\gG s.env 1=some v'/\gG s.env 12=some (.int .i64 l'.length)/\gG s.env 13=some (.int .i64 i)/\aq nx M s.M/\nx<=s.nx)
   l.length ⟨0,Z,Z,ae,?_⟩ ?_
  ·refine dt sH ?_
   exact⟨aq.refl _ _,Z⟩
  ·rintro m ⟨env,M',nx'⟩ ⟨i,hi,hm,pA,e0,e1,vS,qI,ha,hn⟩
   simp only at e0 e1 vS qI ha hn;by_cases aL:(i:Int)<l'.length
   ·have aP:i<l.length:=Z
    have F1:i<l'.length:=Z;obtain⟨a,Mt⟩:∃e,l[i]?=some e:=⟨l[i],by simp[aP]⟩;obtain⟨c,Gk⟩:∃e,l'[i]?=some e:=⟨l'[i],by simp[F1]⟩;obtain⟨n,o,jw,bC,aU⟩:=h.elem (P:=am) aP (t:=41) (t':=120) eo.2.2.2.1 mz.1;obtain⟨n2,o2,Ux,iN,dJ⟩:=h'.elem (P:=am) F1 (t:=41) (t':=120) eo.2.2.2.1 mz.1;have aU:=aU M' (ha.le hb);have dJ:=dJ M' (ha.le hb);rw[iz l i a Mt]at aU;rw[iz l' i c Gk]at dJ;simp only[b9]at aU dJ;have bV:=eF i;have bw:=Cn Mt Gk;have he:(decide (a.x=c.x)&&(decide (a.w=c.w)&&(decide (a.n=c.n)&&decide (a.m=c.m))))=Ky a c:=rfl;cases hq:Ky a c with
    | false =>
      refine yq sH e0 e1 vS qI aL bC iN aU dJ he (aI hq @fe.eq_1) ?_;exact⟨by rw[<-pA,bw,hq];rfl,ha,Z⟩
    | true =>
      refine yq sH e0 e1 vS qI aL bC iN aU dJ he (aI hq bV) ?_;exact⟨l.length - (i+1),Z,i+1,Z,rfl,by rw[<-pA,bw,hq];rfl,rfl,ha,Z⟩
   ·have hd:l.drop i=[]:=drop_eq_nil_of_le Z
    have py:l'.drop i=[]:=drop_eq_nil_of_le Z;refine ky sH e0 e1 vS qI aL @fe.eq_1 ?_;exact⟨by rw[<-pA,hd,py];rfl,ha,Z⟩
 ·refine lO sH ay A_ hl @fe.eq_1 ?_
  refine⟨?_,aq.refl _ _,Z⟩;congr 1;cases hq:lu l l' with
  | false=>rfl
  | true=>have:=xd hq;omega
theorem Xa (es:List En):(es.flatMap b9).length=es.length*4:=fg (f:=b9) (sz:=4) (fun _=>rfl) es
theorem f42 (ρ:aK) (hr:b8 M b r cs) (hb:b<=nx) (hc:dV r.p<=100000) (he:r.es.length<=100000) :
 ar am ρ 42 [.agg cs] M nx fun o=>Tz nx r o/\aq nx M o.2.1/\nx<=o.2.2:=by
 refine ar.closed fun cF aX=>?_
 obtain⟨pk,pa,pb,pv,ve,rfl,⟨p1,p2⟩,⟨q1,q2⟩,dZ,hp⟩:=hr.cells;unfold jm at dZ;simp only[aE]at aX;have px:aE nx [.int .i64 r.kind,.int .u64 r.t,.int .u64 r.x,.int .u64 r.w,.int .u64 r.n,.int .u64 r.v,.int .i64 pk,.int .u64 pa,.int .u64 pb,pv,ve]=true:=by
  cases hh:aE nx [.int .i64 r.kind,.int .u64 r.t,.int .u64 r.x,.int .u64 r.w,.int .u64 r.n,.int .u64 r.v,.int .i64 pk,.int .u64 pa,.int .u64 pb,pv,ve] with
  | true=>rfl
  | false=>simp only[aO,hh]at aX;cases aX
 have vh:aO nx pv=true:=cq px ae;have F0:aO nx ve=true:=cq px ae;refine ar.wk 47 [.cell 2 116] Tryz.func42 ?_;refine mY zk p1 p2 q1 q2 ?_;generalize xu:ci (ci M _ _) _ _=M1;have a1:aq nx M M1:=by rw[<-xu];exact O
 have m1:gG M1 nx=some (.row [.int .i64 r.kind,.int .u64 r.t,.int .u64 r.x,.int .u64 r.w,.int .u64 r.n,.int .u64 r.v,.int .i64 pk,.int .u64 pa,.int .u64 pb,pv,ve]):=by rw[<-xu];exact J
 have m2:gG M1 (nx+1)=some (.row [.int .i64 0,.int .u64 0,.int .u64 0,.int .u64 0,.int .u64 0,.int .u64 0,.int .i64 0,.int .u64 0,.int .u64 0,.nils,.nils]):=by rw[<-xu];exact J
 have sR:Cl (nx+2) M1:=by
  rw[<-xu];exact((cF.le (show nx<=nx+2 by omega)).set Z (by simp only[cp];exact aE.le Z px)).set Z rfl
 clear xu;refine aT (bN.read (v:=.agg [.int .u64 r.w,.int .u64 r.n]) (sR.le Z) rfl rfl fun N hN=>JR ρ r.w r.n N _) af ?_;refine gw zk m1 p1 p2 q1 q2 @aA ?_;have ZZ:∀N,aq (nx+14) M1 N->bG N b r.p [.int .i64 pk,.int .u64 pa,.int .u64 pb,pv]:=fun N hN=>hp.agr ((a1.trans (hN.le Z)).le hb)
 obtain⟨v1,N,bD,hC,⟨TR,qx,sP⟩,Mj,jT,lH,mN⟩:=bN.made' (P:=am) (ρ:=ρ) (g:=71) (args:=[.agg [.int .i64 pk,.int .u64 pa,.int .u64 pb,pv]]) (M:=M1) (nx:=nx+14) (Q:=kO (nx+14) r.p) (sR.le Z)
  (by simp only[aE,aO];rw[aO.le Z vh]) (fun N hN=>f71 _ { ρ with det:=true } r.p N (nx+14) b _ (lt_succ_self _) (ZZ N hN) Z hc)
  (fun N _ hN=>kO.ex hc hN)
 simp only at qx sP;subst qx;obtain⟨k1,x1,y1,w1,rfl,qC⟩:=sP.shape;have dz:∀q,q<nx+14->gG (aY M1 (dH N (nx+14) bD)) q=gG M1 q:=fun q hq=>by rw[bW,if_neg Z]
 have mO:∀q,q<bD->gG (aY M1 (dH N (nx+14) bD)) q=gG N q:=fun q hq=>by
  by_cases h:nx+14<=q
  ·rw[bW,if_pos ⟨h,hq⟩]
  ·rw[dz q Z,Mj q Z]
 have iO:=eI N (nx+14) bD;have uR:Cl bD (aY M1 (dH N (nx+14) bD)):=fun q o ho=>by
  by_cases h:q<bD
  ·rw[mO q h]at ho
   exact lH q o ho
  ·rw[bW,if_neg Z]at ho
   exact sR.le Z q o ho
 refine aT hC af ?_;have z0:=(dz nx Z).trans m1;have z1:=(dz (nx+1) Z).trans m2;have AZ:aO bD w1=true:=by
  simp only[aO,aE]at mN;split at mN
  ·assumption
  ·cases mN
 have CC:ji (aY M1 (dH N (nx+14) bD)) (fun q=>nx+14<=q/\q<bD) r.p [.int .i64 k1,.int .u64 x1,.int .u64 y1,w1]:=sP.keep fun q hq=>by
  obtain⟨r1,r2⟩:nx+14<=q/\q<bD:=hq;exact⟨mO q r2,r1,r2⟩
 have Mp:aq nx M (aY M1 (dH N (nx+14) bD)):=fun q hq=>(dz q Z).trans (a1 q hq)
 have ay:=fun N=>bE.len (P:=am) (t:=41) dZ eo.2.2.2.2.2 N
 refine ti zk @aA qC.1 qC.2 ?_;refine⟨?_,?_⟩
 ·clear ay Mp CC AZ z0 z1 uR mO dz sP mN Mj ZZ sR m1 m2
  have Bi:∀q ∈ bM (dH N (nx+14) bD),q ∉ List.range (nx+10):=fun q hq=>by have:=iO q hq;simp only[mem_range];omega
  have ZA:∀q ∈ bM (dH N (nx+14) bD),q ∉ [nx]:=fun q hq=>by have:=iO q hq;simp only[mem_singleton];omega
  have RP:∀q ∈ [bD+1],q ∉ List.range (nx+14)/\q ∉ List.range (nx+10)/\q ∉ [nx]/\q ∉ bM (dH N (nx+14) bD):=fun q hq=>by
   have hq:q=bD+1:=by simpa using hq
   subst hq;refine⟨by simp only[mem_range];omega,by simp only[mem_range];omega,by simp only[mem_singleton];omega,fun h=>by have:=iO _ h;omega⟩
  repeat' apply an
  all_goals (refine bn _ _ _ _ _ _ ?_ ?_ ?_<;>first | exact Bi | exact ZA | exact fun q hq=>(RP q hq).1 | exact fun q hq=>(RP q hq).2.1 | exact fun q hq=>(RP q hq).2.2.1 | exact fun q hq=>(RP q hq).2.2.2 | exact fun q hq=>not_mem_nil | (intro q hq;cases hq) | (intro q hq nP;exact(RP q nP).1 hq) | (intro q hq nP;exact(RP q nP).2.2.2 hq))
 generalize aW:ci (ci (aY M1 _) _ _) _ _=M2;have m0:gG M2 nx=some (.row [.int .i64 r.kind,.int .u64 r.t,.int .u64 r.x,.int .u64 r.w,.int .u64 r.n,.int .u64 r.v,.int .i64 pk,.int .u64 pa,.int .u64 pb,pv,ve]):=by rw[<-aW];exact J
 have n1:gG M2 (nx+1)=some (.row [.int .i64 0,.int .u64 0,.int .u64 0,.int .u64 0,.int .u64 0,.int .u64 0,.int .i64 0,.int .u64 0,.int .u64 0,.nils,.nils]):=by rw[<-aW];exact J
 have n3:gG M2 (bD+1)=some (.row [.int .i64 r.kind,.int .u64 r.t,.int .u64 r.x,.int .u64 r.w,.int .u64 r.n,.int .u64 r.v,.int .i64 k1,.int .u64 x1,.int .u64 y1,w1,.nils]):=by rw[<-aW];exact J
 have a2:aq nx M M2:=by rw[<-aW];exact(by(repeat (refine aq.set ?_ Z _));exact Mp)
 have Qt:ji M2 (fun q=>nx+14<=q/\q<bD) r.p [.int .i64 k1,.int .u64 x1,.int .u64 y1,w1]:=CC.keep fun q hq=>by
  obtain⟨r1,r2⟩:nx+14<=q/\q<bD:=hq;rw[<-aW];exact⟨J,r1,r2⟩
 have AV:Cl (bD+4) M2:=by
  rw[<-aW];refine((uR.le (show bD<=bD+4 by omega)).set Z rfl).set Z ?_;simp only[cp,aE,aO];rw[aO.le Z AZ]
 clear aW CC uR mO dz z0 z1 m1 m2 sP Mj sR ZZ iO mN a1 Mp hC lH;refine aC (fun m' s=>∃(i K:Nat) (vv:XV),i<=r.es.length/\m'=r.es.length - i/\gG s.env 1=some (.mp nx 0)/\gG s.env 2=some (.mp (nx+1) 0)/\gG s.env 3=some (.mp (bD+1) 0)/\gG s.env 4=some (.int .i64 i) /\
  gG s.M nx=some (.row [.int .i64 r.kind,.int .u64 r.t,.int .u64 r.x,.int .u64 r.w,.int .u64 r.n,.int .u64 r.v,.int .i64 pk,.int .u64 pa,.int .u64 pb,pv,ve]) /\
  gG s.M (nx+1)=some (.row [.int .i64 0,.int .u64 0,.int .u64 0,.int .u64 0,.int .u64 0,.int .u64 0,.int .i64 0,.int .u64 0,.int .u64 0,.nils,.nils]) /\
  gG s.M (bD+1)=some (.row [.int .i64 r.kind,.int .u64 r.t,.int .u64 r.x,.int .u64 r.w,.int .u64 r.n,.int .u64 r.v,.int .i64 k1,.int .u64 x1,.int .u64 y1,w1,vv]) /\
  (vv = .nils/\i=0\/0<i/\vv = .sl K 4 0 i i/\gG s.M K=some (.row ((r.es.take i).flatMap b9)))/\bD+1<K/\K<s.nx /\
  ji s.M (fun q=>nx+14<=q/\q<bD) r.p [.int .i64 k1,.int .u64 x1,.int .u64 y1,w1]/\aq nx M s.M/\Cl s.nx s.M) r.es.length ⟨0,bD+2,.nils,Z,Z,?_⟩ ?_
 ·refine bR zk ?_
  exact⟨m0,n1,n3,.inl trivial,Z,Z,Qt,a2,AV⟩
 ·rintro m' ⟨env,M',nx'⟩ ⟨i,K,vv,hi,ir,e1,e2,e3,e4,z0,z1,z3,vi,Gg,Gh,hE,ha,jZ⟩
  simp only at e1 e2 e3 e4 z0 z1 z3 vi Gh hE ha jZ;have MI:dY vv=[vv]/\ax vv=true:=by
   rcases vi with ⟨rfl,_⟩ | ⟨_,rfl,_⟩<;>exact⟨rfl,rfl⟩
  by_cases aL:(i:Int)<r.es.length
  ·have aP:i<r.es.length:=Z
   obtain⟨e,gA⟩:∃e,r.es[i]?=some e:=⟨r.es[i],by simp[aP]⟩;have bV:=eF i;obtain⟨n,o,jw,bC,aU⟩:=bE.elem (P:=am) dZ aP (t:=41) (t':=120) eo.2.2.2.1 mz.1;have aU:=aU M' (ha.le hb);rw[iz _ _ _ gA]at aU;simp only[b9]at aU;refine dw zk e1 e2 e3 e4 ay aL bC aU z0 z3 ?_;generalize oM:ci (ci M' _ _) _ _=M3;have a3:∀q,q<nx'+10->gG M3 q=gG M' q:=fun q hq=>by rw[<-oM];exact J
   have m5:gG M3 (nx'+10)=some (.row [.int .u64 e.x,.int .u64 e.w,.int .u64 e.n,.bool e.m]):=by rw[<-oM];exact J
   have yG:Cl (nx'+11) M3:=by
    rw[<-oM];exact((jZ.le (show nx'<=nx'+11 by omega)).set Z rfl).set Z rfl
   clear oM;have y0:=(a3 nx Z).trans z0;have y1':=(a3 (nx+1) Z).trans z1;have y3:=(a3 (bD+1) Z).trans z3;refine aT (bN.read (v:=.agg [.int .u64 e.w,.int .u64 e.n]) (yG.le Z) rfl rfl fun N hN=>JR ρ e.w e.n N _) af ?_;have bw:=qO (f:=b9) gA;rcases vi with ⟨rfl,rfl⟩ | ⟨AW,rfl,hK⟩
   ·have MJ:IntKind.i64.wrap (0+1)=((1:Nat):Int):=af
    refine CU zk m5 y3 @aA MJ e1 e2 e3 e4 ?_;have xj:Nat.blt (nx'+22) (nx'+28)=true:=by rw[blt_eq];omega
    refine⟨bn _ _ _ _ _ _ (fun q hq=>by simp only[mem_singleton]at hq ⊢;omega) (fun q hq=>ae) (fun q hq=>by simp at hq),r.es.length - (1),Z,1,nx'+22,_,Z,rfl,rfl,y0,y1',rfl,.inr ⟨Z,rfl,?_⟩,Z,Z,hE.keep fun q hq=>?_,fun q hq=>?_,?_⟩
    ·rw[if_neg (by simp only[aw];omega),if_pos (show aw _ _ from rfl),bw]
     rfl
    ·obtain⟨r1,r2⟩:nx+14<=q/\q<bD:=hq
     have:=a3 q Z;exact⟨J,r1,r2⟩
    ·have:=(a3 q Z).trans (ha q hq)
     exact J
    ·refine(((yG.le (show nx'+11<=nx'+28 by omega)).set Z rfl).set Z rfl).set Z ?_
     simp only[cp,aE,aO,xj];rw[aO.le Z AZ]
   ·have qK:=(a3 K Z).trans hK
    obtain⟨rw',Oe⟩:∃rw',rw'=(r.es.take i).flatMap b9:=⟨_,rfl⟩;rw[<-Oe]at qK bw;have je:rw'.length=i*4:=by rw[Oe,fg (sz:=4) (fun a=>rfl),length_take];congr 1;omega
    have kB:rw'.take (i*4)=rw':=take_of_length_le Z;have QQ:aE (nx'+11) rw'=true:=by simpa only [cp] using (yG _ _ qK).2
    refine ii zk m5 y3 qK je kB @aA bV e1 e2 e3 e4 ?_;have xj:Nat.blt (nx'+22) (nx'+28)=true:=by rw[blt_eq];omega
    refine⟨bn _ _ _ _ _ _ (fun q hq=>by simp only[mem_singleton]at hq ⊢;omega) (fun q hq=>ae) (fun q hq=>by simp at hq),r.es.length - (i+1),Z,i+1,nx'+22,_,Z,rfl,rfl,y0,y1',rfl,.inr ⟨Z,rfl,?_⟩,Z,Z,hE.keep fun q hq=>?_,fun q hq=>?_,?_⟩
    ·rw[if_neg (by simp only[aw];omega),if_pos (show aw _ _ from rfl),bw]
     rfl
    ·obtain⟨r1,r2⟩:nx+14<=q/\q<bD:=hq
     have:=a3 q Z;exact⟨J,r1,r2⟩
    ·have:=(a3 q Z).trans (ha q hq)
     exact J
    ·refine((((yG.le (show nx'+11<=nx'+28 by omega)).set Z rfl).del).set Z (by simp only[cp];exact jA (aE.le Z QQ) rfl)).set Z ?_
     simp only[cp,aE,aO,xj];rw[aO.le Z AZ]
  ·have gB:i=r.es.length:=Z
   refine ii zk e1 e2 e3 e4 ay aL z0 z1 z3 qC.1 (aI qC.2 (aI MI.1 MI.2)) ?_;refine⟨⟨_,rfl,[.int .i64 k1,.int .u64 x1,.int .u64 y1,w1],vv,rfl,hE.keep fun q hq=>?_,⟨Z,Xa _,?_⟩⟩,(by(repeat (refine aq.set ?_ Z _));exact ha),Z⟩
   ·obtain⟨r1,r2⟩:nx+14<=q/\q<bD:=hq
    exact⟨J,show nx<=q/\q<nx'+7 by omega⟩
   ·rcases vi with ⟨rfl,h0⟩ | ⟨h0,rfl,hK⟩
    ·exact .inl ⟨rfl,Z⟩
    ·rw[gB,take_length]at hK
     exact .inr ⟨K,by rw[gB],show nx<=K/\K<nx'+7 by omega,J⟩
theorem mJ (ρ:aK) (hL:cP M b v L) (hb:b<=nx) (hl:L.length<=100000) (ip:∀r ∈ L,dV r.p<=100000/\r.es.length<=100000) :
 ar am ρ 12 [v] M nx fun o=>KE nx L o/\aq nx M o.2.1/\nx<=o.2.2:=by
 obtain⟨row,a9,gS⟩:=hL;have ay:=fun N=>a9.len (P:=am) (t:=22) jp.2.2.2.2.2 N
 refine ar.wk 20 [.tmp 2] Tryz.func12 ?_;refine bR Fs ?_;refine aC (fun m' s=>∃(i K:Nat) (vv:XV) (rw:List XV),i<=L.length/\m'=L.length - i/\gG s.env 0=some v/\gG s.env 3=some vv/\gG s.env 4=some (.int .i64 i)/\rw.length=i*11/\(vv = .nils/\i=0\/0<i/\vv = .sl K 11 0 i i/\gG s.M K=some (.row rw))/\nx<=K/\K<s.nx /\
  (∀j r,j<i->L[j]?=some r->lg s.M (fun q=>nx<=q/\q<K) r ((rw.drop (j*11)).take 11))/\aq nx M s.M) L.length ⟨0,nx,.nils,[],Z,Z,?_⟩ ?_
 ·refine bR Fs ?_
  refine⟨.inl trivial,Z,Z,fun j e h=>absurd h (not_lt_zero _),aq.refl _ _⟩
 ·rintro m' ⟨env,M',nx'⟩ ⟨i,K,vv,rw',hi,ir,e0,e3,e4,je,vi,Gg,Gh,fF,ha⟩
  simp only at e0 e3 e4 vi Gh fF ha;by_cases aL:(i:Int)<L.length
  ·have aP:i<L.length:=Z
   obtain⟨r,hr⟩:∃r,L[i]?=some r:=⟨L[i],by simp[aP]⟩;have bV:=eF i;obtain⟨n,o,jw,bC,aU⟩:=a9.elem (P:=am) aP (t:=22) (t':=43) jp.2.2.2.1 iY.1;have aU:=aU M' (ha.le hb);refine iQ Fs e0 e3 e4 ay aL bC aU ?_;obtain⟨FY,sS⟩:=ip r (mem_of_getElem? hr);refine gQ (f42 ρ ((gS i r hr).agr (ha.le hb)) Z FY sS) ?_;rintro⟨u,M2,n2⟩ ⟨⟨cs,g1,g2⟩,g3,g4⟩;simp only at g1 g2 g3 g4;subst g1;obtain⟨pk,pa,pb,pv,ve,dI,⟨p1,p2⟩,⟨q1,q2⟩⟩:=g2.cells;have qB:∀(H:Hp) (K':Nat) (oQ:List XV),n2<=K'->oQ=rw'++cs->(∀q,q<n2->q≠K->gG H q=gG M2 q)->∀j r',j<i+1->L[j]?=some r'->lg H (fun q=>nx<=q/\q<K') r' ((oQ.drop (j*11)).take 11):=fun H K' oQ Ml Oe hH j r' hj sA=>by
    subst Oe;rw[mf je g2.len hj];split
    ·rename_i kX
     refine(fF j r' kX sA).keep fun q hq=>?_
     obtain⟨r1,r2⟩:nx<=q/\q<K:=hq;exact⟨by rw[hH q Z Z,g3 q Z],r1,Z⟩
    ·have:j=i:=Z
     subst this;rw[hr]at sA;cases sA;refine g2.keep fun q hq=>?_
     obtain⟨r1,r2⟩:nx'+9<=q/\q<n2:=hq;exact⟨hH q r2 Z,Z,Z⟩
   rcases vi with ⟨rfl,rfl⟩ | ⟨AW,rfl,hK⟩
   ·have mP:rw'=[]:=length_eq_zero_iff.1 Z
    subst mP;rw[dI]at qB;subst dI;have MJ:IntKind.i64.wrap (0+1)=((1:Nat):Int):=af;refine CU Fs p1 p2 q1 q2 MJ e0 e3 e4 ?_;refine⟨L.length - 1,Z,1,n2+1,_,_,Z,rfl,rfl,rfl,rfl,.inr ⟨Z,rfl,if_pos (show aw _ _ from rfl)⟩,Z,Z,qB _ (n2+1) _ Z rfl fun q hq nP=>J,fun q hq=>?_⟩;have:=(g3 q Z).trans (ha q hq);exact J
   ·have qK:=(g3 K Z).trans hK
    have kB:rw'.take (i*11)=rw':=take_of_length_le Z;rw[dI]at qB;subst dI;refine ii Fs qK je kB p1 p2 q1 q2 bV e0 e3 e4 ?_;refine⟨L.length - (i+1),Z,i+1,n2+1,_,_,Z,rfl,rfl,rfl,by rw[length_append,je];simp only[length_cons,length_nil];omega,.inr ⟨Z,rfl,if_pos (show aw _ _ from rfl)⟩,Z,Z,qB _ (n2+1) _ Z rfl fun q hq nP=>J,fun q hq=>?_⟩;have:=(g3 q Z).trans (ha q hq);exact J
  ·have gB:i=L.length:=Z
   refine iC Fs e0 e3 e4 ay aL ?_;refine⟨⟨rw',⟨Z,by rw[je,gB],?_⟩,fun j r hr=>?_⟩,ha,Z⟩
   ·rcases vi with ⟨rfl,h0⟩ | ⟨h0,rfl,hK⟩
    ·exact .inl ⟨rfl,Z⟩
    ·exact .inr ⟨K,by rw[gB],show nx<=K/\K<nx'+6 by omega,hK⟩
   ·refine(fF j r (by have:=(List.getElem?_eq_some_iff.1 hr).1;omega) hr).keep fun q hq=>?_
    obtain⟨r1,r2⟩:nx<=q/\q<K:=hq;exact⟨rfl,show nx<=q/\q<nx'+6 by omega⟩
theorem Tm (ρ:aK) (h:cZ M lo hi m l) (hh:hi<=nx) (t x:Int) :
 ∃v,bE M hi v 2 (bd l t x).length ((bd l t x).flatMap et)/\∀M' nx',aq nx M M'->nx<=nx'->ar am ρ 252 [.mp m 0,.int .u64 t,.int .u64 x] M' nx' (fe nx' M' v):=by
 obtain⟨tag,ps,vnum,vnames,vrows,vend,rs,le,h⟩:=h;cases hp:ou ps (t,x) with
 | none =>
   have hr:bd l t x=[]:=Classical.byContradiction fun cf=>qN.1 hp (h.whole t x cf)
   refine⟨.nils,by rw[hr];exact⟨ae,.inl ⟨rfl,rfl,rfl⟩⟩,fun M' nx' ha hn=>?_⟩;have hM:=(ha m (by have:=h.m_hi;omega)).trans h.row;refine ar.wk 28 [.tmp 6] Tryz.func252 ?_;refine dt L7 ?_;refine gQ (SK ρ hM (by have:=h.m_hi;omega) (h.num.agr (ha.le hh) (Nat.le_refl _)) Z t x) ?_;rintro⟨u,M2,n2⟩ ⟨g1,g2,g3⟩;simp only[hp,getD_none,isSome_none]at g1 g2 g3;subst g1;refine fM L7 @fe.eq_1 ?_;exact⟨g2.le Z,Z⟩
 | some i =>
   obtain⟨j,rfl,hj⟩:=xi hp;obtain⟨cf,v,hv,hw⟩:=h.all j t x hj;refine⟨v,hw.sl,fun M' nx' ha hn=>?_⟩;have hM:=(ha m (by have:=h.m_hi;omega)).trans h.row;have aL:j<ps.length:=(List.getElem?_eq_some_iff.1 hj).1;obtain⟨n,o,jw,bC,aU⟩:=h.rows.sl.fldG (P:=am) aL (t:=159) oC.2.2.2.1;refine ar.wk 28 [.tmp 6] Tryz.func252 ?_;refine dt L7 ?_;refine gQ (SK ρ hM (by have:=h.m_hi;omega) (h.num.agr (ha.le hh) (Nat.le_refl _)) Z t x) ?_;rintro⟨u,M2,n2⟩ ⟨g1,g2,g3⟩;simp only[hp,getD_some,isSome_some]at g1 g2 g3;subst g1;have aW:=(g2 m (by have:=h.m_hi;omega)).trans hM;have hl:=aU 0 v Z (by simp[hv]) 303 1 rM.1 M2 (((ha.trans (g2.le Z))).le hh);rw[Nat.add_zero]at hl;refine lO L7 aW bC hl @fe.eq_1 ?_;exact⟨g2.le Z,Z⟩
theorem wrap_u64 {n:Int} (h0:0<=n) (h1:n<=18446744073709551615):IntKind.u64.wrap n=n:=by rw[IntKind.wrap_u64];omega
def wy (o:Option Md):XV:=match o with | some d=>.tup [.agg (et d),.int .i64 0] | none=>.tup [.agg [.int .u64 0,.bool false],.int .i64 70]
theorem Jl:∀(es:List Md) (i:Nat) (e:Md),es[i]?=some e->((es.flatMap et).drop (i*2)).take 2=et e
 | [],_,_,h=>by simp at h
 | a::es,0,e,h=>by
   simp only[getElem?_cons_zero,Option.some.injEq]at h;subst h;simp[et]
 | a::es,i+1,e,h=>by
   simp only[getElem?_cons_succ]at h;have:=Jl es i e h;rw[<-this,flatMap_cons,show (i+1)*2=(et a).length+i*2 by simp[et];omega,<-drop_drop];simp
theorem ST (ρ:aK) (h:cZ M lo hi m l) (hh:hi<=nx) (x w n:Int):ar am ρ 251 [.mp m 0,.int .u64 x,.agg [.int .u64 w,.int .u64 n]] M nx (fe nx M (wy (rV l x w n))):=by
 obtain⟨v,a9,bA⟩:=Tm ρ h hh w x;have ay:=fun N=>a9.len (P:=am) (t:=303) rM.2.2.2.2.2 N
 have hz:=a9.1;have a1:=fun o=>(aq.refl nx M).set (Nat.le_refl nx) o
 refine ar.wk 37 [.cell 6 247,.tmp 7] Tryz.func251 ?_;refine dt Io ?_;refine lL (bA _ _ ((a1 _).set Z _) Z) af ?_ ?_
 ·refine dt Io ?_;try exact⟨⟩
 ·rintro⟨u,M2,n2⟩ ⟨g1,g2,g3⟩
  simp only at g1 g2 g3;subst g1;have y:=g2 nx Z;rw[ao,if_neg Z,ao,if_pos rfl]at y;have y2:=g2 (nx+1) Z;rw[ao,if_pos rfl]at y2;have a2:=((a1 _).set (le_succ _) _).trans (g2.le Z);have hw:IntKind.u64.wrap ((bd l w x).length:Int)=(bd l w x).length:=wrap_u64 Z Z;by_cases c1:n<1
  ·refine ky Io y y2 c1 ay hw @fe.eq_1 ?_
   exact⟨by simp only[rV];rw[if_neg Z];rfl,a2.set Z _,Z⟩
  by_cases c2:((bd l w x).length:Int)<n
  ·refine oq Io y y2 c1 c2 ay hw @fe.eq_1 ?_
   exact⟨by simp only[rV];rw[if_neg Z];rfl,a2.set Z _,Z⟩
  obtain⟨j,rfl⟩:∃j:Nat,n=((j+1:Nat):Int):=⟨(n - 1).toNat,Z⟩;have hj:j<(bd l w x).length:=Z;obtain⟨d,hd⟩:∃d,(bd l w x)[j]?=some d:=⟨(bd l w x)[j],by simp[hj]⟩;obtain⟨k,o,jw,bC,aU⟩:=a9.elem (P:=am) hj (t:=303) (t':=247) rM.2.2.2.1 v9.1;rw[Jl _ j d hd]at aU;have hl:=aU M2 (a2.le hh);have bV:IntKind.u64.wrap (((j+1:Nat):Int) - 1)=(j:Int):=by rw[wrap_u64 Z Z];omega
  simp only[et]at hl;refine zQ Io y y2 c1 c2 ay hw bV bC hl @fe.eq_1 ?_;refine⟨?_,a2.set Z _,Z⟩;simp only[rV];rw[if_pos ⟨Z,Z⟩,show (((j+1:Nat):Int) - 1).toNat=j by omega,hd];rfl
def fI (r:aR) (t x:Int):Bool:=decide (r.kind=3\/r.kind=4)&&(decide (r.t=t)&&decide (r.x=x))
theorem Yh (ρ:aK) (hr:b8 M b r cs) (t x:Int):ar am ρ 105 [.agg cs,.int .u64 t,.int .u64 x] M nx (fe nx M (.bool (fI r t x))):=by
 obtain⟨pk,pa,pb,pv,ve,rfl,⟨p1,p2⟩,⟨q1,q2⟩,_,_⟩:=hr.cells;refine ar.wk 27 [.tmp 6] Tryz.func105 ?_;by_cases h3:r.kind=3
 ·by_cases ht:r.t=t
  ·by_cases hx:r.x=x
   ·refine CU BU p1 p2 q1 q2 h3 ht hx @fe.eq_1 ?_
    exact⟨by simp[fI,h3,ht,hx],O,Z⟩
   ·refine CU BU p1 p2 q1 q2 h3 ht hx @fe.eq_1 ?_
    exact⟨by simp[fI,h3,ht,hx],O,Z⟩
  ·refine iQ BU p1 p2 q1 q2 h3 ht @fe.eq_1 ?_
   exact⟨by simp[fI,h3,ht],O,Z⟩
 ·by_cases h4:r.kind=4
  ·by_cases ht:r.t=t
   ·by_cases hx:r.x=x
    ·refine CU BU p1 p2 q1 q2 h4 ht hx @fe.eq_1 ?_
     exact⟨by simp[fI,h4,ht,hx],O,Z⟩
    ·refine CU BU p1 p2 q1 q2 h4 ht hx @fe.eq_1 ?_
     exact⟨by simp[fI,h4,ht,hx],O,Z⟩
   ·refine iQ BU p1 p2 q1 q2 h4 ht @fe.eq_1 ?_
    exact⟨by simp[fI,h4,ht],O,Z⟩
  ·refine iQ BU p1 p2 q1 q2 h3 h4 @fe.eq_1 ?_
   exact⟨by simp[fI,h3,h4],O,Z⟩
def dq (L:List aR) (t x:Int):Nat:=(L.filter fun r=>fI r t x).length
theorem qS (h:L[i]?=some r) (t x:Int):dq (L.take (i+1)) t x=dq (L.take i) t x+(if fI r t x then 1 else 0):=by
 unfold dq;rw[take_add_one,h,toList_some,filter_append,length_append];congr 1;cases hh:fI r t x<;>simp[hh]
theorem Dc (L:List aR) (t x:Int):dq L t x<=L.length:=length_filter_le _ _
theorem f76 (ρ:aK) (hL:cP M b v L) (hb:b<=nx) (hl:L.length<=100000) (t x:Int):ar am ρ 76 [v,.int .u64 t,.int .u64 x] M nx (fe nx M (.int .u64 (dq L t x))):=by
 obtain⟨row,a9,gS⟩:=hL;have ay:=fun N=>a9.len (P:=am) (t:=35) jW.2.2.2.2.2 N
 refine ar.wk 25 [.tmp 6] Tryz.func76 ?_;refine bR Fl ?_;refine aC (fun m' s=>∃(i:Nat),i<=L.length/\m'=L.length - i/\gG s.env 0=some v/\gG s.env 1=some (.int .u64 t)/\gG s.env 2=some (.int .u64 x)/\gG s.env 7=some (.int .u64 (dq (L.take i) t x))/\gG s.env 8=some (.int .i64 i)/\aq nx M s.M/\nx<=s.nx) L.length ⟨0,Z,Z,?_⟩ ?_
 ·refine bR Fl ?_
  exact⟨rfl,aq.refl _ _,Z⟩
 ·rintro m' ⟨env,M',nx'⟩ ⟨i,hi,ir,e0,e1,e2,e7,e8,ha,hn⟩
  simp only at e0 e1 e2 e7 e8 ha hn;by_cases aL:(i:Int)<L.length
  ·have aP:i<L.length:=Z
   obtain⟨r,hr⟩:∃r,L[i]?=some r:=⟨L[i],by simp[aP]⟩;have bV:=eF i;have hc:=qS hr t x;have cF:=Dc (L.take i) t x;have AV:(L.take i).length<=100000:=by rw[length_take];omega
   obtain⟨n,o,jw,bC,aU⟩:=a9.elem (P:=am) aP (t:=35) (t':=116) jW.2.2.2.1 nO.1;have aU:=aU M' (ha.le hb);refine dp Fl e0 e1 e2 e7 e8 ay aL bC aU ?_;refine lG (Yh ρ ((gS i r hr).agr (ha.le hb)) t x) fun M2 n2 g2 g3=>?_
   cases hm:fI r t x with
   | true =>
     rw[hm]at hc;have F_:IntKind.u64.wrap ((dq (L.take i) t x:Int)+1)=((dq (L.take (i+1)) t x:Nat):Int):=by rw[wrap_u64 Z Z];simp at hc;omega
     refine CU Fl hm bV F_ e0 e1 e2 e7 e8 ?_;exact⟨L.length - (i+1),Z,i+1,Z,rfl,rfl,rfl,ha.trans (g2.le Z),Z⟩
   | false =>
     rw[hm]at hc;have jY:dq (L.take i) t x=dq (L.take (i+1)) t x:=by simp at hc;omega
     refine iQ Fl hm bV e0 e1 e2 e7 e8 ?_;exact⟨L.length - (i+1),Z,i+1,Z,rfl,by rw[jY],rfl,ha.trans (g2.le Z),Z⟩
  ·have gB:i=L.length:=Z
   refine CU Fl e0 e1 e2 e7 e8 ay aL @fe.eq_1 ?_;exact⟨by rw[gB,take_length],ha,Z⟩
def pj (n:Int):List XV:=[.int .u64 n]
def iS (L:List aR):List Int:=gV (fun _ r=>if r.kind=6 then some r.t else none) L 0
theorem f74 (ρ:aK) (hL:cP M b v L) (hb:b<=nx) (hl:L.length<=100000):ar am ρ 74 [v] M nx (og nx M 1 pj (iS L)):=by
 obtain⟨row,a9,gS⟩:=hL;have ay:=fun N=>a9.len (P:=am) (t:=35) jW.2.2.2.2.2 N
 refine ar.wk 26 [.tmp 2] Tryz.func74 ?_;refine bR Ia ?_;obtain⟨f,hf⟩:∃f:Nat->aR->Option Int,f=fun _ r=>if r.kind=6 then some r.t else none:=⟨_,rfl⟩
 have yI:iS L=gV f L 0:=by rw[hf];rfl
 refine aC (fun m' s=>∃(i:Nat) (vv:XV),i<=L.length/\m'=L.length - i/\gG s.env 0=some v/\gG s.env 3=some vv/\gG s.env 4=some (.int .i64 i)/\di s.M nx s.nx vv 1 pj (gV f (L.take i) 0)/\aq nx M s.M/\nx<=s.nx) L.length ⟨0,.nils,Z,Z,?_⟩ ?_
 ·refine bR Ia ?_
  exact⟨dG.nil _ _,aq.refl _ _,Z⟩
 ·rintro m' ⟨env,M',nx'⟩ ⟨i,vv,hi,ir,e0,e3,e4,hv,ha,hn⟩
  simp only at e0 e3 e4 hv ha hn;by_cases aL:(i:Int)<L.length
  ·have aP:i<L.length:=Z
   obtain⟨r,hr⟩:∃r,L[i]?=some r:=⟨L[i],by simp[aP]⟩;have bV:=eF i;have kS:=iM f hr;have Gl:=dS f (L.take i) 0;have FZ:(L.take i).length<=100000:=by rw[length_take];omega
   obtain⟨n,o,jw,bC,mi⟩:=a9.fldG (P:=am) aP (t:=35) jW.2.2.2.1;obtain⟨pk,pa,pb,pv,ve,dI,_⟩:=(gS i r hr).cells;have hk:=fun N hN=>mi 0 (.int .i64 r.kind) Z (by rw[dI];rfl) 3 1 dA.1 N hN
   have hT:=fun N hN=>mi 1 (.int .u64 r.t) Z (by rw[dI];rfl) 23 1 bi.1 N hN
   have hk:=hk M' (ha.le hb);have hT:=hT M' (ha.le hb);rw[Nat.add_zero]at hk;by_cases h6:r.kind=6
   ·have h_:f i r=some r.t:=by rw[hf];simp[h6]
    rw[h_]at kS;have dX:=hv.push r.t am 44 8 [.int .u64 0] Z Z rfl (by simp only[fE];omega) rfl;simp only[pj]at dX;refine ii Ia e0 e3 e4 ay aL bC hk hT h6 bV dX ?_;refine⟨L.length - (i+1),Z,i+1,_,Z,rfl,rfl,rfl,?_,fun q hq=>?_,Z⟩
    ·rw[kS]
     exact hv.pushed r.t Z Z rfl Z
    ·rw[dG.push_old hv _ (.inl hq) Z]
     have:=ha q hq;exact J
   ·have h_:f i r=none:=by rw[hf];simp[h6]
    rw[h_]at kS;refine dp Ia e0 e3 e4 ay aL bC hk h6 bV ?_;exact⟨L.length - (i+1),Z,i+1,_,Z,rfl,rfl,rfl,by rw[kS];simpa using hv.up (fun _ _ _=>rfl) Z,ha,Z⟩
  ·have gB:i=L.length:=Z
   refine gw Ia e0 e3 e4 ay aL @og.eq_1 ?_;rw[gB,take_length,<-yI]at hv;exact⟨hv.up (fun _ _ _=>rfl) Z,ha,Z⟩
def qq (t:Int) (i:Int) (r:aR) (p:Int×Int):Int×Int:=if r.t=t/\r.kind=6 then (i,1) else if r.t=t/\r.kind=7 then (i,2) else p
def pC (L:List aR) (t:Int) (a:Nat):Nat->Int×Int
 | 0=>((L.length:Int),3)
 | k+1=>match L[a+k]? with
   | some r=>qq t ((a+k:Nat):Int) r (pC L t a k)
   | none=>pC L t a k
theorem HN {L:List aR} {t:Int} {a:Nat}:∀k,a+k<=L.length->0<=(pC L t a k).1/\(pC L t a k).1<=L.length
 | 0,_=>by simp[pC]
 | k+1,h=>by
   have ih:=HN (L:=L) (t:=t) (a:=a) k Z;simp only[pC];split
   ·unfold qq
    split
    ·simp only;omega
    ·split
     ·simp only;omega
     ·exact ih
   ·exact ih
def JQ (L:List aR):Nat:=(L.filter fun r=>decide (r.kind=6)).length
theorem HW (h:L[i]?=some r):JQ (L.take (i+1))=JQ (L.take i)+(if r.kind=6 then 1 else 0):=by
 unfold JQ;rw[take_add_one,h,toList_some,filter_append,length_append];congr 1;by_cases hh:r.kind=6<;>simp[hh]
theorem Px (L:List aR):JQ L<=L.length:=length_filter_le _ _
def HY (L:List aR) (a:Nat):ku:=match L[a]? with
 | some r=>⟨r.t,a,(pC L r.t a (L.length - a)).1,(pC L r.t a (L.length - a)).2,if (pC L r.t a (L.length - a)).2=1 then ((JQ (L.take (pC L r.t a (L.length - a)).1.toNat):Nat):Int) else -1⟩
 | none=>⟨0,0,0,0,0⟩
theorem Xr (ρ:aK) (hL:cP M b v L) (hb:b<=nx) (hl:L.length<=100000) {a:Nat} (haL:a<L.length) :
 ar am ρ 143 [v,.int .i64 a] M nx (fe nx M (.agg (d_ (HY L a)))):=by
 obtain⟨row,a9,gS⟩:=hL;have ay:=fun N=>a9.len (P:=am) (t:=35) jW.2.2.2.2.2 N
 obtain⟨ra,hra⟩:∃r,L[a]?=some r:=⟨L[a],by simp[haL]⟩;have F9:HY L a=⟨ra.t,a,(pC L ra.t a (L.length - a)).1,(pC L ra.t a (L.length - a)).2,if (pC L ra.t a (L.length - a)).2=1 then ((JQ (L.take (pC L ra.t a (L.length - a)).1.toNat):Nat):Int) else -1⟩:=by unfold HY;rw[hra]
 obtain⟨n0,o0,hnb0,Zw,QJ⟩:=a9.fldG (P:=am) haL (t:=35) jW.2.2.2.1;obtain⟨pk0,pa0,pb0,pv0,ve0,QB,_⟩:=(gS a ra hra).cells;have Y2:=QJ 1 (.int .u64 ra.t) Z (by rw[QB];rfl) 23 1 bi.1 (ci M nx (.row [.int .u64 0,.int .i64 0,.int .i64 0,.int .i64 0,.int .i64 0])) ((aq.refl b M).set hb _);refine ar.wk 84 [.cell 4 185] Tryz.func143 ?_;refine ti sJ Zw Y2 ay ?_;refine aC (fun m' s=>∃(k:Nat),a+k<=L.length/\m'=L.length - (a+k)/\gG s.env 0=some v/\gG s.env 4=some (.mp nx 0)/\gG s.env 5=some (.mp (nx+10) 0)/\gG s.env 6=some (.int .i64 ((a+k:Nat):Int)) /\
  gG s.M nx=some (.row [.int .u64 0,.int .i64 0,.int .i64 0,.int .i64 0,.int .i64 0])/\gG s.M (nx+10)=some (.row [.int .u64 ra.t,.int .i64 a,.int .i64 (pC L ra.t a k).1,.int .i64 (pC L ra.t a k).2,.int .i64 (-1)])/\aq nx M s.M/\nx+11<=s.nx) (L.length - a) ⟨0,Z,Z,?_⟩ ?_
 ·refine bR sJ ?_
  exact⟨rfl,O,Z⟩
 ·rintro m' ⟨env,M',nx'⟩ ⟨k,hi,ir,e0,e4,e5,e6,z0,z5,ha,hn⟩
  simp only at e0 e4 e5 e6 z0 z5 ha hn;by_cases aL:((a+k:Nat):Int)<L.length
  ·have aP:a+k<L.length:=Z
   obtain⟨r,hr⟩:∃r,L[a+k]?=some r:=⟨L[a+k],by simp[aP]⟩;have bV:IntKind.i64.wrap (((a+k:Nat):Int)+1)=((a+(k+1):Nat):Int):=by rw[wrap_i64 Z Z];omega
   obtain⟨n,o,jw,bC,mi⟩:=a9.fldG (P:=am) aP (t:=35) jW.2.2.2.1;obtain⟨pk,pa,pb,pv,ve,dI,_⟩:=(gS _ r hr).cells;have Gm:=fun N hN=>mi 0 (.int .i64 r.kind) Z (by rw[dI];rfl) 3 1 dA.1 N hN
   have hT:=fun N hN=>mi 1 (.int .u64 r.t) Z (by rw[dI];rfl) 23 1 bi.1 N hN
   rw[Nat.add_zero]at Gm;have ZB:=fun x y=>Gm (ci (ci M' (nx+10) x) (nx+10) y) (((ha.set Z _).set Z _).le hb)
   have hT2:=fun x y=>hT (ci (ci M' (nx+10) x) (nx+10) y) (((ha.set Z _).set Z _).le hb)
   have Gm:=Gm M' (ha.le hb);have hT:=hT M' (ha.le hb);obtain⟨e,he⟩:∃e,e=(pC L ra.t a k).1:=⟨_,rfl⟩;obtain⟨st,bw⟩:∃st,st=(pC L ra.t a k).2:=⟨_,rfl⟩;have hE:pC L ra.t a (k+1)=qq ra.t ((a+k:Nat):Int) r (pC L ra.t a k):=by simp only[pC,hr]
   rw[<-he,<-bw]at z5;clear mi dI QJ QB F9 Y2;by_cases ht:r.t=ra.t
   ·by_cases h6:r.kind=6
    ·refine ii sJ e0 e4 e5 e6 ay aL bC Gm hT ht (aI h6 (aI bV (aI z0 (aI z5 (aI ZB hT2))))) ?_
     exact⟨L.length - (a+(k+1)),Z,k+1,Z,rfl,rfl,by rw[hE,qq,if_pos ⟨ht,h6⟩],(by(repeat (refine aq.set ?_ Z _));exact ha),Z⟩
    ·by_cases h7:r.kind=7
     ·refine ii sJ e0 e4 e5 e6 ay aL bC Gm hT ht (aI h6 (aI h7 (aI bV (aI z0 z5)))) ?_
      exact⟨L.length - (a+(k+1)),Z,k+1,Z,rfl,rfl,by rw[hE,qq,if_neg (fun q=>h6 q.2),if_pos ⟨ht,h7⟩],(by(repeat (refine aq.set ?_ Z _));exact ha),Z⟩
     ·refine ii sJ e0 e4 e5 e6 ay aL bC Gm hT ht (aI h6 (aI h7 (aI bV (aI z0 z5)))) ?_
      exact⟨L.length - (a+(k+1)),Z,k+1,Z,rfl,rfl,by rw[hE,qq,if_neg (fun q=>h6 q.2),if_neg (fun q=>h7 q.2),he,bw],(by(repeat (refine aq.set ?_ Z _));exact ha),Z⟩
   ·refine ii sJ e0 e4 e5 e6 ay aL bC Gm hT ht (aI bV (aI z0 z5)) ?_
    exact⟨L.length - (a+(k+1)),Z,k+1,Z,rfl,rfl,by rw[hE,qq,if_neg (fun q=>ht q.1),if_neg (fun q=>ht q.1),he,bw],(by(repeat (refine aq.set ?_ Z _));exact ha),Z⟩
  ·have hk:k=L.length - a:=Z
   subst hk;obtain⟨e,he⟩:∃e,e=(pC L ra.t a (L.length - a)).1:=⟨_,rfl⟩;obtain⟨st,bw⟩:∃st,st=(pC L ra.t a (L.length - a)).2:=⟨_,rfl⟩;have JU:=HN (L:=L) (t:=ra.t) (a:=a) (L.length - a) Z;rw[<-he,<-bw]at z5 F9;rw[<-he]at JU;rw[F9];clear F9 Y2 QJ QB;by_cases h1:st=1
   ·subst h1
    refine CU sJ e0 e4 e5 e6 ay aL z0 z5 ?_;obtain⟨en,QF⟩:∃en:Nat,e=(en:Int):=⟨e.toNat,Z⟩;subst QF;refine aC (fun m' s=>∃(j:Nat),j<=en/\m'=en - j/\gG s.env 0=some v/\gG s.env 4=some (.mp nx 0)/\gG s.env 5=some (.mp (nx+10) 0)/\gG s.env 7=some (.int .i64 j) /\
     gG s.M nx=some (.row [.int .u64 0,.int .i64 0,.int .i64 0,.int .i64 0,.int .i64 0])/\gG s.M (nx+10)=some (.row [.int .u64 ra.t,.int .i64 a,.int .i64 en,.int .i64 1,.int .i64 (JQ (L.take j))])/\aq nx M s.M/\nx+11<=s.nx) en ⟨0,Z,Z,?_⟩ ?_
    ·refine iC sJ e0 e4 e5 z0 z5 ?_
     exact⟨rfl,(by(repeat (refine aq.set ?_ Z _));exact ha),Z⟩
    ·rintro m' ⟨env,M',nx'⟩ ⟨j,hj,ir,e0,e4,e5,e7,z0,z5,ha,hn⟩
     simp only at e0 e4 e5 e7 z0 z5 ha hn;by_cases aL:(j:Int)<en
     ·have aP:j<L.length:=Z
      obtain⟨r,hr⟩:∃r,L[j]?=some r:=⟨L[j],by simp[aP]⟩;have bV:=eF j;have hc:=HW hr;have cF:=Px (L.take j);have AV:(L.take j).length<=100000:=by rw[length_take];omega
      obtain⟨n,o,jw,bC,mi⟩:=a9.fldG (P:=am) aP (t:=35) jW.2.2.2.1;obtain⟨pk,pa,pb,pv,ve,dI,_⟩:=(gS _ r hr).cells;have Gm:=mi 0 (.int .i64 r.kind) Z (by rw[dI];rfl) 3 1 dA.1 M' (ha.le hb);rw[Nat.add_zero]at Gm;by_cases h6:r.kind=6
      ·rw[if_pos h6]at hc
       have F_:IntKind.i64.wrap ((JQ (L.take j):Int)+1)=((JQ (L.take (j+1)):Nat):Int):=by rw[wrap_i64 Z Z];omega
       refine ii sJ e0 e4 e5 e7 ay aL bC Gm h6 bV (aI F_ (aI z0 z5)) ?_;exact⟨en - (j+1),Z,j+1,Z,rfl,rfl,rfl,(by(repeat (refine aq.set ?_ Z _));exact ha),Z⟩
      ·rw[if_neg h6,Nat.add_zero]at hc
       refine ii sJ e0 e4 e5 e7 ay aL bC Gm h6 bV (aI z0 z5) ?_;exact⟨en - (j+1),Z,j+1,Z,rfl,rfl,by rw[hc];rfl,ha,Z⟩
     ·have VC:j=en:=Z
      subst VC;refine dp sJ e0 e4 e5 e7 ay aL z0 z5 @fe.eq_1 ?_;exact⟨rfl,(by(repeat (refine aq.set ?_ Z _));exact ha),Z⟩
   ·refine dw sJ e0 e4 e5 e6 ay aL h1 z0 z5 @fe.eq_1 ?_
    exact⟨rfl,(by(repeat (refine aq.set ?_ Z _));exact ha),Z⟩
def Jg (L:List aR):List ku:=gV (fun i r=>if r.kind=1 then some (HY L i) else none) L 0
theorem Ft (a:ku):(d_ a).length=5:=rfl
theorem XR (ρ:aK) (hL:cP M b v L) (hb:b<=nx) (hl:L.length<=100000):ar am ρ 104 [v] M nx (og nx M 5 d_ (Jg L)):=by
 have hL0:=hL;obtain⟨row,a9,gS⟩:=hL;have ay:=fun N=>a9.len (P:=am) (t:=35) jW.2.2.2.2.2 N
 refine ar.wk 24 [.tmp 2] Tryz.func104 ?_;refine bR Ei ?_;obtain⟨f,hf⟩:∃f:Nat->aR->Option ku,f=fun i r=>if r.kind=1 then some (HY L i) else none:=⟨_,rfl⟩
 have yI:Jg L=gV f L 0:=by rw[hf];rfl
 refine aC (fun m' s=>∃(i:Nat) (vv:XV),i<=L.length/\m'=L.length - i/\gG s.env 0=some v/\gG s.env 3=some vv/\gG s.env 4=some (.int .i64 i)/\di s.M nx s.nx vv 5 d_ (gV f (L.take i) 0)/\aq nx M s.M/\nx<=s.nx) L.length ⟨0,.nils,Z,Z,?_⟩ ?_
 ·refine bR Ei ?_
  exact⟨dG.nil _ _,aq.refl _ _,Z⟩
 ·rintro m' ⟨env,M',nx'⟩ ⟨i,vv,hi,ir,e0,e3,e4,hv,ha,hn⟩
  simp only at e0 e3 e4 hv ha hn;by_cases aL:(i:Int)<L.length
  ·have aP:i<L.length:=Z
   obtain⟨r,hr⟩:∃r,L[i]?=some r:=⟨L[i],by simp[aP]⟩;have bV:=eF i;have kS:=iM f hr;have Gl:=dS f (L.take i) 0;have FZ:(L.take i).length<=100000:=by rw[length_take];omega
   obtain⟨n,o,jw,bC,mi⟩:=a9.fldG (P:=am) aP (t:=35) jW.2.2.2.1;obtain⟨pk,pa,pb,pv,ve,dI,_⟩:=(gS i r hr).cells;have hk:=fun N hN=>mi 0 (.int .i64 r.kind) Z (by rw[dI];rfl) 3 1 dA.1 N hN
   have hk:=hk M' (ha.le hb);rw[Nat.add_zero]at hk;by_cases h1:r.kind=1
   ·have h_:f i r=some (HY L i):=by rw[hf];simp[h1]
    rw[h_]at kS;refine CU Ei e0 e3 e4 ay aL bC hk h1 ?_;refine lG (Xr ρ (hL0.agr (ha.le hb)) Z hl aP) fun M2 n2 g2 g3=>?_
    have sW:di M2 nx n2 vv 5 d_ (gV f (L.take i) 0):=hv.up (fun q _ hq=>g2 q Z) Z;have dX:=sW.push (HY L i) am 226 40 [.int .u64 0,.int .i64 0,.int .i64 0,.int .i64 0,.int .i64 0] Z Z rfl (by simp only[fE];omega) rfl;obtain⟨a,Y7⟩:∃a,a=HY L i:=⟨_,rfl⟩;rw[<-Y7]at dX kS ⊢;simp only[d_]at dX ⊢;refine iC Ei bV dX e0 e3 e4 ?_;refine⟨L.length - (i+1),Z,i+1,_,Z,rfl,rfl,rfl,?_,fun q hq=>?_,Z⟩
    ·rw[kS]
     exact sW.pushed a Z Z rfl Z
    ·rw[dG.push_old sW _ (.inl hq) Z]
     have:=(g2 q Z).trans (ha q hq);exact J
   ·have h_:f i r=none:=by rw[hf];simp[h1]
    rw[h_]at kS;refine dp Ei e0 e3 e4 ay aL bC hk h1 bV ?_;exact⟨L.length - (i+1),Z,i+1,_,Z,rfl,rfl,rfl,by rw[kS];simpa using hv.up (fun _ _ _=>rfl) Z,ha,Z⟩
  ·have gB:i=L.length:=Z
   refine gw Ei e0 e3 e4 ay aL @og.eq_1 ?_;rw[gB,take_length,<-yI]at hv;exact⟨hv.up (fun _ _ _=>rfl) Z,ha,Z⟩
def nj (t:Int):List ku->ku×Bool
 | []=>(⟨0,0,0,0,0⟩,false)
 | a::l=>if a.t=t then (a,true) else nj t l
def pR (L:List aR) (t:Int):ku×Bool:=nj t (Jg L)
theorem ud {t:Int}:∀{l:List ku},(∀a ∈ l,a.t≠t)->nj t l=(⟨0,0,0,0,0⟩,false)
 | [],_=>rfl
 | a::l,h=>by
   unfold nj;rw[if_neg (h a mem_cons_self)];exact ud fun b hb=>h b (mem_cons_of_mem _ hb)
theorem rF {t:Int}:∀{l:List ku} {i:Nat} {a:ku},l[i]?=some a->a.t=t->(∀j b,j<i->l[j]?=some b->b.t≠t)->nj t l=(a,true)
 | [],_,_,h,_,_=>by simp at h
 | a::l,0,b,h,ht,_=>by
   simp only[getElem?_cons_zero,Option.some.injEq]at h;subst h;unfold nj;rw[if_pos ht]
 | a::l,i+1,b,h,ht,hn=>by
   unfold nj;rw[if_neg (hn 0 a Z rfl)];exact rF (by simpa using h) ht fun j c hj hc=>hn (j+1) c Z (by simpa using hc)
theorem f75 (ρ:aK) (hL:cP M b v L) (hb:b<=nx) (hl:L.length<=100000) (t:Int) :
 ar am ρ 75 [v,.int .u64 t] M nx (fe nx M (.tup [.agg (d_ (pR L t).1),.bool (pR L t).2])):=by
 refine ar.wk 28 [.cell 4 185,.tmp 5] Tryz.func75 ?_;refine bR FI ?_;generalize xu:ci M nx _=M1;have a1:aq nx M M1:=by rw[<-xu];exact O
 have z0:gG M1 nx=some (.row [.int .u64 0,.int .i64 0,.int .i64 0,.int .i64 0,.int .i64 0]):=by rw[<-xu];exact J
 clear xu;refine gQ (XR ρ (hL.agr (a1.le hb)) Z hl) ?_;rintro⟨u,M2,n2⟩ ⟨g1,g2,g3⟩;simp only at g1 g2 g3;have z1:=(g2 nx Z).trans z0;have a2:=a1.trans (g2.le Z);obtain⟨l,qz⟩:∃l,l=Jg L:=⟨_,rfl⟩;have Zo:pR L t=nj t l:=by rw[qz];rfl
 have NW:l.length<=100000:=by rw[qz];exact Nat.le_trans (dS _ _ _) hl
 rw[Zo];rw[<-qz]at g1;have a9:=g1.at (Nat.le_refl n2);have ay:=fun N=>a9.len (P:=am) (t:=226) zA.2.2.2.2.2 N
 refine bR FI ?_;refine aC (fun m' s=>∃(i:Nat),i<=l.length/\m'=l.length - i/\gG s.env 1=some (.int .u64 t)/\gG s.env 4=some (.mp nx 0)/\gG s.env 6=some u/\gG s.env 7=some (.int .i64 i)/\(∀j a,j<i->l[j]?=some a->a.t≠t) /\
  gG s.M nx=some (.row [.int .u64 0,.int .i64 0,.int .i64 0,.int .i64 0,.int .i64 0])/\aq n2 M2 s.M/\n2<=s.nx) l.length ⟨0,Z,Z,?_⟩ ?_
 ·refine bR FI ?_
  exact⟨fun j a h=>absurd h (not_lt_zero _),z1,aq.refl _ _,Z⟩
 ·rintro m' ⟨env,M',nx'⟩ ⟨i,hi,ir,e1,e4,e6,e7,sy,z0,ha,hn⟩
  simp only at e1 e4 e6 e7 z0 ha hn;by_cases aL:(i:Int)<l.length
  ·have aP:i<l.length:=Z
   obtain⟨a,JW⟩:∃a,l[i]?=some a:=⟨l[i],by simp[aP]⟩;have bV:=eF i;obtain⟨n,o,jw,bC,mi⟩:=a9.fldG (P:=am) aP (t:=226) zA.2.2.2.1;have bA:=eT Ft JW;have hT:=mi 0 (.int .u64 a.t) Z (by rw[bA];rfl) 23 1 bi.1 M' ha;rw[Nat.add_zero]at hT;by_cases ht:a.t=t
   ·obtain⟨n',o',_,Zv,aU⟩:=a9.elem (P:=am) aP (t:=226) (t':=185) zA.2.2.2.1 DT.1
    have aU:=aU M' ha;rw[bA]at aU;have Zn:=rF JW ht sy;rw[Zn];have e:n'=n/\o'=o:=by
     have:=(Zv .i64).symm.trans (bC .i64);simpa using this
    rw[e.1,e.2]at aU;simp only[d_]at aU;refine ii FI e1 e4 e6 e7 ay aL bC hT ht aU (aI z0 @fe.eq_1) ?_;exact⟨by simp only[d_,ht],fun q hq=>(by have:=(ha q Z).trans (a2 q hq);exact J),Z⟩
   ·refine ii FI e1 e4 e6 e7 ay aL bC hT ht bV z0 ?_
    refine⟨l.length - (i+1),Z,i+1,Z,rfl,rfl,fun j c hj hc=>?_,ha,Z⟩;by_cases e:j=i
    ·subst e
     rw[JW]at hc;cases hc;exact ht
    ·exact sy j c Z hc
  ·have Zn:=ud (t:=t) (l:=l) fun a ha=>by
    obtain⟨j,hj,rfl⟩:=mem_iff_getElem.1 ha;exact sy j _ Z (getElem?_eq_getElem hj)
   rw[Zn];refine CU FI e1 e4 e6 e7 ay aL z0 @fe.eq_1 ?_;exact⟨rfl,fun q hq=>(by have:=(ha q Z).trans (a2 q hq);exact J),Z⟩
theorem nu (a:Int):(pj a).length=1:=rfl
theorem jK (a:bO):(aV a).length=4:=rfl
def o7 (L:List aR) (x:Int) (i:Nat) (t:Int):Option bO:=if 0<dq L t x then some ⟨t,dq L t x,i,(pR L t).1.e⟩ else none
def gX (L:List aR) (x:Int):List bO:=gV (o7 L x) (iS L) 0
theorem Ar (L:List aR):(iS L).length<=L.length:=dS _ _ _
theorem nN (L:List aR) (x:Int):(gX L x).length<=L.length:=Nat.le_trans (dS _ _ _) (Ar L)
theorem Ro (ρ:aK) (hL:cP M b v L) (hb:b<=nx) (hl:L.length<=100000) (x:Int):ar am ρ 45 [v,.int .u64 x] M nx (og nx M 4 aV (gX L x)):=by
 refine ar.wk 51 [.tmp 4] Tryz.func45 ?_;refine bR Ap ?_;refine gQ (f74 ρ hL Z hl) ?_;rintro⟨u,M1,n1⟩ ⟨g1,g2,g3⟩;simp only at g1 g2 g3;obtain⟨cl,cF⟩:∃cl,cl=iS L:=⟨_,rfl⟩;have Zb:cl.length<=100000:=by rw[cF];exact Nat.le_trans (Ar L) hl
 have bA:gX L x=gV (o7 L x) cl 0:=by rw[cF];rfl
 rw[bA];rw[<-cF]at g1;have a9:=g1.at (Nat.le_refl n1);have ay:=fun N=>a9.len (P:=am) (t:=44) fu.2.2.2.2.2 N
 refine bR Ap ?_;refine aC (fun m' s=>∃(i:Nat) (vv:XV),i<=cl.length/\m'=cl.length - i/\gG s.env 0=some v/\gG s.env 1=some (.int .u64 x)/\gG s.env 5=some vv/\gG s.env 6=some u/\gG s.env 7=some (.int .i64 i)/\di s.M n1 s.nx vv 4 aV (gV (o7 L x) (cl.take i) 0)/\aq n1 M1 s.M/\n1<=s.nx) cl.length ⟨0,.nils,Z,Z,?_⟩ ?_
 ·refine bR Ap ?_
  exact⟨dG.nil _ _,aq.refl _ _,Z⟩
 ·rintro m' ⟨env,M',nx'⟩ ⟨i,vv,hi,ir,e0,e1,e5,e6,e7,hv,ha,hn⟩
  simp only at e0 e1 e5 e6 e7 hv ha hn;by_cases aL:(i:Int)<cl.length
  ·have aP:i<cl.length:=Z
   obtain⟨t,ht⟩:∃t,cl[i]?=some t:=⟨cl[i],by simp[aP]⟩;have bV:=eF i;have kS:=iM (o7 L x) ht;have Gl:=dS (o7 L x) (cl.take i) 0;have FZ:(cl.take i).length<=100000:=by rw[length_take];omega
   obtain⟨n,o,jw,bC,mi⟩:=a9.fldG (P:=am) aP (t:=44) fu.2.2.2.1;have aU:=fun N hN=>mi 0 (.int .u64 t) Z (by rw[eT nu ht];rfl) 23 1 bi.1 N hN
   rw[Nat.add_zero]at aU;have QR:=aU M' ha;clear mi;refine dp Ap e0 e1 e5 e6 e7 ay aL bC QR ?_;have a1:aq nx M M':=(g2.le Z).trans (ha.le Z);refine gQ (f75 ρ (hL.agr (a1.le hb)) Z hl t) ?_;rintro⟨u2,M2,n2⟩ ⟨k1,k2,k3⟩;simp only at k1 k2 k3;subst k1;have jX:=ha.trans (k2.le Z);obtain⟨a,Zm⟩:∃a,a=(pR L t).1:=⟨_,rfl⟩;obtain⟨ab,hfb⟩:∃a,a=(pR L t).2:=⟨_,rfl⟩;have dJ:=fun c y z=>aU (ci (ci M2 (n2+c) y) (n2+c) z) ((jX.set Z _).set Z _)
   rw[<-Zm,<-hfb];simp only[d_];refine iQ Ap e0 e1 e5 e6 e7 bC dJ ?_;generalize oM:ci (ci M2 _ _) _ _=M3;have a3:aq n2 M2 M3:=by rw[<-oM];exact O
   have m8:gG M3 (n2+3)=some (.row [.int .u64 a.t,.int .i64 a.b,.int .i64 a.e,.int .i64 a.s,.int .i64 a.n]):=by rw[<-oM];exact J
   clear oM;refine lG (f76 ρ (hL.agr ((a1.trans (k2.le Z)).trans (a3.le Z) |>.le hb)) Z hl t x) fun M4 n4 j2 j3=>?_
   have m9:=(j2 (n2+3) Z).trans m8;have a4:aq nx' M' M4:=(k2.trans (a3.le k3)).trans (j2.le Z) |>.le Z
   have VU:di M4 n1 n4 vv 4 aV (gV (o7 L x) (cl.take i) 0):=hv.up (fun q _ hq=>a4 q Z) Z;obtain⟨c,hc⟩:∃c,c=dq L t x:=⟨_,rfl⟩;rw[<-hc];by_cases h0:(0:Int)<(c:Int)
   ·have h_:o7 L x i t=some ⟨t,c,i,a.e⟩:=by unfold o7;rw[if_pos Z,<-hc,<-Zm]
    rw[h_]at kS;have ZG:=aU M4 (ha.trans (a4.le Z));have dX:=VU.push ⟨t,c,i,a.e⟩ am 121 32 [.int .u64 0,.int .u64 0,.int .i64 0,.int .i64 0] Z Z rfl (by simp only[fE];omega) rfl;simp only[aV]at dX;refine ii Ap e0 e1 e5 e6 e7 bC h0 m9 ZG dX (aI @Fo bV) ?_;refine⟨cl.length - (i+1),Z,i+1,_,Z,rfl,rfl,rfl,?_,fun q hq=>?_,Z⟩
    ·rw[kS]
     exact VU.pushed ⟨t,c,i,a.e⟩ Z Z rfl Z
    ·rw[dG.push_old VU _ (.inl hq) Z]
     have:=(a4 q Z).trans (ha q hq);exact J
   ·have h_:o7 L x i t=none:=by unfold o7;rw[if_neg Z]
    rw[h_]at kS;refine iQ Ap e0 e1 e5 e6 e7 h0 bV ?_;exact⟨cl.length - (i+1),Z,i+1,_,Z,rfl,rfl,rfl,by rw[kS];simpa using VU.up (fun _ _ _=>rfl) Z,ha.trans (a4.le Z),Z⟩
  ·have gB:i=cl.length:=Z
   refine CU Ap e0 e1 e5 e6 e7 ay aL @og.eq_1 ?_;rw[gB,take_length]at hv;refine⟨dG.keep hv fun k hk=>?_,(g2.le Z).trans (ha.le Z),Z⟩;obtain⟨r1,r2⟩:n1<=k/\k<nx':=hk;exact⟨rfl,Z,Z⟩
end Go.Xs
namespace Go.Xs
open List Nat Option
variable{M:Hp}{b o:Nat}{f:Int->Option (List bO)}
noncomputable section
open Go.Proofs
theorem lastS_insAt {l:List bO} (e:bO) (h:l.getLast?=some e):ce l l.length=([.int .u64 e.w,.int .u64 e.n],true):=by
 have cf:l≠[]:=fun q=>by rw[q]at h;cases h
 have hl:0<l.length:=length_pos_iff.2 cf;unfold ce;rw[if_neg Z,if_neg Z];rw[getLast?_eq_getElem?]at h;have:((l.length:Int) - 1).toNat=l.length - 1:=Z;rw[this,h]
theorem X1 (ρ:aK) (h:ey M b o f) (x:Int) {l:List bO} (hx:f x=some l):∃v,kn M b v l/\∀N n',aq b M N->ar am ρ 54 [.mp o 0,.int .u64 x] N n' (fe n' N v):=by
 obtain⟨ho,rm,c,lm,h1,h2,h3,h4,h5⟩:=h;cases hv:aH lm x with
 | none=>rw[h4 x hv]at hx;cases hx
 | some v =>
   obtain⟨ins,h6,h7⟩:=h5 x v hv;rw[hx]at h6;cases h6;refine⟨v,h7,fun N n' hN=>?_⟩;obtain⟨rk,sv,rfl,h8,h9,Gf⟩:=h7;have z1:=(hN o ho).trans h1;have z2:=(hN rm h2).trans h3;refine ar.wk 24 [.tmp 4] Tryz.func54 ?_;refine lO HB z1 z2 hv @fe.eq_1 ?_;exact⟨aq.refl _ _,Z⟩
theorem Ys (ρ:aK) {nx:Nat} (h:ey M b o f) (hb:b<=nx) (x:Int) {l:List bO} (hx:f x=some l) (few:l.length<=1000000) {e:bO} (he:l.getLast?=some e) :
 ar am ρ 26 [.mp o 0,.int .u64 x] M nx (fe nx M (.agg [.int .u64 e.w,.int .u64 e.n])):=by
 refine ar.closed fun cF aX=>?_
 obtain⟨v,bA,hf⟩:=X1 ρ h x hx;have D4:=lastS_insAt e he;obtain⟨rk,sv,hv,Gr,_⟩:=id bA;subst hv;have ho:aO nx (.mp o 0)=true:=cq aX ae;have Us:aO nx (.mp rk 0)=true:=by simp only[aO,blt_eq];omega
 have a0:∀q,aq nx M (ci M nx q):=fun q=>(aq.refl _ _).set (Nat.le_refl _) q
 have ay:(f x).getD []=l:=by rw[hx];rfl
 refine ar.wk 20 [.cell 4 25] Tryz.func26 ?_;refine dt Kn ?_;refine aT (bN.read ((cF.le Z).set Z rfl) ?_ (aO.le Z Us) fun N hN=>hf N _ (((a0 _).trans (hN.le Z)).le hb)) af ?_
 ·simp only[aE];rw[aO.le Z ho];rfl
 refine fM Kn @aA ?_;refine aT (bN.read ((cF.le Z).set Z rfl) ?_ rfl fun N hN=>Rp ρ (h.agr (((a0 _).trans (hN.le Z)).le hb)) Z x) af ?_
 ·simp only[aE];rw[aO.le Z ho];rfl
 refine gk Kn @aA ay ?_;refine aT (bN.read ((cF.le Z).set Z rfl) ?_ ?_ fun N hN=>RB ρ (bA.agr (((a0 _).trans (hN.le Z)).le hb)) Z l.length Z) af ?_
 ·simp only[aE];rw[aO.le Z Us];rfl
 ·rw[D4];rfl
 rw[D4];refine gk Kn @aA @fe.eq_1 ?_;refine⟨⟨?_,?_,?_⟩,O,Z⟩
 all_goals refine bn _ _ _ _ _ _ ?_ ?_ ?_<;>(intro q hq hy;simp[mem_range]at hq hy;try omega)
end
end Go.Xs
namespace Go.Xs
open List Nat Option
variable{M:Hp}{b nx o:Nat}{f:Int->Option (List bO)}
noncomputable section
open Go.Proofs
def jF (l:List bO) (w n:Int):List XV×Bool:=if (ba l w n).2=false then ([.int .u64 0,.int .u64 0],false) else ce l ((ba l w n).1 - 1)
theorem zG (l:List bO) (i:Int):∃a c,(ce l i).1=[.int .u64 a,.int .u64 c]\/((ce l i).1=[]/\0<i/\i<=l.length):=by
 unfold ce;by_cases h:i=0
 ·exact⟨0,0,.inl (by rw[if_pos h])⟩
 ·rw[if_neg h]
  by_cases h2:i<0\/(l.length:Int)<i
  ·exact⟨0,0,.inl (by rw[if_pos h2])⟩
  ·rw[if_neg h2]
   cases hl:l[(i - 1).toNat]? with
   | some e=>exact⟨e.w,e.n,.inl rfl⟩
   | none=>exact⟨0,0,.inr ⟨rfl,Z,Z⟩⟩
theorem sb (l:List bO) (i:Int):∃a c,(ce l i).1=[.int .u64 a,.int .u64 c]:=by
 obtain⟨a,c,h | ⟨h,h1,h2⟩⟩:=zG l i
 ·exact⟨a,c,h⟩
 ·exfalso
  unfold ce at h;rw[if_neg Z,if_neg Z]at h;have hl:(i - 1).toNat<l.length:=Z;rw[getElem?_eq_getElem hl]at h;cases h
theorem sY (ρ:aK) (h:ey M b o f) (hb:b<=nx) (x w n:Int) :
 ar am ρ 18 [.mp o 0,.int .u64 x,.agg [.int .u64 w,.int .u64 n]] M nx (fe nx M (.tup [.agg (jF ((f x).getD []) w n).1,.bool (jF ((f x).getD []) w n).2])):=by
 refine ar.wk 33 [.cell 6 25,.tmp 7] Tryz.func18 ?_;refine dt Ed ?_;generalize xu:ci (ci M nx _) _ _=M1;have a1:aq nx M M1:=by rw[<-xu];exact O
 have z1:gG M1 nx=some (.row [.int .u64 w,.int .u64 n]):=by rw[<-xu];exact J
 have z0:gG M1 (nx+1)=some (.row [.int .u64 0,.int .u64 0]):=by rw[<-xu];exact J
 clear xu;refine gQ (zi ρ (h.agr (a1.le hb)) Z x) ?_;rintro⟨u,M2,n2⟩ ⟨g1,g2,g3⟩;simp only at g1 g2 g3;have a2:aq nx M M2:=a1.trans (g2.le Z);have z2:=(g2 nx Z).trans z1;have z3:=(g2 (nx+1) Z).trans z0;obtain⟨l,hl⟩:∃l,l=(f x).getD []:=⟨_,rfl⟩;rw[<-hl]at g1 ⊢;have DX:=g1.at Z;obtain⟨rk,sv,e1,e0,e2,e3,e4⟩:=g1;subst e1;clear g2 h;refine fM Ed z2 ?_;refine lL (Nl ρ DX Z w n) af ?_ ?_
 ·refine dt Ed ?_;try exact⟨⟩
 rintro⟨u,M3,n3⟩ ⟨k1,k2,k3⟩;simp only at k1 k2 k3;subst k1;have a3:=a2.trans (k2.le Z);have y0:=(k2 (nx+1) Z).trans z3;have JZ:=jt l w n;have hz:=e4.1;cases uW:(ba l w n).2 with
 | false =>
   refine jz Ed uW y0 @fe.eq_1 ?_;exact⟨by simp[jF,uW],(by(repeat (refine aq.set ?_ Z _));exact a3),Z⟩
 | true =>
   have hw:IntKind.i64.wrap ((ba l w n).1 - 1)=(ba l w n).1 - 1:=wrap_i64 Z Z;refine gk Ed uW hw ?_;refine lG (RB ρ (DX.agr (k2.le Z)) Z ((ba l w n).1 - 1) Z) fun M4 n4 r2 r3=>?_
   have y1:=(r2 (nx+1) Z).trans y0;obtain⟨a,c,RL⟩:=sb l ((ba l w n).1 - 1);rw[RL];refine gk Ed y1 @fe.eq_1 ?_;exact⟨by simp[jF,uW,RL],(by(repeat (refine aq.set ?_ Z _));exact a3.trans (r2.le Z)),Z⟩
def oi (l:List bO) (pos:Int) (v:Int×Int):Int×Int:=l.foldl (fun v e=>if e.en<pos then (e.w,e.n) else v) v
theorem wh {l:List bO} {i:Nat} {e:bO} (h:l[i]?=some e) (pos:Int):oi (l.take (i+1)) pos (0,0)=if e.en<pos then (e.w,e.n) else oi (l.take i) pos (0,0):=by
 have:l.take (i+1)=l.take i++[e]:=by rw[take_add_one,h];rfl
 unfold oi;rw[this,foldl_append];rfl
theorem Sk (ρ:aK) (h:ey M b o f) (hb:b<=nx) (x pos:Int) :
 ar am ρ 27 [.mp o 0,.int .u64 x,.int .i64 pos] M nx (fe nx M (.agg [.int .u64 (oi ((f x).getD []) pos (0,0)).1,.int .u64 (oi ((f x).getD []) pos (0,0)).2])):=by
 refine ar.wk 29 [.cell 6 25] Tryz.func27 ?_;refine dt EN ?_;generalize xu:ci M nx _=M1;have a1:aq nx M M1:=by rw[<-xu];exact O
 have z0:gG M1 nx=some (.row [.int .u64 0,.int .u64 0]):=by rw[<-xu];exact J
 clear xu;refine gQ (zi ρ (h.agr (a1.le hb)) Z x) ?_;rintro⟨u,M2,n2⟩ ⟨g1,g2,g3⟩;simp only at g1 g2 g3;have a2:aq nx M M2:=a1.trans (g2.le Z);have z3:=(g2 nx Z).trans z0;obtain⟨l,hl⟩:∃l,l=(f x).getD []:=⟨_,rfl⟩;rw[<-hl]at g1 ⊢;obtain⟨rk,sv,e1,e0,e2,e3,e4⟩:=g1;subst e1;clear g2 h;have ay:=fun N=>e4.len (P:=am) (t:=100) cU.2.2.2.2.2 N
 have hz:=e4.1;refine gk EN e3 ay ?_;refine aC (fun m' s=>∃i:Nat,i<=l.length/\m'=l.length - i/\gG s.env 2=some (.int .i64 pos)/\gG s.env 6=some (.mp nx 0)/\gG s.env 15=some sv/\gG s.env 16=some (.int .i64 l.length)/\gG s.env 17=some (.int .i64 i) /\
  gG s.M nx=some (.row [.int .u64 (oi (l.take i) pos (0,0)).1,.int .u64 (oi (l.take i) pos (0,0)).2])/\aq nx M2 s.M/\n2<=s.nx) l.length ⟨0,Z,Z,?_⟩ ?_
 ·refine dt EN ?_
  exact⟨z3,aq.refl _ _,Z⟩
 ·rintro m' ⟨env,M',nx'⟩ ⟨i,hi,ir,f2,f6,ni,oF,qH,hv,ha,hn⟩
  simp only at f2 f6 ni oF qH hv ha hn;by_cases aL:(i:Int)<l.length
  ·have aP:i<l.length:=Z
   obtain⟨e,gA⟩:∃e,l[i]?=some e:=⟨l[i],by simp[aP]⟩;obtain⟨q,o,Oc,bC,aU⟩:=e4.elem (P:=am) aP (t:=100) (t':=106) cU.2.2.2.1 gZ.1;have aU:=aU M' (ha.le Z);rw[jr l i e gA]at aU;simp only[aV]at aU;have bV:=eF i;have bw:=wh gA pos;by_cases hc:e.en<pos
   ·rw[if_pos hc]at bw
    refine yq EN f2 @f6 @ni @oF @qH aL bC aU bV hc hv ?_;exact⟨l.length - (i+1),Z,i+1,Z,rfl,rfl,by rw[bw],(by(repeat (refine aq.set ?_ Z _));exact ha),Z⟩
   ·rw[if_neg hc]at bw
    refine yq EN f2 @f6 @ni @oF @qH aL bC aU bV hc hv ?_;exact⟨l.length - (i+1),Z,i+1,Z,rfl,rfl,by rw[bw],(by(repeat (refine aq.set ?_ Z _));exact ha),Z⟩
  ·have gB:l.take i=l:=take_of_length_le Z
   rw[gB]at hv;refine wT EN f2 @f6 @ni @oF @qH aL hv @fe.eq_1 ?_;exact⟨(by(repeat (refine aq.set ?_ Z _));exact a2.trans ha),Z⟩
end
end Go.Xs
namespace Go.Xs
open List Nat Option
noncomputable section
inductive OT where
 | none | ord | map | row (x:Int) | sl (x:Int)
structure oh (M:Hp) (lo hi o rm c:Nat) (l:List (Nat×Int×XV)) (tag:Nat->OT) (f:Int->List bO):Prop where
 olo:lo<=o
 ohi:o<hi
 otg:tag o = .ord
 orow:gG M o=some (.row [.mm rm])
 rlo:lo<=rm
 rhi:rm<hi
 rtg:tag rm = .map
 map:gG M rm=some (.map (cx vX l) c)
 born:kD l c
 none:∀x,aH l x = .none->f x=[]
 some:∀x v,aH l x = .some v->∃rk sv,v = .mp rk 0/\lo<=rk/\rk<hi/\tag rk = .row x/\gG M rk = .some (.row [sv])/\f x≠[]/\bS M lo hi tag (.sl x) sv 4 (f x).length ((f x).flatMap aV)
variable {M M':Hp} {lo hi hi' o rm c c':Nat} {l l':List (Nat×Int×XV)} {tag tag':Nat->OT} {f:Int->List bO}
theorem oh.agr (H:oh M lo hi o rm c l tag f) (ha:aq hi M M'):oh M' lo hi o rm c l tag f :=
 { olo:=H.olo,ohi:=H.ohi,otg:=H.otg,orow:=(ha o H.ohi).trans H.orow,rlo:=H.rlo,rhi:=H.rhi,rtg:=H.rtg,map:=(ha rm H.rhi).trans H.map,born:=H.born,none:=H.none
   some:=fun x v hx=>by
    obtain⟨rk,sv,h1,h2,h3,h4,h5,h6,h7⟩:=H.some x v hx;exact⟨rk,sv,h1,h2,h3,h4,(ha rk h3).trans h5,h6,h7.agr ha (Nat.le_refl _)⟩ }
theorem oh.up (H:oh M lo hi o rm c l tag f) (hh:hi<=hi') (cH:∀k,k<hi->tag' k=tag k):oh M lo hi' o rm c l tag' f :=
 { olo:=H.olo,ohi:=Nat.lt_of_lt_of_le H.ohi hh,otg:=by rw[cH o H.ohi];exact H.otg,orow:=H.orow,rlo:=H.rlo,rhi:=Nat.lt_of_lt_of_le H.rhi hh,rtg:=by rw[cH rm H.rhi];exact H.rtg,map:=H.map,born:=H.born,none:=H.none
   some:=fun x v hx=>by
    obtain⟨rk,sv,h1,h2,h3,h4,h5,h6,h7⟩:=H.some x v hx;exact⟨rk,sv,h1,h2,Nat.lt_of_lt_of_le h3 hh,by rw[cH rk h3];exact h4,h5,h6,h7.keep (fun k hk hg=>⟨rfl,by rw[cH k hk];exact hg⟩) hh⟩ }
theorem oh.set {x:Int} {rk:Nat} {sv':XV} {g:List bO} (H:oh M lo hi o rm c l tag f) (hx:aH l x = .some (.mp rk 0))
 (keep:∀k,k<hi->tag k ≠ .row x->tag k ≠ .sl x->gG M' k=gG M k) (cH:∀k,k<hi->tag' k=tag k) (hh:hi<=hi') (bA:gG M' rk = .some (.row [sv'])) (hg:g≠[]) (a9:bS M' lo hi' tag' (.sl x) sv' 4 g.length (g.flatMap aV)) :
 oh M' lo hi' o rm c l tag' (fun y=>if y=x then g else f y) :=
 { olo:=H.olo,ohi:=Nat.lt_of_lt_of_le H.ohi hh,otg:=by rw[cH o H.ohi];exact H.otg,orow:=(keep o H.ohi (by rw[H.otg];simp) (by rw[H.otg];simp)).trans H.orow
   rlo:=H.rlo,rhi:=Nat.lt_of_lt_of_le H.rhi hh,rtg:=by rw[cH rm H.rhi];exact H.rtg,map:=(keep rm H.rhi (by rw[H.rtg];simp) (by rw[H.rtg];simp)).trans H.map,born:=H.born
   none:=fun y hy=>by
    have:y≠x:=fun e=>by rw[e,hx]at hy;cases hy
    simp only[if_neg this];exact H.none y hy
   some:=fun y v hy=>by
    by_cases e:y=x
    ·subst e
     rw[hx]at hy;cases hy;obtain⟨rk',sv,h1,h2,h3,h4,h5,h6,h7⟩:=H.some y _ hx;cases h1;simp only[if_true];exact⟨rk,sv',rfl,h2,Nat.lt_of_lt_of_le h3 hh,by rw[cH rk h3];exact h4,bA,hg,a9⟩
    ·obtain⟨rk',sv,h1,h2,h3,h4,h5,h6,h7⟩:=H.some y v hy
     simp only[if_neg e];exact⟨rk',sv,h1,h2,Nat.lt_of_lt_of_le h3 hh,by rw[cH rk' h3];exact h4,(keep rk' h3 (by rw[h4];simp[e]) (by rw[h4];simp)).trans h5,h6,h7.keep (fun k hk hg=>⟨keep k hk (by rw[hg];simp) (by rw[hg];simp[e]),by rw[cH k hk];exact hg⟩) hh⟩ }
theorem oh.add {x:Int} {rk:Nat} {sv':XV} {g:List bO} (H:oh M lo hi o rm c l tag f) (hx:aH l x = .none)
 (keep:∀k,k<hi->k≠rm->gG M' k=gG M k) (cH:∀k,k<hi->tag' k=tag k) (hh:hi<=hi') (yQ:gG M' rm = .some (.map (cx vX (dD l c x (.mp rk 0))) (l8 l c x))) (rlo:hi<=rk) (rhi:rk<hi') (rtg:tag' rk = .row x) (bA:gG M' rk = .some (.row [sv'])) (hg:g≠[]) (a9:bS M' lo hi' tag' (.sl x) sv' 4 g.length (g.flatMap aV)) :
 oh M' lo hi' o rm (l8 l c x) (dD l c x (.mp rk 0)) tag' (fun y=>if y=x then g else f y) :=
 { olo:=H.olo,ohi:=Nat.lt_of_lt_of_le H.ohi hh,otg:=by rw[cH o H.ohi];exact H.otg,orow:=(keep o H.ohi fun e=>by have:=H.otg;rw[e,H.rtg]at this;cases this).trans H.orow
   rlo:=H.rlo,rhi:=Nat.lt_of_lt_of_le H.rhi hh,rtg:=by rw[cH rm H.rhi];exact H.rtg,map:=yQ,born:=zV H.born
   none:=fun y hy=>by
    rw[cQ]at hy;split at hy
    ·cases hy
    ·rename_i e
     simp only[if_neg e];exact H.none y hy
   some:=fun y v hy=>by
    rw[cQ]at hy;split at hy
    ·rename_i e
     subst e;cases hy;simp only[if_true];exact⟨rk,sv',rfl,by have:=H.olo;have:=H.ohi;omega,rhi,rtg,bA,hg,a9⟩
    ·rename_i e
     obtain⟨rk',sv,h1,h2,h3,h4,h5,h6,h7⟩:=H.some y v hy;simp only[if_neg e];have ne:∀k,k<hi->tag k ≠ .map->k≠rm:=fun k _ h e=>h (by rw[e];exact H.rtg)
     exact⟨rk',sv,h1,h2,Nat.lt_of_lt_of_le h3 hh,by rw[cH rk' h3];exact h4,(keep rk' h3 (ne rk' h3 (by rw[h4];simp))).trans h5,h6,h7.keep (fun k hk hg=>⟨keep k hk (ne k hk (by rw[hg];simp)),by rw[cH k hk];exact hg⟩) hh⟩ }
end
end Go.Xs
namespace Go.Xs
open List Nat Option
variable{M:Hp}{S:HS}{cs:List XV}{h hi k lo nx:Nat}{r:aR}
open Go.Proofs
theorem f66 (ρ:aK) (H:bX M lo hi h S) (hh:hi<=nx) (few:S.looks.length<=100000) (a:my) (cnt:0<=(S.obj a.x).getD 0/\(S.obj a.x).getD 0<=1000000000) :
 ar am ρ 66 [.mp h 0,.agg (cX a)] M nx fun o=>o.1 = .tup []/\bX o.2.1 lo o.2.2 h (S.look a)/\aq lo M o.2.1/\nx<=o.2.2:=by
 obtain⟨tag,vrec,vtxs,vcom,vmods,vlook,nk,vk,ok,cn,cv,co,ptrs,lnum,lver,lobj,H⟩:=H;replace H:=H.norm;obtain⟨JM,Sc⟩:∃f,f=fun k=>if k<hi then tag k else Hg.none:=⟨_,rfl⟩
 rw[<-Sc]at H;clear Sc;have hr:=H.row;have vg:=H.h_hi;have mo:=H.lo_h;have UC:=H.ohi;have UD:=H.olo;have VM:=H.obj;have n1:=aZ H.tg H.otg ae;have jc:=H.objS a.x;rw[<-jc]at cnt;have hw:IntKind.i64.wrap ((aH lobj a.x).getD 0+1)=(aH lobj a.x).getD 0+1:=wrap_i64 Z Z;simp only[cX];obtain⟨hz,cF,⟨rfl,pG⟩ | ⟨hl,sk,rfl,s1,s2,s3,s4⟩⟩:=H.looks
 ·have hd:aw h ok=False/\aw ok h=False:=by simp only[aw,eq_iff_iff,iff_false];exact⟨n1,n1.symm⟩
  refine ar.wk 22 [] Tryz.func66 ?_;refine lO Sn hr VM hd hw ?_;refine⟨bn _ _ _ _ _ _ (fun q hq=>by simp only[mem_singleton]at hq ⊢;omega) (fun q hq=>ae) (fun q hq=>by simp at hq),⟨fun k=>if k=nx+8 then .looks else JM k,vrec,vtxs,vcom,vmods,.sl (nx+8) 8 0 (S.looks.length+1) (S.looks.length+1),nk,vk,ok,cn,cv,l8 lobj co a.x,ptrs,lnum,lver,dD lobj co a.x ((aH lobj a.x).getD 0+1),H.look (fun k hk hc=>?_) (fun k hk=>if_neg Z) Z (by rw[pG];exact J) ?_ J fun x=>?_⟩,fun k hk=>J,Z⟩
  ·have e1:k≠h:=fun e=>hc (by rw[e];exact .inl H.tg)
   have e2:k≠ok:=fun e=>hc (by rw[e];exact .inr (.inr H.otg))
   exact J
  ·have NO:S.looks=[]:=length_eq_zero_iff.1 pG
   rw[NO];exact⟨ae,by simp[cX],.inr ⟨ae,nx+8,ae,Z,Z,ae,J⟩⟩
  ·rw[cQ]
   simp only[HS.look,jc,H.objS x]
 ·have n2:=aZ H.tg s3 ae
  have n3:=aZ H.otg s3 ae;have hd:aw h ok=False/\aw ok h=False/\aw h sk=False/\aw sk h=False/\aw ok sk=False/\aw sk ok=False:=by simp only[aw,eq_iff_iff,iff_false];exact⟨n1,n1.symm,n2,n2.symm,n3,n3.symm⟩
  refine ar.wk 22 [] Tryz.func66 ?_;refine ky Sn hr VM hd hw s4 cF ?_;refine⟨bn _ _ _ _ _ _ (fun q hq=>by simp only[mem_singleton]at hq ⊢;omega) (fun q hq=>ae) (fun q hq=>by simp at hq),⟨fun k=>if k=nx+8 then .looks else JM k,vrec,vtxs,vcom,vmods,.sl (nx+8) 8 0 (S.looks.length+1) (S.looks.length+1),nk,vk,ok,cn,cv,l8 lobj co a.x,ptrs,lnum,lver,dD lobj co a.x ((aH lobj a.x).getD 0+1),H.look (fun k hk hc=>?_) (fun k hk=>if_neg Z) Z J ?_ J fun x=>?_⟩,fun k hk=>J,Z⟩
  ·have e1:k≠h:=fun e=>hc (by rw[e];exact .inl H.tg)
   have e2:k≠ok:=fun e=>hc (by rw[e];exact .inr (.inr H.otg))
   have e3:k≠sk:=fun e=>hc (by rw[e];exact .inr (.inl s3))
   exact J
  ·have kB:List.take (S.looks.length*8) (S.looks.flatMap cX)=S.looks.flatMap cX:=by rw[<-cF,take_length]
   refine⟨Z,by rw[flatMap_append,length_append,cF];simp[cX];omega,.inr ⟨Z,nx+8,rfl,Z,Z,ae,?_⟩⟩;rw[flatMap_append]
   conv=>rhs;rw[<-kB]
   exact J
  ·rw[cQ]
   simp only[HS.look,jc,H.objS x]
def B3 (r:aR) (cs:List XV):Prop:=∃pk pa pb pv ve,cs=[.int .i64 r.kind,.int .u64 r.t,.int .u64 r.x,.int .u64 r.w,.int .u64 r.n,.int .u64 r.v,.int .i64 pk,.int .u64 pa,.int .u64 pb,pv,ve]/\(dY pv=[pv]/\ax pv=true)/\dY ve=[ve]/\ax ve=true
theorem b8.c {b:Nat} (h:b8 M b r cs):B3 r cs:=by
 obtain⟨pk,pa,pb,pv,ve,h1,h2,h3,_,_⟩:=h.cells;exact⟨pk,pa,pb,pv,ve,h1,h2,h3⟩
theorem Ve (ρ:aK) {tag:Nat->Hg} {vrec vtxs vcom vmods vlook:XV} {nk vk ok cn cv co:Nat} {ptrs:List XV} {lnum:List (Nat×Int×Int)} {lver:List (Nat×List Int×Int)} {lobj:List (Nat×Int×Int)}
 (H:eM M lo hi h S tag vrec vtxs vcom vmods vlook nk vk ok cn cv co ptrs lnum lver lobj) (hh:hi<=nx) {t:Int} {v:XV} (hk:S.num t=some (k:Int)) (hv:ptrs[k]?=some v) (kA:k<S.txs.length):ar am ρ 58 [.mp h 0,.int .u64 t] M nx (fe nx M v):=by
 have hr:=H.row;have U0:=H.num;have jc:=H.numS t;rw[hk]at jc;obtain⟨n,o,jw,bC,aU⟩:=H.txs.sl.fldG (P:=am) kA (t:=86) vL.2.2.2.1;have hl:=aU 0 v Z (by simp[hv]) 91 1 Ki.1 M (aq.refl _ _);rw[Nat.add_zero]at hl;refine ar.wk 17 [.tmp 4] Tryz.func58 ?_;refine ky Wq hr U0 jc bC hl @fe.eq_1 ?_;exact⟨aq.refl _ _,Z⟩
structure yp (M:Hp) (nx h rk nk mm vm om m:Nat) (ys:List XV) (c0 c1 c4 c6:XV) (T B N:Int) (i:Int) (old:List Nat) (o:ew):Prop where
 post:nx<=o.2.2/\gG o.2.1 rk=some (.row [.int .u64 T,.int .i64 B,.int .i64 i,.int .i64 1,.int .i64 (m:Int),.mm mm])/\(∃nc,nx<=nc/\nc<o.2.2/\gG o.2.1 h=some (.row [c0,c1,.mm nk,.sl nc 1 0 (m+1) (m+1),c4,.mm vm,c6,.mm om])/\gG o.2.1 nc=some (.row (ys++[.int .u64 T])))/\∀j,j<nx->j≠rk->j≠h->j ∉ old->gG o.2.1 j=gG M j
theorem Sx (ρ:aK) (M:Hp) (nx h rk mm:Nat) (pp pe:XV) (T B E S N X VW VN V pk pa pb:Int) (i:Int)
 (hr:gG M rk=some (.row [.int .u64 T,.int .i64 B,.int .i64 E,.int .i64 S,.int .i64 N,.mm mm]))
 (pH:∀M' nx',aq nx M M'->nx<=nx'->ar am ρ 58 [.mp h 0,.int .u64 T] M' nx' (fe nx' M' (.mp rk 0)))
 (b2:rk<nx) (p1:dY pp=[pp]) (p2:ax pp=true) (p3:dY pe=[pe]) (p4:ax pe=true) :
 ar am ρ 38 [.mp h 0,.int .i64 i,.agg [.int .i64 7,.int .u64 T,.int .u64 X,.int .u64 VW,.int .u64 VN,.int .u64 V,.int .i64 pk,.int .u64 pa,.int .u64 pb,pp,pe]] M nx fun o =>
  o.1 = .tup []/\nx<=o.2.2/\gG o.2.1 rk=some (.row [.int .u64 T,.int .i64 B,.int .i64 i,.int .i64 2,.int .i64 N,.mm mm])/\∀j,j<nx->j≠rk->gG o.2.1 j=gG M j:=by
 refine ar.wk 134 [] Tryz.func38 ?_;refine lO gu p1 p2 p3 p4 ?_;generalize xu:ci M nx _=M1;have a1:aq nx M M1:=by rw[<-xu];exact O
 clear xu;refine gQ (pH _ _ a1 Z) ?_;rintro⟨v,M2,n2⟩ ⟨g1,g2,g3⟩;simp only at g1 g2 g3;subst g1;have a2:=a1.trans (g2.le Z);have zr:=(a2 rk b2).trans hr;clear g2 a1 hr pH;refine fM gu zr ?_;refine⟨Z,fun j hj cf=>?_⟩;have:=a2 j hj;have k0:aw rk j=False:=by simp only[aw,eq_iff_iff,iff_false];exact fun e=>cf e.symm
 refine gk gu k0 this ?_;try exact⟨⟩
theorem PG (ρ:aK) (M:Hp) (nx h rk nk mm vm om cs m:Nat) (ys:List XV) (c0 c1 c4 c6 pp pe:XV) (T B E S N X VW VN V pk pa pb:Int) (i:Int)
 (hh:gG M h=some (.row [c0,c1,.mm nk,.nils,c4,.mm vm,c6,.mm om]))
 (hr:gG M rk=some (.row [.int .u64 T,.int .i64 B,.int .i64 E,.int .i64 S,.int .i64 N,.mm mm]))
 (pH:∀M' nx',aq nx M M'->nx<=nx'->ar am ρ 58 [.mp h 0,.int .u64 T] M' nx' (fe nx' M' (.mp rk 0)))
 (b1:h<nx) (b2:rk<nx) (hd:aw h rk=False/\aw rk h=False) (p1:dY pp=[pp]) (p2:ax pp=true) (p3:dY pe=[pe]) (p4:ax pe=true) :
 ar am ρ 38 [.mp h 0,.int .i64 i,.agg [.int .i64 6,.int .u64 T,.int .u64 X,.int .u64 VW,.int .u64 VN,.int .u64 V,.int .i64 pk,.int .u64 pa,.int .u64 pb,pp,pe]] M nx fun o =>
  o.1 = .tup []/\yp M nx h rk nk mm vm om 0 [] c0 c1 c4 c6 T B N i [] o:=by
 refine ar.wk 134 [] Tryz.func38 ?_;refine lO gu p1 p2 p3 p4 ?_;generalize xu:ci M nx _=M1;have a1:aq nx M M1:=by rw[<-xu];exact O
 have z0:gG M1 nx=some (.row [.int .i64 6,.int .u64 T,.int .u64 X,.int .u64 VW,.int .u64 VN,.int .u64 V,.int .i64 pk,.int .u64 pa,.int .u64 pb,pp,pe]):=by rw[<-xu];exact J
 clear xu;refine gQ (pH _ _ a1 Z) ?_;rintro⟨v,M2,n2⟩ ⟨g1,g2,g3⟩;simp only at g1 g2 g3;subst g1;have a2:=a1.trans (g2.le Z);have zr:=(a2 rk b2).trans hr;have zh:=(a2 h b1).trans hh;replace z0:=(g2 nx Z).trans z0;clear g2 a1 hr hh pH;refine lO gu zr zh z0 hd ?_;have zz:=fun j hj=>a2 j hj
 refine⟨?_,⟨ak,?_,⟨n2+30,Z,ak,?_,?_⟩,fun j hj f1 f2 f3=>?_⟩⟩
 ·(repeat' apply an)<;>exact yj
 rotate_right
 ·have zj:=zz j hj
  have k0:aw rk j=False:=by simp only[aw,eq_iff_iff,iff_false];exact fun e=>f1 e.symm
  have k1:aw h j=False:=by simp only[aw,eq_iff_iff,iff_false];exact fun e=>f2 e.symm
  refine jz gu k0 k1 zj ?_;try exact⟨⟩
 all_goals first
  | ((refine fM gu hd ?_;try exact⟨⟩);done)
  | ((refine fM gu hd ?_;try exact⟨⟩);first | rfl | (simp;done))
  | skip
theorem PV (ρ:aK) (M:Hp) (nx h rk nk mm vm om cs m:Nat) (ys:List XV) (c0 c1 c4 c6 pp pe:XV) (T B E S N X VW VN V pk pa pb:Int) (i:Int)
 (hh:gG M h=some (.row [c0,c1,.mm nk,.sl cs 1 0 m m,c4,.mm vm,c6,.mm om])) (dI:gG M cs=some (.row ys)) (cF:ys.length=m) (b3:cs<nx) (hm:1<=m) (bm:m<=100000)
 (hr:gG M rk=some (.row [.int .u64 T,.int .i64 B,.int .i64 E,.int .i64 S,.int .i64 N,.mm mm]))
 (pH:∀M' nx',aq nx M M'->nx<=nx'->ar am ρ 58 [.mp h 0,.int .u64 T] M' nx' (fe nx' M' (.mp rk 0)))
 (b1:h<nx) (b2:rk<nx) (hd:aw h rk=False/\aw rk h=False/\aw h cs=False/\aw cs h=False/\aw rk cs=False/\aw cs rk=False) (p1:dY pp=[pp]) (p2:ax pp=true) (p3:dY pe=[pe]) (p4:ax pe=true) :
 ar am ρ 38 [.mp h 0,.int .i64 i,.agg [.int .i64 6,.int .u64 T,.int .u64 X,.int .u64 VW,.int .u64 VN,.int .u64 V,.int .i64 pk,.int .u64 pa,.int .u64 pb,pp,pe]] M nx fun o =>
  o.1 = .tup []/\yp M nx h rk nk mm vm om m ys c0 c1 c4 c6 T B N i [cs] o:=by
 refine ar.wk 134 [] Tryz.func38 ?_;refine lO gu p1 p2 p3 p4 ?_;generalize xu:ci M nx _=M1;have a1:aq nx M M1:=by rw[<-xu];exact O
 have z0:gG M1 nx=some (.row [.int .i64 6,.int .u64 T,.int .u64 X,.int .u64 VW,.int .u64 VN,.int .u64 V,.int .i64 pk,.int .u64 pa,.int .u64 pb,pp,pe]):=by rw[<-xu];exact J
 clear xu;refine gQ (pH _ _ a1 Z) ?_;rintro⟨v,M2,n2⟩ ⟨g1,g2,g3⟩;simp only at g1 g2 g3;subst g1;have a2:=a1.trans (g2.le Z);have zr:=(a2 rk b2).trans hr;have zh:=(a2 h b1).trans hh;replace z0:=(g2 nx Z).trans z0;have zc:=(a2 cs b3).trans dI;clear dI;clear g2 a1 hr hh pH;refine ky gu zr zh z0 hd zc cF ?_;have kB:List.take m ys=ys:=take_of_length_le Z;have zz:=fun j hj=>a2 j hj
 refine⟨?_,⟨ak,?_,⟨n2+30,Z,ak,?_,?_⟩,fun j hj f1 f2 f3=>?_⟩⟩
 ·(repeat' apply an)<;>exact yj
 rotate_right
 ·have zj:=zz j hj
  have k0:aw rk j=False:=by simp only[aw,eq_iff_iff,iff_false];exact fun e=>f1 e.symm
  have k1:aw h j=False:=by simp only[aw,eq_iff_iff,iff_false];exact fun e=>f2 e.symm
  have k2:aw cs j=False:=by simp only[aw,eq_iff_iff,iff_false];exact fun e=>f3 (by rw[<-e];simp)
  refine lO gu k0 k1 k2 zj ?_;try exact⟨⟩
 all_goals first
  | ((refine gk gu hd kB ?_;try exact⟨⟩);done)
  | ((refine gk gu hd kB ?_;try exact⟨⟩);first | rfl | (simp;done))
  | skip
theorem Gw (ρ:aK) (hr:B3 r cs) (H:bX M lo hi h S) (hh:hi<=nx) (k7:r.kind=7) (hk:S.num r.t=some (k:Int)) {a:ku} (ha:S.txs[k]?=some a) (qL:a.t=r.t) (i:Int) :
 ar am ρ 38 [.mp h 0,.int .i64 i,.agg cs] M nx fun o=>o.1 = .tup []/\bX o.2.1 lo o.2.2 h (S.endTx k ⟨r.t,a.b,i,2,a.n⟩ S.com)/\aq lo M o.2.1/\nx<=o.2.2:=by
 obtain⟨pk,pa,pb,pv,ve,rfl,⟨p1,p2⟩,⟨q1,q2⟩⟩:=hr;rw[k7];obtain⟨tag,vrec,vtxs,vcom,vmods,vlook,nk,vk,ok,cn,cv,co,ptrs,lnum,lver,lobj,H⟩:=H;have kA:k<S.txs.length:=(List.getElem?_eq_some_iff.1 ha).1;obtain⟨w,hv,rk,mk,cm,lm,rfl,r1,r2,r3,r4,m1,m2,m3,m4,l0,l1⟩:=H.known k a ha;have pH:∀M' nx',aq nx M M'->nx<=nx'->ar am ρ 58 [.mp h 0,.int .u64 r.t] M' nx' (fe nx' M' (.mp rk 0)):=fun M' nx' ha hn=>Ve ρ (H.agr (ha.le hh)) Z hk hv kA
 simp only[d_,cons_append,nil_append,qL]at r4;have vg:=H.h_hi;have mo:=H.lo_h;refine ar.mono (Sx ρ M nx h rk mk pv ve r.t a.b a.e a.s a.n r.x r.w r.n r.v pk pa pb i r4 pH Z p1 p2 q1 q2) fun o ⟨g1,g2,g3,g4⟩=>⟨g1,?_,fun j hj=>g4 j Z Z,g2⟩
 have key:∀q,q<hi->¬ pn k (tag q)->gG o.2.1 q=gG M q:=fun q hq hc=>g4 q Z fun e=>hc (by rw[e];exact .inr (.inr r3))
 have d1:=aZ H.tg r3 ae;have kc:∀(tg:Hg),tg ≠ .known k->∀q,q<hi->tag q=tg->gG o.2.1 q=gG M q/\tag q=tg:=fun tg h1 q hq hg=>⟨g4 q Z fun e=>h1 (by rw[<-hg,e];exact r3),hg⟩
 refine⟨tag,vrec,vtxs,vcom,vmods,vlook,nk,vk,ok,cn,cv,co,ptrs,lnum,lver,lobj,H.endTx key (fun _ _=>rfl) Z ?_ (H.com.keep (kc _ ae) Z) fun _=>⟨_,hv,rk,mk,cm,lm,rfl,r1,Z,r3,?_,m1,Z,m3,?_,l0,fun x v hx=>?_⟩⟩
 ·rw[(kc _ ae h H.h_hi H.tg).1];exact H.row
 ·rw[g3];rfl
 ·rw[(kc _ ae mk m2 m3).1];exact m4
 ·obtain⟨e1,e2⟩:=l1 x v hx
  exact⟨e1,e2.keep (kc _ ae) Z⟩
theorem E_ (ρ:aK) (hr:B3 r cs) (H:bX M lo hi h S) (hh:hi<=nx) (k6:r.kind=6) (hk:S.num r.t=some (k:Int)) {a:ku} (ha:S.txs[k]?=some a) (qL:a.t=r.t) (few:S.com.length<=100000) (i:Int) :
 ar am ρ 38 [.mp h 0,.int .i64 i,.agg cs] M nx fun o=>o.1 = .tup []/\bX o.2.1 lo o.2.2 h (S.endTx k ⟨r.t,a.b,i,1,(S.com.length:Int)⟩ (S.com++[r.t]))/\aq lo M o.2.1/\nx<=o.2.2:=by
 obtain⟨pk,pa,pb,pv,ve,rfl,⟨p1,p2⟩,⟨q1,q2⟩⟩:=hr;rw[k6];obtain⟨tag,vrec,vtxs,vcom,vmods,vlook,nk,vk,ok,cn,cv,co,ptrs,lnum,lver,lobj,H⟩:=H;have kA:k<S.txs.length:=(List.getElem?_eq_some_iff.1 ha).1;obtain⟨w,hv,rk,mk,cm,lm,rfl,r1,r2,r3,r4,m1,m2,m3,m4,l0,l1⟩:=H.known k a ha;have pH:∀M' nx',aq nx M M'->nx<=nx'->ar am ρ 58 [.mp h 0,.int .u64 r.t] M' nx' (fe nx' M' (.mp rk 0)):=fun M' nx' ha hn=>Ve ρ (H.agr (ha.le hh)) Z hk hv kA
 simp only[d_,cons_append,nil_append,qL]at r4;have vg:=H.h_hi;have mo:=H.lo_h;have d1:=aZ H.tg r3 ae;have fin:∀(old:List Nat) (o:ew),(∀j ∈ old,tag j = .com)->(∀j ∈ old,lo<=j)->yp M nx h rk nk mk vk ok S.com.length (S.com.map (XV.int .u64)) vrec vtxs vmods vlook r.t a.b a.n i old o ->
  bX o.2.1 lo o.2.2 h (S.endTx k ⟨r.t,a.b,i,1,(S.com.length:Int)⟩ (S.com++[r.t]))/\aq lo M o.2.1/\nx<=o.2.2:=by
  intro old o h1 h2 P;obtain⟨⟨g2,g3,⟨nc,c1,c2,c3,c4⟩,g4⟩⟩:=P;have key:∀q,q<hi->¬ pn k (tag q)->gG o.2.1 q=gG M q:=fun q hq hc=>g4 q Z (fun e=>hc (by rw[e];exact .inr (.inr r3))) (fun e=>hc (by rw[e];exact .inl H.tg)) fun e=>hc (.inr (.inl (h1 q e)))
  have kc:∀(tg:Hg),¬ pn k tg->∀q,q<hi->tag q=tg->gG o.2.1 q=gG M q/\(if q=nc then Hg.com else tag q)=tg:=fun tg h1 q hq hg=>⟨key q hq (by rw[hg];exact h1),by rw[if_neg Z];exact hg⟩
  refine⟨⟨fun q=>if q=nc then .com else tag q,vrec,vtxs,_,vmods,vlook,nk,vk,ok,cn,cv,co,ptrs,lnum,lver,lobj,H.endTx (tag':=fun q=>if q=nc then .com else tag q) key (fun q hq=>if_neg Z) Z c3 ?_ fun _=>⟨_,hv,rk,mk,cm,lm,rfl,r1,Z,by simp only;rw[if_neg Z];exact r3,?_,m1,Z,by simp only;rw[if_neg Z];exact m3,?_,l0,fun x v hx=>?_⟩⟩,fun j hj=>g4 j Z Z Z fun e=>by have:=h2 j e;omega,g2⟩
  ·have e:(S.com++[r.t]).length=S.com.length+1:=ae
   rw[e];exact⟨Z,ae,.inr ⟨Z,nc,rfl,Z,c2,ae,by rw[c4,map_append];rfl⟩⟩
  ·rw[g3];rfl
  ·rw[key mk m2 (by rw[m3];simp[pn])];exact m4
  ·obtain⟨e1,e2⟩:=l1 x v hx
   exact⟨e1,e2.keep (kc _ (by simp[pn])) Z⟩
 have bA:=H.row;obtain⟨hz,cF,⟨rfl,pG⟩ | ⟨hl,ck,rfl,s1,s2,s3,s4⟩⟩:=H.com
 ·have RM:S.com=[]:=length_eq_zero_iff.1 pG
  have hd:aw h rk=False/\aw rk h=False:=by simp only[aw,eq_iff_iff,iff_false];exact⟨d1,d1.symm⟩
  refine ar.mono (PG ρ M nx h rk nk mk vk ok 0 0 [] vrec vtxs vmods vlook pv ve r.t a.b a.e a.s a.n r.x r.w r.n r.v pk pa pb i bA r4 pH Z Z hd p1 p2 q1 q2) fun o ho=>⟨ho.1,fin [] o (fun j hj=>by cases hj) (fun j hj=>by cases hj) ?_⟩
  rw[RM];exact ho.2
 ·have d2:=aZ H.tg s3 ae
  have d3:=aZ r3 s3 ae;have hd:aw h rk=False/\aw rk h=False/\aw h ck=False/\aw ck h=False/\aw rk ck=False/\aw ck rk=False:=by simp only[aw,eq_iff_iff,iff_false];exact⟨d1,d1.symm,d2,d2.symm,d3,d3.symm⟩
  refine ar.mono (PV ρ M nx h rk nk mk vk ok ck S.com.length (S.com.map (XV.int .u64)) vrec vtxs vmods vlook pv ve r.t a.b a.e a.s a.n r.x r.w r.n r.v pk pa pb i bA s4 ae Z hl few r4 pH Z Z hd p1 p2 q1 q2) fun o ho=>⟨ho.1,fin [ck] o (fun j hj=>?_) (fun j hj=>?_) ho.2⟩
  ·simp only[mem_cons,not_mem_nil,or_false]at hj;subst hj;exact s3
  ·simp only[mem_cons,not_mem_nil,or_false]at hj;subst hj;exact s1
structure nX (M:Hp) (nx h nk rk mm vm om:Nat) (old:List Nat) (cm cv co m q:Nat) (lm:List (Nat×Int×XV)) (lv:List (Nat×List Int×Int)) (lo:List (Nat×Int×Int)) (ys zs:List XV) (c0 c1 c3 c6:XV) (T B E S N K X V:Int) (i:Int) (o:ew):Prop where
 post:nx<=o.2.2/\∃ns nm cm' cv' co',nx<=ns/\nx<=nm/\ns<o.2.2/\nm<o.2.2/\ns≠nm/\cm'=l8 lm cm X /\
  gG o.2.1 h=some (.row [c0,c1,.mm nk,c3,.sl nm 8 0 (m+1) (m+1),.mm vm,c6,.mm om])/\gG o.2.1 rk=some (.row [.int .u64 T,.int .i64 B,.int .i64 E,.int .i64 S,.int .i64 N,.mm mm]) /\
  gG o.2.1 mm=some (.map (cx vX (dD lm cm X (.sl ns 1 0 (q+1) (q+1)))) cm')/\gG o.2.1 vm=some (.map (eY (vI .i64) (dD lv cv [X,T,((q+1:Nat):Int)] (m:Int))) cv') /\
  gG o.2.1 om=some (.map (cx (vI .i64) (dD lo co X ((aH lo X).getD 0+1))) co')/\gG o.2.1 ns=some (.row (zs++[.int .i64 (m:Int)])) /\
  gG o.2.1 nm=some (.row (ys++[.int .i64 i,.int .u64 T,.int .u64 X,.int .u64 T,.int .u64 ((q+1:Nat):Int),.int .u64 V,.bool (decide (K=4)),.bool false])) /\
  ∀j,j<nx->j≠h->j≠mm->j≠vm->j≠om->j ∉ old->gG o.2.1 j=gG M j
theorem PQ (ρ:aK) (M:Hp) (nx h nk rk mm vm om ms s:Nat) (cm cv co m q:Nat) (lm:List (Nat×Int×XV)) (lv:List (Nat×List Int×Int)) (lo:List (Nat×Int×Int)) (ys zs:List XV) (c0 c1 c3 c6 pp pe:XV) (T B E S N K X VW VN V pk pa pb:Int) (i:Int)
 (hh:gG M h=some (.row [c0,c1,.mm nk,c3,.nils,.mm vm,c6,.mm om])) (hr:gG M rk=some (.row [.int .u64 T,.int .i64 B,.int .i64 E,.int .i64 S,.int .i64 N,.mm mm]))
 (vY:gG M mm=some (.map (cx vX lm) cm)) (Ec:gG M vm=some (.map (eY (vI .i64) lv) cv)) (JG:gG M om=some (.map (cx (vI .i64) lo) co)) (QV:jL 3 lv) (Ba:aH lm X=none)
 (pH:∀M' nx',aq nx M M'->nx<=nx'->ar am ρ 58 [.mp h 0,.int .u64 T] M' nx' (fe nx' M' (.mp rk 0)))
 (b1:h<nx) (b2:rk<nx) (b3:mm<nx) (b4:vm<nx) (b5:om<nx) (hd:aw h rk=False/\aw rk h=False/\aw h mm=False/\aw mm h=False/\aw h vm=False/\aw vm h=False/\aw h om=False/\aw om h=False/\aw rk mm=False/\aw mm rk=False/\aw rk vm=False/\aw vm rk=False/\aw rk om=False/\aw om rk=False/\aw mm vm=False/\aw vm mm=False/\aw mm om=False/\aw om mm=False/\aw vm om=False/\aw om vm=False) (hw:IntKind.i64.wrap ((aH lo X).getD 0+1)=(aH lo X).getD 0+1)
 (p1:dY pp=[pp]) (p2:ax pp=true) (p3:dY pe=[pe]) (p4:ax pe=true) :
 ar am ρ 67 [.mp h 0,.int .i64 i,.agg [.int .i64 K,.int .u64 T,.int .u64 X,.int .u64 VW,.int .u64 VN,.int .u64 V,.int .i64 pk,.int .u64 pa,.int .u64 pb,pp,pe]] M nx fun o =>
  o.1 = .tup []/\nX M nx h nk rk mm vm om [] cm cv co 0 0 lm lv lo [] [] c0 c1 c3 c6 T B E S N K X V i o:=by
 have bV:IntKind.u64.wrap (IntKind.i64.wrap ((0:Nat)+1))=((0+1:Nat):Int):=by
  rw[wrap_i64 Z Z,wrap_u64 Z Z];omega
 simp only[Int.cast_ofNat_Int]at bV;refine ar.wk 85 [] Tryz.func67 ?_;refine ky k_ hh p2 p4 hd p1 p3 ?_;generalize xu:ci M nx _=M1;have a1:aq nx M M1:=by rw[<-xu];exact O
 have z0:gG M1 nx=some (.row [.int .i64 K,.int .u64 T,.int .u64 X,.int .u64 VW,.int .u64 VN,.int .u64 V,.int .i64 pk,.int .u64 pa,.int .u64 pb,pp,pe]):=by rw[<-xu];exact J
 clear xu;refine gQ (pH _ _ a1 Z) ?_;rintro⟨v,M2,n2⟩ ⟨g1,g2,g3⟩;simp only at g1 g2 g3;subst g1;have a2:=a1.trans (g2.le Z);replace z0:=(g2 nx Z).trans z0;have zh:=(a2 h b1).trans hh;have zr:=(a2 rk b2).trans hr;have zm:=(a2 mm b3).trans vY;have zv:=(a2 vm b4).trans Ec;have zo:=(a2 om b5).trans JG;clear g2 a1 hh hr vY Ec JG pH;refine yq k_ z0 zh zr zm zv zo Ba QV hd hw bV ?_
 repeat' apply an
 all_goals first
  | (refine bn _ _ _ _ _ _ ?_ ?_ ?_<;>(intro x hx hy;first | (simp only[mem_cons,not_mem_nil,or_false]at hx hy;done) | (simp only[mem_cons,not_mem_nil,or_false]at hx hy;omega));done)
  | skip
 have zz:=fun j hj=>a2 j hj
 refine⟨⟨ak,n2+37,n2+67,l8 lm cm X,l8 lv cv [X,T,((0+1:Nat):Int)],l8 lo co X,Z,Z,ak,ak,Z,rfl,?_,?_,?_,?_,?_,?_,?_,fun j hj f1 f2 f3 f4 f5=>?_⟩⟩
 rotate_right
 ·have zj:=zz j hj
  have k0:aw h j=False:=by simp only[aw,eq_iff_iff,iff_false];exact fun e=>f1 e.symm
  have k1:aw mm j=False:=by simp only[aw,eq_iff_iff,iff_false];exact fun e=>f2 e.symm
  have k2:aw vm j=False:=by simp only[aw,eq_iff_iff,iff_false];exact fun e=>f3 e.symm
  have k3:aw om j=False:=by simp only[aw,eq_iff_iff,iff_false];exact fun e=>f4 e.symm
  refine ul k_ k0 k1 k2 k3 zj ?_;try exact⟨⟩
 all_goals first
  | ((refine gk k_ hd zr ?_;try exact⟨⟩);done)
  | ((refine gk k_ hd zr ?_;try exact⟨⟩);first | rfl | (simp;done))
  | skip
theorem Qn (ρ:aK) (M:Hp) (nx h nk rk mm vm om ms s:Nat) (cm cv co m q:Nat) (lm:List (Nat×Int×XV)) (lv:List (Nat×List Int×Int)) (lo:List (Nat×Int×Int)) (ys zs:List XV) (c0 c1 c3 c6 pp pe:XV) (T B E S N K X VW VN V pk pa pb:Int) (i:Int)
 (hh:gG M h=some (.row [c0,c1,.mm nk,c3,.sl ms 8 0 m m,.mm vm,c6,.mm om])) (hr:gG M rk=some (.row [.int .u64 T,.int .i64 B,.int .i64 E,.int .i64 S,.int .i64 N,.mm mm]))
 (vY:gG M mm=some (.map (cx vX lm) cm)) (Ec:gG M vm=some (.map (eY (vI .i64) lv) cv)) (JG:gG M om=some (.map (cx (vI .i64) lo) co)) (QV:jL 3 lv) (Ba:aH lm X=none) (F3:gG M ms=some (.row ys)) (hy:ys.length=m*8) (b6:ms<nx) (bm:m<=100000)
 (pH:∀M' nx',aq nx M M'->nx<=nx'->ar am ρ 58 [.mp h 0,.int .u64 T] M' nx' (fe nx' M' (.mp rk 0)))
 (b1:h<nx) (b2:rk<nx) (b3:mm<nx) (b4:vm<nx) (b5:om<nx) (hd:aw h rk=False/\aw rk h=False/\aw h mm=False/\aw mm h=False/\aw h vm=False/\aw vm h=False/\aw h om=False/\aw om h=False/\aw h ms=False/\aw ms h=False/\aw rk mm=False/\aw mm rk=False/\aw rk vm=False/\aw vm rk=False/\aw rk om=False/\aw om rk=False/\aw rk ms=False/\aw ms rk=False/\aw mm vm=False/\aw vm mm=False/\aw mm om=False/\aw om mm=False/\aw mm ms=False/\aw ms mm=False/\aw vm om=False/\aw om vm=False/\aw vm ms=False/\aw ms vm=False/\aw om ms=False/\aw ms om=False) (hw:IntKind.i64.wrap ((aH lo X).getD 0+1)=(aH lo X).getD 0+1)
 (p1:dY pp=[pp]) (p2:ax pp=true) (p3:dY pe=[pe]) (p4:ax pe=true) :
 ar am ρ 67 [.mp h 0,.int .i64 i,.agg [.int .i64 K,.int .u64 T,.int .u64 X,.int .u64 VW,.int .u64 VN,.int .u64 V,.int .i64 pk,.int .u64 pa,.int .u64 pb,pp,pe]] M nx fun o =>
  o.1 = .tup []/\nX M nx h nk rk mm vm om [ms] cm cv co m 0 lm lv lo ys [] c0 c1 c3 c6 T B E S N K X V i o:=by
 have bV:IntKind.u64.wrap (IntKind.i64.wrap ((0:Nat)+1))=((0+1:Nat):Int):=by
  rw[wrap_i64 Z Z,wrap_u64 Z Z];omega
 simp only[Int.cast_ofNat_Int]at bV;refine ar.wk 85 [] Tryz.func67 ?_;refine ky k_ hh p2 p4 hd p1 p3 ?_;generalize xu:ci M nx _=M1;have a1:aq nx M M1:=by rw[<-xu];exact O
 have z0:gG M1 nx=some (.row [.int .i64 K,.int .u64 T,.int .u64 X,.int .u64 VW,.int .u64 VN,.int .u64 V,.int .i64 pk,.int .u64 pa,.int .u64 pb,pp,pe]):=by rw[<-xu];exact J
 clear xu;refine gQ (pH _ _ a1 Z) ?_;rintro⟨v,M2,n2⟩ ⟨g1,g2,g3⟩;simp only at g1 g2 g3;subst g1;have a2:=a1.trans (g2.le Z);replace z0:=(g2 nx Z).trans z0;have zh:=(a2 h b1).trans hh;have zr:=(a2 rk b2).trans hr;have zm:=(a2 mm b3).trans vY;have zv:=(a2 vm b4).trans Ec;have zo:=(a2 om b5).trans JG;have zms:=(a2 ms b6).trans F3;clear g2 a1 hh hr vY Ec JG pH;refine yq k_ z0 zh zr zm zv zo Ba QV hd hw (aI bV (aI zms hy)) ?_
 repeat' apply an
 all_goals first
  | (refine bn _ _ _ _ _ _ ?_ ?_ ?_<;>(intro x hx hy;first | (simp only[mem_cons,not_mem_nil,or_false]at hx hy;done) | (simp only[mem_cons,not_mem_nil,or_false]at hx hy;omega));done)
  | skip
 have UQ:List.take (m*8) ys=ys:=take_of_length_le Z;have zz:=fun j hj=>a2 j hj
 refine⟨⟨ak,n2+37,n2+67,l8 lm cm X,l8 lv cv [X,T,((0+1:Nat):Int)],l8 lo co X,Z,Z,ak,ak,Z,rfl,?_,?_,?_,?_,?_,?_,?_,fun j hj f1 f2 f3 f4 f5=>?_⟩⟩
 rotate_right
 ·have zj:=zz j hj
  have k0:aw h j=False:=by simp only[aw,eq_iff_iff,iff_false];exact fun e=>f1 e.symm
  have k1:aw mm j=False:=by simp only[aw,eq_iff_iff,iff_false];exact fun e=>f2 e.symm
  have k2:aw vm j=False:=by simp only[aw,eq_iff_iff,iff_false];exact fun e=>f3 e.symm
  have k3:aw om j=False:=by simp only[aw,eq_iff_iff,iff_false];exact fun e=>f4 e.symm
  have k4:aw ms j=False:=by simp only[aw,eq_iff_iff,iff_false];exact fun e=>f5 (by rw[<-e];simp)
  refine ky k_ k0 k1 k2 k3 k4 zj ?_;try exact⟨⟩
 all_goals first
  | ((refine jz k_ hd zr UQ ?_;try exact⟨⟩);done)
  | ((refine jz k_ hd zr UQ ?_;try exact⟨⟩);first | rfl | (simp;done))
  | skip
theorem Qj (ρ:aK) (M:Hp) (nx h nk rk mm vm om ms s:Nat) (cm cv co m q:Nat) (lm:List (Nat×Int×XV)) (lv:List (Nat×List Int×Int)) (lo:List (Nat×Int×Int)) (ys zs:List XV) (c0 c1 c3 c6 pp pe:XV) (T B E S N K X VW VN V pk pa pb:Int) (i:Int)
 (hh:gG M h=some (.row [c0,c1,.mm nk,c3,.nils,.mm vm,c6,.mm om])) (hr:gG M rk=some (.row [.int .u64 T,.int .i64 B,.int .i64 E,.int .i64 S,.int .i64 N,.mm mm]))
 (vY:gG M mm=some (.map (cx vX lm) cm)) (Ec:gG M vm=some (.map (eY (vI .i64) lv) cv)) (JG:gG M om=some (.map (cx (vI .i64) lo) co)) (QV:jL 3 lv) (Ba:aH lm X=some (.sl s 1 0 q q)) (hs:gG M s=some (.row zs)) (hz:zs.length=q) (b7:s<nx) (bq:q<=100000)
 (pH:∀M' nx',aq nx M M'->nx<=nx'->ar am ρ 58 [.mp h 0,.int .u64 T] M' nx' (fe nx' M' (.mp rk 0)))
 (b1:h<nx) (b2:rk<nx) (b3:mm<nx) (b4:vm<nx) (b5:om<nx) (hd:aw h rk=False/\aw rk h=False/\aw h mm=False/\aw mm h=False/\aw h vm=False/\aw vm h=False/\aw h om=False/\aw om h=False/\aw h s=False/\aw s h=False/\aw rk mm=False/\aw mm rk=False/\aw rk vm=False/\aw vm rk=False/\aw rk om=False/\aw om rk=False/\aw rk s=False/\aw s rk=False/\aw mm vm=False/\aw vm mm=False/\aw mm om=False/\aw om mm=False/\aw mm s=False/\aw s mm=False/\aw vm om=False/\aw om vm=False/\aw vm s=False/\aw s vm=False/\aw om s=False/\aw s om=False) (hw:IntKind.i64.wrap ((aH lo X).getD 0+1)=(aH lo X).getD 0+1)
 (p1:dY pp=[pp]) (p2:ax pp=true) (p3:dY pe=[pe]) (p4:ax pe=true) :
 ar am ρ 67 [.mp h 0,.int .i64 i,.agg [.int .i64 K,.int .u64 T,.int .u64 X,.int .u64 VW,.int .u64 VN,.int .u64 V,.int .i64 pk,.int .u64 pa,.int .u64 pb,pp,pe]] M nx fun o =>
  o.1 = .tup []/\nX M nx h nk rk mm vm om [s] cm cv co 0 q lm lv lo [] zs c0 c1 c3 c6 T B E S N K X V i o:=by
 have bV:IntKind.u64.wrap (IntKind.i64.wrap ((q:Nat)+1))=((q+1:Nat):Int):=by
  rw[wrap_i64 Z Z,wrap_u64 Z Z];omega
 try simp only[Int.cast_ofNat_Int]at bV
 refine ar.wk 85 [] Tryz.func67 ?_;refine ky k_ hh p2 p4 hd p1 p3 ?_;generalize xu:ci M nx _=M1;have a1:aq nx M M1:=by rw[<-xu];exact O
 have z0:gG M1 nx=some (.row [.int .i64 K,.int .u64 T,.int .u64 X,.int .u64 VW,.int .u64 VN,.int .u64 V,.int .i64 pk,.int .u64 pa,.int .u64 pb,pp,pe]):=by rw[<-xu];exact J
 clear xu;refine gQ (pH _ _ a1 Z) ?_;rintro⟨v,M2,n2⟩ ⟨g1,g2,g3⟩;simp only at g1 g2 g3;subst g1;have a2:=a1.trans (g2.le Z);replace z0:=(g2 nx Z).trans z0;have zh:=(a2 h b1).trans hh;have zr:=(a2 rk b2).trans hr;have zm:=(a2 mm b3).trans vY;have zv:=(a2 vm b4).trans Ec;have zo:=(a2 om b5).trans JG;have zs':=(a2 s b7).trans hs;clear g2 a1 hh hr vY Ec JG pH;refine yq k_ z0 zh zr zm zv zo Ba QV hd hw (aI bV (aI zs' hz)) ?_;have e1:s≠rk:=by intro e;subst e;simp[aw]at hd
 repeat' apply an
 all_goals first
  | (refine bn _ _ _ _ _ _ ?_ ?_ ?_<;>(intro x hx hy;first | (simp only[mem_cons,not_mem_nil,or_false]at hx hy;done) | (simp only[mem_cons,not_mem_nil,or_false]at hx hy;omega));done)
  | skip
 have UR:List.take q zs=zs:=take_of_length_le Z;have zz:=fun j hj=>a2 j hj
 refine⟨⟨ak,n2+37,n2+67,l8 lm cm X,l8 lv cv [X,T,((q+1:Nat):Int)],l8 lo co X,Z,Z,ak,ak,Z,rfl,?_,?_,?_,?_,?_,?_,?_,fun j hj f1 f2 f3 f4 f5=>?_⟩⟩
 rotate_right
 ·have zj:=zz j hj
  have k0:aw h j=False:=by simp only[aw,eq_iff_iff,iff_false];exact fun e=>f1 e.symm
  have k1:aw mm j=False:=by simp only[aw,eq_iff_iff,iff_false];exact fun e=>f2 e.symm
  have k2:aw vm j=False:=by simp only[aw,eq_iff_iff,iff_false];exact fun e=>f3 e.symm
  have k3:aw om j=False:=by simp only[aw,eq_iff_iff,iff_false];exact fun e=>f4 e.symm
  have k4:aw s j=False:=by simp only[aw,eq_iff_iff,iff_false];exact fun e=>f5 (by rw[<-e];simp)
  refine ky k_ k0 k1 k2 k3 k4 zj ?_;try exact⟨⟩
 all_goals first
  | ((refine jz k_ hd zr UR ?_;try exact⟨⟩);done)
  | ((refine jz k_ hd zr UR ?_;try exact⟨⟩);first | rfl | (simp;done))
  | skip
theorem OI (ρ:aK) (M:Hp) (nx h nk rk mm vm om ms s:Nat) (cm cv co m q:Nat) (lm:List (Nat×Int×XV)) (lv:List (Nat×List Int×Int)) (lo:List (Nat×Int×Int)) (ys zs:List XV) (c0 c1 c3 c6 pp pe:XV) (T B E S N K X VW VN V pk pa pb:Int) (i:Int)
 (hh:gG M h=some (.row [c0,c1,.mm nk,c3,.sl ms 8 0 m m,.mm vm,c6,.mm om])) (hr:gG M rk=some (.row [.int .u64 T,.int .i64 B,.int .i64 E,.int .i64 S,.int .i64 N,.mm mm]))
 (vY:gG M mm=some (.map (cx vX lm) cm)) (Ec:gG M vm=some (.map (eY (vI .i64) lv) cv)) (JG:gG M om=some (.map (cx (vI .i64) lo) co)) (QV:jL 3 lv) (Ba:aH lm X=some (.sl s 1 0 q q)) (hs:gG M s=some (.row zs)) (hz:zs.length=q) (b7:s<nx) (bq:q<=100000) (F3:gG M ms=some (.row ys)) (hy:ys.length=m*8) (b6:ms<nx) (bm:m<=100000)
 (pH:∀M' nx',aq nx M M'->nx<=nx'->ar am ρ 58 [.mp h 0,.int .u64 T] M' nx' (fe nx' M' (.mp rk 0)))
 (b1:h<nx) (b2:rk<nx) (b3:mm<nx) (b4:vm<nx) (b5:om<nx) (hd:aw h rk=False/\aw rk h=False/\aw h mm=False/\aw mm h=False/\aw h vm=False/\aw vm h=False/\aw h om=False/\aw om h=False/\aw h s=False/\aw s h=False/\aw h ms=False/\aw ms h=False/\aw rk mm=False/\aw mm rk=False/\aw rk vm=False/\aw vm rk=False/\aw rk om=False/\aw om rk=False/\aw rk s=False/\aw s rk=False/\aw rk ms=False/\aw ms rk=False/\aw mm vm=False/\aw vm mm=False/\aw mm om=False/\aw om mm=False/\aw mm s=False/\aw s mm=False/\aw mm ms=False/\aw ms mm=False/\aw vm om=False/\aw om vm=False/\aw vm s=False/\aw s vm=False/\aw vm ms=False/\aw ms vm=False/\aw om s=False/\aw s om=False/\aw om ms=False/\aw ms om=False/\aw s ms=False/\aw ms s=False) (hw:IntKind.i64.wrap ((aH lo X).getD 0+1)=(aH lo X).getD 0+1)
 (p1:dY pp=[pp]) (p2:ax pp=true) (p3:dY pe=[pe]) (p4:ax pe=true) :
 ar am ρ 67 [.mp h 0,.int .i64 i,.agg [.int .i64 K,.int .u64 T,.int .u64 X,.int .u64 VW,.int .u64 VN,.int .u64 V,.int .i64 pk,.int .u64 pa,.int .u64 pb,pp,pe]] M nx fun o =>
  o.1 = .tup []/\nX M nx h nk rk mm vm om [s,ms] cm cv co m q lm lv lo ys zs c0 c1 c3 c6 T B E S N K X V i o:=by
 have bV:IntKind.u64.wrap (IntKind.i64.wrap ((q:Nat)+1))=((q+1:Nat):Int):=by
  rw[wrap_i64 Z Z,wrap_u64 Z Z];omega
 try simp only[Int.cast_ofNat_Int]at bV
 refine ar.wk 85 [] Tryz.func67 ?_;refine ky k_ hh p2 p4 hd p1 p3 ?_;generalize xu:ci M nx _=M1;have a1:aq nx M M1:=by rw[<-xu];exact O
 have z0:gG M1 nx=some (.row [.int .i64 K,.int .u64 T,.int .u64 X,.int .u64 VW,.int .u64 VN,.int .u64 V,.int .i64 pk,.int .u64 pa,.int .u64 pb,pp,pe]):=by rw[<-xu];exact J
 clear xu;refine gQ (pH _ _ a1 Z) ?_;rintro⟨v,M2,n2⟩ ⟨g1,g2,g3⟩;simp only at g1 g2 g3;subst g1;have a2:=a1.trans (g2.le Z);replace z0:=(g2 nx Z).trans z0;have zh:=(a2 h b1).trans hh;have zr:=(a2 rk b2).trans hr;have zm:=(a2 mm b3).trans vY;have zv:=(a2 vm b4).trans Ec;have zo:=(a2 om b5).trans JG;have zs':=(a2 s b7).trans hs;have zms:=(a2 ms b6).trans F3;clear g2 a1 hh hr vY Ec JG pH;refine yq k_ z0 zh zr zm zv zo Ba QV hd hw (aI bV (aI zs' (aI hz (aI zms hy)))) ?_;have e1:s≠rk:=by intro e;subst e;simp[aw]at hd
 repeat' apply an
 all_goals first
  | (refine bn _ _ _ _ _ _ ?_ ?_ ?_<;>(intro x hx hy;first | (simp only[mem_cons,not_mem_nil,or_false]at hx hy;done) | (simp only[mem_cons,not_mem_nil,or_false]at hx hy;omega));done)
  | skip
 have UR:List.take q zs=zs:=take_of_length_le Z;have UQ:List.take (m*8) ys=ys:=take_of_length_le Z;have zz:=fun j hj=>a2 j hj
 refine⟨⟨ak,n2+37,n2+67,l8 lm cm X,l8 lv cv [X,T,((q+1:Nat):Int)],l8 lo co X,Z,Z,ak,ak,Z,rfl,?_,?_,?_,?_,?_,?_,?_,fun j hj f1 f2 f3 f4 f5=>?_⟩⟩
 rotate_right
 ·have zj:=zz j hj
  have k0:aw h j=False:=by simp only[aw,eq_iff_iff,iff_false];exact fun e=>f1 e.symm
  have k1:aw mm j=False:=by simp only[aw,eq_iff_iff,iff_false];exact fun e=>f2 e.symm
  have k2:aw vm j=False:=by simp only[aw,eq_iff_iff,iff_false];exact fun e=>f3 e.symm
  have k3:aw om j=False:=by simp only[aw,eq_iff_iff,iff_false];exact fun e=>f4 e.symm
  have k4:aw s j=False:=by simp only[aw,eq_iff_iff,iff_false];exact fun e=>f5 (by rw[<-e];simp)
  have k5:aw ms j=False:=by simp only[aw,eq_iff_iff,iff_false];exact fun e=>f5 (by rw[<-e];simp)
  refine oq k_ k0 k1 k2 k3 k4 k5 zj ?_;try exact⟨⟩
 all_goals first
  | ((refine lO k_ hd zr UR UQ ?_;try exact⟨⟩);done)
  | ((refine lO k_ hd zr UR UQ ?_;try exact⟨⟩);first | rfl | (simp;done))
  | skip
end Go.Xs
namespace Go.Xs
open List Nat Option
variable{k nx:Nat}{r:aR}
open Go.Proofs
section
variable {M M':Hp} {lo hi h:Nat} {S:HS} {tag:Nat->Hg} {vrec vtxs vcom vmods vlook:XV} {nk vk ok cn cv co:Nat} {ptrs:List XV} {lnum:List (Nat×Int×Int)} {lver:List (Nat×List Int×Int)} {lobj:List (Nat×Int×Int)}
theorem eM.modPost (H:eM M lo hi h S tag vrec vtxs vcom vmods vlook nk vk ok cn cv co ptrs lnum lver lobj) (hh:hi<=nx) {rk mk cm:Nat} {a:ku} {lm:List (Nat×Int×XV)} (ha:S.txs[k]?=some a) (hv:ptrs[k]?=some (.mp rk 0)) (r1:lo<=rk) (r2:rk<hi) (r3:tag rk = .known k) (m1:lo<=mk) (m2:mk<hi) (m3:tag mk = .kmap k)
 (FX:kD lm cm) (l0:∀x,aH lm x=none->S.places k x=[]) (l1:∀x v,aH lm x=some v->S.places k x≠[]/\bS M lo hi tag (.slot k x) v 1 (S.places k x).length ((S.places k x).map (XV.int .i64)))
 {i:Int} {old:List Nat} (dz:∀j ∈ old,tag j = .mods\/tag j = .slot k r.x) (UD:∀j ∈ old,lo<=j) (fm:S.mods.length<=100000) (fp:(S.places k r.x).length<=100000) {o:ew}
 (P:nX M nx h nk rk mk vk ok old cm cv co S.mods.length (S.places k r.x).length lm lver lobj (S.mods.flatMap cO) ((S.places k r.x).map (XV.int .i64)) vrec vtxs vcom vlook a.t a.b a.e a.s a.n r.kind r.x r.v i o) (qL:a.t=r.t) :
 bX o.2.1 lo o.2.2 h (S.modify i r k)/\aq lo M o.2.1/\nx<=o.2.2:=by
 obtain⟨hn,ns,nm,cm',cv',co',n1,n2,n3,n4,n5,ec,p1,p2,p3,p4,p5,p6,p7,p8⟩:=P;have vg:=H.h_hi;have mo:=H.lo_h;rw[qL]at p4 p7;have key:∀q,q<hi->¬ vH k r.x (tag q)->gG o.2.1 q=gG M q:=fun q hq hc=>by
  refine p8 q Z (fun e=>hc (by rw[e];exact .inl H.tg)) (fun e=>hc (by rw[e];exact .inr (.inr (.inr (.inr (.inl m3)))))) (fun e=>hc (by rw[e];exact .inr (.inr (.inl H.vtg)))) (fun e=>hc (by rw[e];exact .inr (.inr (.inr (.inl H.otg))))) fun hm=>?_
  rcases dz q hm with e | e
  ·exact hc (.inr (.inl e))
  ·exact hc (.inr (.inr (.inr (.inr (.inr e)))))
 refine⟨⟨fun q=>if q=ns then .slot k r.x else if q=nm then .mods else tag q,vrec,vtxs,vcom,.sl nm 8 0 (S.mods.length+1) (S.mods.length+1),vlook,nk,vk,ok,cn,cv',co',ptrs,lnum,dD lver cv [r.x,r.t,(((S.places k r.x).length+1:Nat):Int)] (S.mods.length:Int),dD lobj co r.x ((aH lobj r.x).getD 0+1),?_⟩,fun q hq=>?_,hn⟩
 ·refine H.modify key (fun q hq=>by rw[if_neg Z,if_neg Z]) Z p1 ?_ p4 (wZ H.vrow rfl) (fun x w n=>?_) p5 (fun x=>?_) fun b hb=>?_
  ·refine⟨Z,?_,.inr ⟨Z,nm,rfl,Z,n4,by simp only;rw[if_neg fun e=>n5 e.symm];simp,?_⟩⟩
   ·have:=H.mods.2.1
    simp only[HS.modify,flatMap_append,length_append,this];simp[cO];omega
   ·rw[p7]
    simp only[HS.modify,flatMap_append];rfl
  ·rw[cQ,H.verS]
   simp only[HS.modify];by_cases e:x=r.x/\w=r.t/\n=(((S.places k r.x).length+1:Nat):Int)
   ·obtain⟨rfl,rfl,rfl⟩:=e
    rw[if_pos rfl,if_pos ⟨rfl,rfl,rfl⟩]
   ·rw[if_neg e,if_neg fun q=>e (by cases q;exact⟨rfl,rfl,rfl⟩)]
  ·rw[cQ,H.objS,H.objS]
   rfl
  ·rw[ha]at hb
   cases hb;refine⟨_,hv,rk,mk,cm',_,rfl,r1,Z,by simp only;rw[if_neg Z,if_neg Z];exact r3,?_,m1,Z,by simp only;rw[if_neg Z,if_neg Z];exact m3,p3,⟨by rw[ec];exact zV FX,fun x hx=>?_⟩,fun x v hx=>?_⟩
   ·rw[p2];rfl
   ·rw[cQ]at hx
    split at hx
    ·cases hx
    ·rename_i e
     simp only[HS.modify];rw[if_neg fun q=>e q.2];exact l0 x hx
   ·rw[cQ]at hx
    split at hx
    ·rename_i e
     subst e;cases hx;have ep:(S.modify i r k).places k r.x=S.places k r.x++[(S.mods.length:Int)]:=if_pos ⟨rfl,rfl⟩;rw[ep];refine⟨ae,aj,ae,.inr ⟨ae,ns,ae,Z,n3,ae,?_⟩⟩;rw[p6,map_append];rfl
    ·rename_i e
     simp only[HS.modify];rw[if_neg fun q=>e q.2];obtain⟨g1,g2⟩:=l1 x v hx;refine⟨g1,g2.keep (fun q hq hg=>⟨key q hq (by rw[hg];simp[vH,e]),by rw[if_neg Z,if_neg Z];exact hg⟩) Z⟩
 ·exact p8 q Z Z Z (by have:=H.vlo;omega) (by have:=H.olo;omega) fun hm=>by have:=UD q hm;omega
end
theorem f67 (ρ:aK) {M:Hp} {lo hi h:Nat} {S:HS} {cs:List XV} (hr:B3 r cs) (H:bX M lo hi h S) (hh:hi<=nx) (few:S.mods.length<=100000) (hk:S.num r.t=some (k:Int)) {a:ku} (ha:S.txs[k]?=some a) (qL:a.t=r.t) (fewp:(S.places k r.x).length<=100000) (i:Int)
 (cnt:0<=(S.obj r.x).getD 0/\(S.obj r.x).getD 0<=1000000000) :
 ar am ρ 67 [.mp h 0,.int .i64 i,.agg cs] M nx fun o=>o.1 = .tup []/\bX o.2.1 lo o.2.2 h (S.modify i r k)/\aq lo M o.2.1/\nx<=o.2.2:=by
 obtain⟨pk,pa,pb,pv,ve,rfl,⟨p1,p2⟩,⟨q1,q2⟩⟩:=hr;obtain⟨tag,vrec,vtxs,vcom,vmods,vlook,nk,vk,ok,cn,cv,co,ptrs,lnum,lver,lobj,H⟩:=H;have jc:=H.objS r.x;rw[<-jc]at cnt;have hw:IntKind.i64.wrap ((aH lobj r.x).getD 0+1)=(aH lobj r.x).getD 0+1:=wrap_i64 Z Z;have kA:k<S.txs.length:=(List.getElem?_eq_some_iff.1 ha).1;obtain⟨w,hv,rk,mk,cm,lm,rfl,r1,r2,r3,r4,m1,m2,m3,m4,⟨FX,l0⟩,l1⟩:=H.known k a ha;have pH:∀M' nx',aq nx M M'->nx<=nx'->ar am ρ 58 [.mp h 0,.int .u64 r.t] M' nx' (fe nx' M' (.mp rk 0)):=fun M' nx' ha hn=>Ve ρ (H.agr (ha.le hh)) Z hk hv kA
 simp only[d_,cons_append,nil_append,qL]at r4;have d1:=aZ H.tg r3 ae;have d2:=aZ H.tg m3 ae;have d3:=aZ H.tg H.vtg ae;have d4:=aZ H.tg H.otg ae;have d5:=aZ r3 m3 ae;have d6:=aZ r3 H.vtg ae;have d7:=aZ r3 H.otg ae;have d8:=aZ m3 H.vtg ae;have d9:=aZ m3 H.otg ae;have NE:=aZ H.vtg H.otg ae;have o1:h<nx:=Nat.lt_of_lt_of_le H.h_hi hh;have o2:rk<nx:=Nat.lt_of_lt_of_le r2 hh;have o3:mk<nx:=Nat.lt_of_lt_of_le m2 hh;have o4:vk<nx:=Nat.lt_of_lt_of_le H.vhi hh;have o5:ok<nx:=Nat.lt_of_lt_of_le H.ohi hh;have fin:∀(old:List Nat) (o:ew),(∀j ∈ old,tag j = .mods\/tag j = .slot k r.x)->(∀j ∈ old,lo<=j) ->
  nX M nx h nk rk mk vk ok old cm cv co S.mods.length (S.places k r.x).length lm lver lobj (S.mods.flatMap cO) ((S.places k r.x).map (XV.int .i64)) vrec vtxs vcom vlook r.t a.b a.e a.s a.n r.kind r.x r.v i o ->
  bX o.2.1 lo o.2.2 h (S.modify i r k)/\aq lo M o.2.1/\nx<=o.2.2:=fun old o g1 g2 P=>by
  rw[<-qL]at P;exact H.modPost hh ha hv r1 r2 r3 m1 m2 m3 FX l0 l1 g1 g2 few fewp P qL
 have bA:=H.row;obtain⟨hz,cF,⟨rfl,pG⟩ | ⟨hl,ms,rfl,s1,s2,s3,s4⟩⟩:=H.mods
 ·have NO:S.mods=[]:=length_eq_zero_iff.1 pG
  cases Ba:aH lm r.x with
  | none =>
    have sV:=l0 r.x Ba;have hd:aw h rk=False/\aw rk h=False/\aw h mk=False/\aw mk h=False/\aw h vk=False/\aw vk h=False/\aw h ok=False/\aw ok h=False/\aw rk mk=False/\aw mk rk=False/\aw rk vk=False/\aw vk rk=False/\aw rk ok=False/\aw ok rk=False/\aw mk vk=False/\aw vk mk=False/\aw mk ok=False/\aw ok mk=False/\aw vk ok=False/\aw ok vk=False:=by simp only[aw,eq_iff_iff,iff_false];exact⟨d1,d1.symm,d2,d2.symm,d3,d3.symm,d4,d4.symm,d5,d5.symm,d6,d6.symm,d7,d7.symm,d8,d8.symm,d9,d9.symm,NE,NE.symm⟩
    refine ar.mono (PQ ρ M nx h nk rk mk vk ok 0 0 cm cv co 0 0 lm lver lobj [] [] vrec vtxs vcom vlook pv ve r.t a.b a.e a.s a.n r.kind r.x r.w r.n r.v pk pa pb i bA r4 m4 H.ver H.obj H.vrow Ba pH o1 o2 o3 o4 o5 hd hw p1 p2 q1 q2) fun o ho=>⟨ho.1,fin [] o ?_ ?_ ?_⟩
    ·intro j hj;cases hj
    ·intro j hj;cases hj
    ·rw[NO,sV];exact ho.2
  | some sv =>
    obtain⟨cf,hzz,hcz,⟨_,e0⟩ | ⟨ht,s,rfl,t1,t2,t3,t4⟩⟩:=l1 r.x sv Ba
    ·exact(cf (length_eq_zero_iff.1 e0)).elim
    have g1:=aZ H.tg t3 ae;have g2:=aZ r3 t3 ae;have g3:=aZ m3 t3 ae;have g4:=aZ H.vtg t3 ae;have g5:=aZ H.otg t3 ae;have hd:aw h rk=False/\aw rk h=False/\aw h mk=False/\aw mk h=False/\aw h vk=False/\aw vk h=False/\aw h ok=False/\aw ok h=False/\aw h s=False/\aw s h=False/\aw rk mk=False/\aw mk rk=False/\aw rk vk=False/\aw vk rk=False/\aw rk ok=False/\aw ok rk=False/\aw rk s=False/\aw s rk=False/\aw mk vk=False/\aw vk mk=False/\aw mk ok=False/\aw ok mk=False/\aw mk s=False/\aw s mk=False/\aw vk ok=False/\aw ok vk=False/\aw vk s=False/\aw s vk=False/\aw ok s=False/\aw s ok=False:=by simp only[aw,eq_iff_iff,iff_false];exact⟨d1,d1.symm,d2,d2.symm,d3,d3.symm,d4,d4.symm,g1,g1.symm,d5,d5.symm,d6,d6.symm,d7,d7.symm,g2,g2.symm,d8,d8.symm,d9,d9.symm,g3,g3.symm,NE,NE.symm,g4,g4.symm,g5,g5.symm⟩
    refine ar.mono (Qj ρ M nx h nk rk mk vk ok 0 s cm cv co 0 (S.places k r.x).length lm lver lobj [] ((S.places k r.x).map (XV.int .i64)) vrec vtxs vcom vlook pv ve r.t a.b a.e a.s a.n r.kind r.x r.w r.n r.v pk pa pb i bA r4 m4 H.ver H.obj H.vrow Ba t4 ae (Nat.lt_of_lt_of_le t2 hh) fewp pH o1 o2 o3 o4 o5 hd hw p1 p2 q1 q2) fun o ho=>⟨ho.1,fin [s] o ?_ ?_ ?_⟩
    ·intro j hj;simp only[mem_cons,not_mem_nil,or_false]at hj;subst hj;exact .inr t3
    ·intro j hj;simp only[mem_cons,not_mem_nil,or_false]at hj;subst hj;exact t1
    ·rw[NO];exact ho.2
 ·cases Ba:aH lm r.x with
  | none =>
    have sV:=l0 r.x Ba;have g1:=aZ H.tg s3 ae;have g2:=aZ r3 s3 ae;have g3:=aZ m3 s3 ae;have g4:=aZ H.vtg s3 ae;have g5:=aZ H.otg s3 ae;have hd:aw h rk=False/\aw rk h=False/\aw h mk=False/\aw mk h=False/\aw h vk=False/\aw vk h=False/\aw h ok=False/\aw ok h=False/\aw h ms=False/\aw ms h=False/\aw rk mk=False/\aw mk rk=False/\aw rk vk=False/\aw vk rk=False/\aw rk ok=False/\aw ok rk=False/\aw rk ms=False/\aw ms rk=False/\aw mk vk=False/\aw vk mk=False/\aw mk ok=False/\aw ok mk=False/\aw mk ms=False/\aw ms mk=False/\aw vk ok=False/\aw ok vk=False/\aw vk ms=False/\aw ms vk=False/\aw ok ms=False/\aw ms ok=False:=by simp only[aw,eq_iff_iff,iff_false];exact⟨d1,d1.symm,d2,d2.symm,d3,d3.symm,d4,d4.symm,g1,g1.symm,d5,d5.symm,d6,d6.symm,d7,d7.symm,g2,g2.symm,d8,d8.symm,d9,d9.symm,g3,g3.symm,NE,NE.symm,g4,g4.symm,g5,g5.symm⟩
    refine ar.mono (Qn ρ M nx h nk rk mk vk ok ms 0 cm cv co S.mods.length 0 lm lver lobj (S.mods.flatMap cO) [] vrec vtxs vcom vlook pv ve r.t a.b a.e a.s a.n r.kind r.x r.w r.n r.v pk pa pb i bA r4 m4 H.ver H.obj H.vrow Ba s4 cF (Nat.lt_of_lt_of_le s2 hh) few pH o1 o2 o3 o4 o5 hd hw p1 p2 q1 q2) fun o ho=>⟨ho.1,fin [ms] o ?_ ?_ ?_⟩
    ·intro j hj;simp only[mem_cons,not_mem_nil,or_false]at hj;subst hj;exact .inl s3
    ·intro j hj;simp only[mem_cons,not_mem_nil,or_false]at hj;subst hj;exact s1
    ·rw[sV];exact ho.2
  | some sv =>
    obtain⟨cf,hzz,hcz,⟨_,e0⟩ | ⟨ht,s,rfl,t1,t2,t3,t4⟩⟩:=l1 r.x sv Ba
    ·exact(cf (length_eq_zero_iff.1 e0)).elim
    have g1:=aZ H.tg t3 ae;have g2:=aZ H.tg s3 ae;have g3:=aZ r3 t3 ae;have g4:=aZ r3 s3 ae;have g5:=aZ m3 t3 ae;have g6:=aZ m3 s3 ae;have g7:=aZ H.vtg t3 ae;have g8:=aZ H.vtg s3 ae;have g9:=aZ H.otg t3 ae;have RG:=aZ H.otg s3 ae;have g11:=aZ t3 s3 ae;have hd:aw h rk=False/\aw rk h=False/\aw h mk=False/\aw mk h=False/\aw h vk=False/\aw vk h=False/\aw h ok=False/\aw ok h=False/\aw h s=False/\aw s h=False/\aw h ms=False/\aw ms h=False/\aw rk mk=False/\aw mk rk=False/\aw rk vk=False/\aw vk rk=False/\aw rk ok=False/\aw ok rk=False/\aw rk s=False/\aw s rk=False/\aw rk ms=False/\aw ms rk=False/\aw mk vk=False/\aw vk mk=False/\aw mk ok=False/\aw ok mk=False/\aw mk s=False/\aw s mk=False/\aw mk ms=False/\aw ms mk=False/\aw vk ok=False/\aw ok vk=False/\aw vk s=False/\aw s vk=False/\aw vk ms=False/\aw ms vk=False/\aw ok s=False/\aw s ok=False/\aw ok ms=False/\aw ms ok=False/\aw s ms=False/\aw ms s=False:=by simp only[aw,eq_iff_iff,iff_false];exact⟨d1,d1.symm,d2,d2.symm,d3,d3.symm,d4,d4.symm,g1,g1.symm,g2,g2.symm,d5,d5.symm,d6,d6.symm,d7,d7.symm,g3,g3.symm,g4,g4.symm,d8,d8.symm,d9,d9.symm,g5,g5.symm,g6,g6.symm,NE,NE.symm,g7,g7.symm,g8,g8.symm,g9,g9.symm,RG,RG.symm,g11,g11.symm⟩
    refine ar.mono (OI ρ M nx h nk rk mk vk ok ms s cm cv co S.mods.length (S.places k r.x).length lm lver lobj (S.mods.flatMap cO) ((S.places k r.x).map (XV.int .i64)) vrec vtxs vcom vlook pv ve r.t a.b a.e a.s a.n r.kind r.x r.w r.n r.v pk pa pb i bA r4 m4 H.ver H.obj H.vrow Ba t4 ae (Nat.lt_of_lt_of_le t2 hh) fewp s4 cF (Nat.lt_of_lt_of_le s2 hh) few pH o1 o2 o3 o4 o5 hd hw p1 p2 q1 q2) fun o ho=>⟨ho.1,fin [s,ms] o ?_ ?_ ?_⟩
    ·intro j hj;simp only[mem_cons,not_mem_nil,or_false]at hj;rcases hj with rfl | rfl;exact .inr t3;exact .inl s3
    ·intro j hj;simp only[mem_cons,not_mem_nil,or_false]at hj;rcases hj with rfl | rfl;exact t1;exact s1
    ·exact ho.2
end Go.Xs
namespace Go.Xs
open List Nat Option
variable{M:Hp}{S:HS}{cs:List XV}{h hi lo nx:Nat}{r:aR}
open Go.Proofs
theorem bX.agr {M':Hp} (H:bX M lo hi h S) (ha:aq hi M M'):bX M' lo hi h S:=by
 obtain⟨tag,vrec,vtxs,vcom,vmods,vlook,nk,vk,ok,cn,cv,co,ptrs,lnum,lver,lobj,H⟩:=H;exact⟨tag,vrec,vtxs,vcom,vmods,vlook,nk,vk,ok,cn,cv,co,ptrs,lnum,lver,lobj,H.agr ha⟩
theorem bX.lo_le (H:bX M lo hi h S):lo<=h/\h<hi:=by
 obtain⟨tag,vrec,vtxs,vcom,vmods,vlook,nk,vk,ok,cn,cv,co,ptrs,lnum,lver,lobj,H⟩:=H;exact⟨H.lo_h,H.h_hi⟩
theorem Ld (ρ:aK) (hr:B3 r cs) (H:bX M lo hi h S) (hh:hi<=nx) (k2:r.kind=2) (few:S.looks.length<=100000) (cnt:0<=(S.obj r.x).getD 0/\(S.obj r.x).getD 0<=1000000000) (i:Int) :
 ar am ρ 38 [.mp h 0,.int .i64 i,.agg cs] M nx fun o=>o.1 = .tup []/\bX o.2.1 lo o.2.2 h (S.look ⟨i,0,r.t,r.x,r.w,r.n,false,false⟩)/\aq lo M o.2.1/\nx<=o.2.2:=by
 obtain⟨pk,pa,pb,pv,ve,rfl,⟨p1,p2⟩,⟨q1,q2⟩⟩:=hr;have mo:=H.lo_le;have N_:=fun(M1:Hp) (n1:Nat) (ha:aq nx M M1) (hn:nx<=n1)=>f66 ρ (H.agr (ha.le hh)) (show hi<=n1 by omega) few ⟨i,0,r.t,r.x,r.w,r.n,false,false⟩ cnt
 simp only[cX]at N_;clear H;rw[k2];refine ar.wk 134 [] Tryz.func38 ?_;refine lO gu p1 p2 q1 q2 ?_;generalize xu:ci M nx _=M1;have a1:aq nx M M1:=by rw[<-xu];exact O
 clear xu;refine gQ (N_ M1 _ a1 Z) ?_;rintro⟨u,M2,n2⟩ ⟨g1,g2,g3,g4⟩;simp only at g1 g2 g3 g4;subst g1;refine dt gu ?_;exact⟨g2,(a1.le Z).trans g3,Z⟩
theorem PJ (ρ:aK) (hr:B3 r cs) (H:bX M lo hi h S) (hh:hi<=nx) (k34:r.kind=3\/r.kind=4) (few:S.mods.length<=100000) {k:Nat} (hk:S.num r.t=some (k:Int)) {a:ku} (ha:S.txs[k]?=some a) (qL:a.t=r.t) (fewp:(S.places k r.x).length<=100000) (i:Int)
 (cnt:0<=(S.obj r.x).getD 0/\(S.obj r.x).getD 0<=1000000000) :
 ar am ρ 38 [.mp h 0,.int .i64 i,.agg cs] M nx fun o=>o.1 = .tup []/\bX o.2.1 lo o.2.2 h (S.modify i r k)/\aq lo M o.2.1/\nx<=o.2.2:=by
 have mo:=H.lo_le;have vZ:=fun(M1:Hp) (n1:Nat) (Qw:aq nx M M1) (hn:nx<=n1)=>f67 ρ hr (H.agr (Qw.le hh)) (show hi<=n1 by omega) few hk ha qL fewp i cnt
 obtain⟨pk,pa,pb,pv,ve,rfl,⟨p1,p2⟩,⟨q1,q2⟩⟩:=hr;clear H hk ha qL
 rcases k34 with e | e
 all_goals
  rw[e]at vZ ⊢
 all_goals
  refine ar.wk 134 [] Tryz.func38 ?_
 all_goals
  refine lO gu p1 p2 q1 q2 ?_;try exact⟨⟩
 all_goals
  generalize xu:ci M nx _=M1;have a1:aq nx M M1:=by rw[<-xu];exact O
  clear xu;refine gQ (vZ M1 _ a1 Z) ?_;rintro⟨u,M2,n2⟩ ⟨g1,g2,g3,g4⟩;simp only at g1 g2 g3 g4;subst g1
 all_goals
  refine dt gu ?_;try exact⟨⟩
 all_goals
  exact⟨g2,(a1.le Z).trans g3,Z⟩
structure xT (M:Hp) (nx h nk vm om m cn:Nat) (ln:List (Nat×Int×Int)) (ys:List XV) (c0 c3 c4 c6:XV) (T:Int) (i:Int) (old:List Nat) (o:ew):Prop where
 post:nx<=o.2.2/\(∃ts R mk cn',nx<=ts/\ts<o.2.2/\nx<=R/\R<o.2.2/\nx<=mk/\mk<o.2.2/\ts≠R/\ts≠mk/\R≠mk/\gG o.2.1 h=some (.row [c0,.sl ts 1 0 (m+1) (m+1),.mm nk,c3,c4,.mm vm,c6,.mm om])/\gG o.2.1 nk=some (.map (cx (vI .i64) (dD ln cn T (m:Int))) cn') /\
  gG o.2.1 ts=some (.row (ys++[.mp R 0]))/\gG o.2.1 R=some (.row [.int .u64 T,.int .i64 i,.int .i64 0,.int .i64 3,.int .i64 (-1),.mm mk])/\gG o.2.1 mk=some (.map [] 0))/\∀j,j<nx->j≠h->j≠nk->j ∉ old->gG o.2.1 j=gG M j
theorem OU (ρ:aK) (M:Hp) (nx h nk vm om cs m cn:Nat) (ln:List (Nat×Int×Int)) (ys:List XV) (c0 c3 c4 c6 pp pe:XV) (T X VW VN V pk pa pb:Int) (i:Int)
 (hh:gG M h=some (.row [c0,.nils,.mm nk,c3,c4,.mm vm,c6,.mm om])) (hn:gG M nk=some (.map (cx (vI .i64) ln) cn))
 (b1:h<nx) (b2:nk<nx) (hd:aw h nk=False/\aw nk h=False) (p1:dY pp=[pp]) (p2:ax pp=true) (p3:dY pe=[pe]) (p4:ax pe=true) :
 ar am ρ 38 [.mp h 0,.int .i64 i,.agg [.int .i64 1,.int .u64 T,.int .u64 X,.int .u64 VW,.int .u64 VN,.int .u64 V,.int .i64 pk,.int .u64 pa,.int .u64 pb,pp,pe]] M nx fun o =>
  o.1 = .tup []/\xT M nx h nk vm om 0 cn ln [] c0 c3 c4 c6 T i [] o:=by
 refine ar.wk 134 [] Tryz.func38 ?_;refine oq gu p1 p2 p3 p4 hh hn hd ?_
 repeat' apply an
 all_goals first
  | (refine bn _ _ _ _ _ _ ?_ ?_ ?_<;>(intro x hx hy;first | (simp only[mem_cons,not_mem_nil,or_false]at hx hy;done) | (simp only[mem_cons,not_mem_nil,or_false]at hx hy;omega));done)
  | skip
 refine⟨ak,⟨nx+30,nx+28,nx+26,l8 ln cn T,Z,ak,Z,ak,Z,ak,Z,Z,Z,?_,?_,?_,?_,?_⟩,fun j hj f1 f2 f3=>?_⟩
 rotate_right
 ·have k0:aw h j=False:=by simp only[aw,eq_iff_iff,iff_false];exact fun e=>f1 e.symm
  have k1:aw nk j=False:=by simp only[aw,eq_iff_iff,iff_false];exact fun e=>f2 e.symm
  refine gk gu k0 k1 ?_;try exact⟨⟩
 all_goals first
  | ((refine fM gu hd ?_;try exact⟨⟩);done)
  | ((refine fM gu hd ?_;try exact⟨⟩);first | rfl | (simp;done))
  | skip
theorem OA (ρ:aK) (M:Hp) (nx h nk vm om cs m cn:Nat) (ln:List (Nat×Int×Int)) (ys:List XV) (c0 c3 c4 c6 pp pe:XV) (T X VW VN V pk pa pb:Int) (i:Int)
 (hh:gG M h=some (.row [c0,.sl cs 1 0 m m,.mm nk,c3,c4,.mm vm,c6,.mm om])) (hn:gG M nk=some (.map (cx (vI .i64) ln) cn)) (dI:gG M cs=some (.row ys)) (cF:ys.length=m) (b3:cs<nx) (hm:1<=m) (bm:m<=100000)
 (b1:h<nx) (b2:nk<nx) (hd:aw h nk=False/\aw nk h=False/\aw h cs=False/\aw cs h=False/\aw nk cs=False/\aw cs nk=False) (p1:dY pp=[pp]) (p2:ax pp=true) (p3:dY pe=[pe]) (p4:ax pe=true) :
 ar am ρ 38 [.mp h 0,.int .i64 i,.agg [.int .i64 1,.int .u64 T,.int .u64 X,.int .u64 VW,.int .u64 VN,.int .u64 V,.int .i64 pk,.int .u64 pa,.int .u64 pb,pp,pe]] M nx fun o =>
  o.1 = .tup []/\xT M nx h nk vm om m cn ln ys c0 c3 c4 c6 T i [cs] o:=by
 refine ar.wk 134 [] Tryz.func38 ?_;refine rf gu p1 p2 p3 p4 hh hn hd dI cF ?_;have kB:List.take m ys=ys:=take_of_length_le Z
 repeat' apply an
 all_goals first
  | (refine bn _ _ _ _ _ _ ?_ ?_ ?_<;>(intro x hx hy;first | (simp only[mem_cons,not_mem_nil,or_false]at hx hy;done) | (simp only[mem_cons,not_mem_nil,or_false]at hx hy;omega));done)
  | skip
 refine⟨ak,⟨nx+30,nx+28,nx+26,l8 ln cn T,Z,ak,Z,ak,Z,ak,Z,Z,Z,?_,?_,?_,?_,?_⟩,fun j hj f1 f2 f3=>?_⟩
 rotate_right
 ·have k0:aw h j=False:=by simp only[aw,eq_iff_iff,iff_false];exact fun e=>f1 e.symm
  have k1:aw nk j=False:=by simp only[aw,eq_iff_iff,iff_false];exact fun e=>f2 e.symm
  have k2:aw cs j=False:=by simp only[aw,eq_iff_iff,iff_false];exact fun e=>f3 (by rw[<-e];simp)
  refine jz gu k0 k1 k2 ?_;try exact⟨⟩
 all_goals first
  | ((refine gk gu hd kB ?_;try exact⟨⟩);done)
  | ((refine gk gu hd kB ?_;try exact⟨⟩);first | rfl | (simp;done))
  | skip
theorem GS (ρ:aK) (hr:B3 r cs) (H:bX M lo hi h S) (hh:hi<=nx) (k1:r.kind=1) (few:S.txs.length<=100000) (i:Int) :
 ar am ρ 38 [.mp h 0,.int .i64 i,.agg cs] M nx fun o=>o.1 = .tup []/\bX o.2.1 lo o.2.2 h (S.begin i r)/\aq lo M o.2.1/\nx<=o.2.2:=by
 obtain⟨pk,pa,pb,pv,ve,rfl,⟨p1,p2⟩,⟨q1,q2⟩⟩:=hr;rw[k1];obtain⟨tag,vrec,vtxs,vcom,vmods,vlook,nk,vk,ok,cn,cv,co,ptrs,lnum,lver,lobj,H⟩:=H;have vg:=H.h_hi;have mo:=H.lo_h;have ZW:=H.nhi;have hnlo:=H.nlo;have d1:=aZ H.tg H.ntg ae;have fin:∀(old:List Nat) (o:ew),(∀j ∈ old,tag j = .txs)->(∀j ∈ old,lo<=j)->xT M nx h nk vk ok S.txs.length cn lnum ptrs vrec vcom vmods vlook r.t i old o ->
  bX o.2.1 lo o.2.2 h (S.begin i r)/\aq lo M o.2.1/\nx<=o.2.2:=by
  intro old o h1 h2 P;obtain⟨⟨g2,⟨ts,R,mk,cn',c1,c2,c3,c4,c5,c6,c7,c8,c9,e1,e2,e3,e4,e5⟩,g4⟩⟩:=P;have key:∀q,q<hi->¬ vo (tag q)->gG o.2.1 q=gG M q:=fun q hq hc=>g4 q Z (fun e=>hc (by rw[e];exact .inl H.tg)) (fun e=>hc (by rw[e];exact .inr (.inr H.ntg))) fun e=>hc (.inr (.inl (h1 q e)))
  refine⟨⟨fun q=>if q=ts then .txs else if q=R then .known S.txs.length else if q=mk then .kmap S.txs.length else tag q,vrec,_,vcom,vmods,vlook,nk,vk,ok,cn',cv,co,ptrs++[.mp R 0],_,lver,lobj,
   H.begin (tag':=fun q=>if q=ts then .txs else if q=R then .known S.txs.length else if q=mk then .kmap S.txs.length else tag q) key (fun q hq=>by rw[if_neg Z,if_neg Z,if_neg Z]) Z e1 ?_ e2 (fun t=>?_) ⟨R,mk,0,[],rfl,Z,c4,?_,e4,Z,c6,?_,e5,⟨AH _,fun _ _=>rfl⟩,fun x v hx=>by simp[aH]at hx⟩⟩,fun j hj=>g4 j Z Z Z fun e=>by have:=h2 j e;omega,g2⟩
  ·have:=H.txs.2.1
   exact⟨Z,aj,.inr ⟨Z,ts,rfl,Z,c2,ae,e3⟩⟩
  ·rw[cQ,H.numS]
   rfl
  ·simp only;rw[if_neg (fun e=>c7 e.symm)];simp
  ·simp only;rw[if_neg (fun e=>c8 e.symm),if_neg (fun e=>c9 e.symm)];simp
 have bA:=H.row;obtain⟨hz,cF,⟨rfl,pG⟩ | ⟨hl,ck,rfl,s1,s2,s3,s4⟩⟩:=H.txs
 ·have sV:ptrs=[]:=length_eq_zero_iff.1 Z
  have hd:aw h nk=False/\aw nk h=False:=by simp only[aw,eq_iff_iff,iff_false];exact⟨d1,d1.symm⟩
  refine ar.mono (OU ρ M nx h nk vk ok 0 0 cn lnum [] vrec vcom vmods vlook pv ve r.t r.x r.w r.n r.v pk pa pb i bA H.num Z Z hd p1 p2 q1 q2) fun o ho=>⟨ho.1,fin [] o (fun j hj=>by cases hj) (fun j hj=>by cases hj) ?_⟩
  rw[pG,sV];exact ho.2
 ·have d2:=aZ H.tg s3 ae
  have d3:=aZ H.ntg s3 ae;have hd:aw h nk=False/\aw nk h=False/\aw h ck=False/\aw ck h=False/\aw nk ck=False/\aw ck nk=False:=by simp only[aw,eq_iff_iff,iff_false];exact⟨d1,d1.symm,d2,d2.symm,d3,d3.symm⟩
  refine ar.mono (OA ρ M nx h nk vk ok ck S.txs.length cn lnum ptrs vrec vcom vmods vlook pv ve r.t r.x r.w r.n r.v pk pa pb i bA H.num s4 Z Z hl few Z Z hd p1 p2 q1 q2) fun o ho=>⟨ho.1,fin [ck] o (fun j hj=>?_) (fun j hj=>?_) ho.2⟩
  ·simp only[mem_cons,not_mem_nil,or_false]at hj;subst hj;exact s3
  ·simp only[mem_cons,not_mem_nil,or_false]at hj;subst hj;exact s1
end Go.Xs
namespace Go.Xs
open List Nat Option
variable{M M' N N':Hp}{S:HS}{cs:List XV}{h lo nx:Nat}{r:aR}
open Go.Proofs
def ng (i:Int) (r:aR) (n:Nat) (e:En):my:=⟨i,(n:Int),r.t,e.x,e.w,e.n,true,e.m⟩
def HS.preds (S:HS) (i:Int) (r:aR):Nat->HS
 | 0=>S
 | n+1=>match r.es[n]? with | some e=>(S.preds i r n).look (ng i r n e) | none=>S.preds i r n
theorem nr {S:HS} {i:Int} {r:aR}:∀(n:Nat),(S.preds i r n).looks.length<=S.looks.length+n/\∀x,(0<=(S.obj x).getD 0->0<=((S.preds i r n).obj x).getD 0)/\((S.preds i r n).obj x).getD 0<=max ((S.obj x).getD 0) 0+n
 | 0=>⟨by simp[HS.preds],fun x=>⟨fun h=>h,by simp only[HS.preds];omega⟩⟩
 | n+1=>by
   obtain⟨h1,h2⟩:=nr (S:=S) (i:=i) (r:=r) n;unfold HS.preds;cases he:r.es[n]? with
   | some e =>
     have hl:∀x,((S.preds i r n).look (ng i r n e)).obj x=if x=(ng i r n e).x then some (((S.preds i r n).obj (ng i r n e).x).getD 0+1) else (S.preds i r n).obj x:=fun x=>rfl
     refine⟨by simp[HS.look];omega,fun x=>?_⟩;have:=h2 x;show (0<=(S.obj x).getD 0->0<=(((S.preds i r n).look (ng i r n e)).obj x).getD 0)/\(((S.preds i r n).look (ng i r n e)).obj x).getD 0<=max ((S.obj x).getD 0) 0+((n+1:Nat):Int);rw[hl];by_cases hx:x=(ng i r n e).x
     ·rw[if_pos hx,getD_some,<-hx]
      omega
     ·rw[if_neg hx]
      omega
   | none=>exact⟨ak,fun x=>by have:=h2 x;simp only;omega⟩
theorem XD (ρ:aK) (H:HF M nx N lo h S) (few:S.looks.length<=100000) (a:my) (cnt:0<=(S.obj a.x).getD 0/\(S.obj a.x).getD 0<=1000000000) :
 ar am ρ 66 [.mp h 0,.agg (cX a)] M nx (Dg M nx N lo h (S.look a) (.tup [])):=ar.hist H fun _ hh hH=>f66 ρ hH hh few a cnt
def iJ (nx:Nat) (N:Hp) (k:Nat):Prop:=k<nx/\gG N k=none
theorem dN.some {M:Hp} {p:Nat->Prop} {v:XV} {sz len:Nat} {row:List XV} (h:dN M p v sz len row):dN M (fun k=>p k/\∃x,gG M k = .some x) v sz len row:=by
 refine⟨h.1,?_⟩;rcases h.2 with h | ⟨n,off,cap,cs,h1,h2,h3,h4⟩
 ·exact .inl h
 ·refine .inr ⟨n,off,cap,cs,h1,⟨h2,?_⟩,h3,h4⟩
  unfold vR at h3;cases hm:gG M n with
  | none=>rw[hm]at h3;cases h3
  | some x=>exact⟨x,rfl⟩
mutual
theorem dm.some {M:Hp} {p:Nat->Prop}:∀{e:Ex} {cs:List XV},dm M p e cs->dm M (fun k=>p k/\∃x,gG M k = .some x) e cs
 | .mk k x y ps,cs,h=>by
   simp only[dm]at h ⊢;obtain⟨v,row,h1,h2,h3⟩:=h;exact⟨v,row,h1,h2.some,bP.some h3⟩
theorem bP.some {M:Hp} {p:Nat->Prop}:∀{es:List Ex} {row:List XV},bP M p es row->bP M (fun k=>p k/\∃x,gG M k = .some x) es row
 | [],_,_=>by simp only[bP]
 | e::es,row,h=>by
   simp only[bP]at h ⊢;exact⟨dm.some h.1,bP.some h.2⟩
end
theorem dN.aside {v:XV} {sz len:Nat} {row:List XV} (h:dN M (iJ nx N) v sz len row) (hA:gM nx N M N' M') {q:Nat->Prop} (hq:∀k,iJ nx N' k->q k):dN M' q v sz len row :=
 h.some.keep fun k ⟨⟨h1,h2⟩,x,h3⟩=>⟨by rw[(hA k x h1 h2 h3).1,h3],hq k ⟨h1,(hA k x h1 h2 h3).2⟩⟩
theorem eL.aside (h:eL M (iJ nx N) r cs) (hA:gM nx N M N' M') {q:Nat->Prop} (hq:∀k,iJ nx N' k->q k):eL M' q r cs:=by
 obtain⟨pc,ve,h1,h2,h3⟩:=h;exact⟨pc,ve,h1,h2.some.keep fun k ⟨⟨h1,h2⟩,x,h3⟩=>⟨by rw[(hA k x h1 h2 h3).1,h3],hq k ⟨h1,(hA k x h1 h2 h3).2⟩⟩,h3.aside hA hq⟩
theorem LZ (ρ:aK) (hr:eL M (iJ nx N) r cs) (H:HF M nx N lo h S) (k5:r.kind=5) (few:S.looks.length+r.es.length<=100000) (cnt:∀x,0<=(S.obj x).getD 0/\(S.obj x).getD 0<=100000000) (i:Int) :
 ar am ρ 38 [.mp h 0,.int .i64 i,.agg cs] M nx (Dg M nx N lo h (S.preds i r r.es.length) (.tup [])):=by
 obtain⟨pk,pa,pb,pv,ve,rfl,⟨p1,p2⟩,⟨q1,q2⟩,_,_⟩:=(hr.lt fun k hk=>hk.1).cells;have QH:dN M (iJ nx N) ve 4 r.es.length (r.es.flatMap b9):=by
  obtain⟨pc,ve',h1,h2,h3⟩:=hr;obtain⟨a1,a2,a3,a4,rfl,_,_⟩:=h2.shape;simp only[cons_append,nil_append,List.cons.injEq,and_true,true_and]at h1;rw[h1.2.2.2.2];exact h3
 have dZ:bE M nx ve 4 r.es.length (r.es.flatMap b9):=dN.lt (QH.keep fun k hk=>⟨rfl,hk.1⟩);have ay:=fun N=>dZ.len (P:=am) (t:=41) eo.2.2.2.2.2 N
 have YS:=H.out (Nat.le_refl nx);have mo:lo<=nx:=by obtain⟨hi,q1,q2⟩:=H.at';have:=q2.lo_lt;omega
 have Jr:r.es.length<=100000:=Z;clear hr;rw[k5];refine ar.wk 134 [] Tryz.func38 ?_;rw[G8];refine ul gu p1 p2 q1 q2 ay ?_;refine aC (fun m' s=>∃(j:Nat) (N':Hp),j<=r.es.length/\m'=r.es.length - j/\gG s.env 0=some (.mp h 0)/\gG s.env 1=some (.int .i64 i)/\gG s.env 5=some (.mp nx 0)/\gG s.env 63=some ve/\gG s.env 64=some (.int .i64 r.es.length)/\gG s.env 65=some (.int .i64 j) /\
  gG s.M nx=some (.row [.int .i64 5,.int .u64 r.t,.int .u64 r.x,.int .u64 r.w,.int .u64 r.n,.int .u64 r.v,.int .i64 pk,.int .u64 pa,.int .u64 pb,pv,ve])/\gG N' nx=none/\HF s.M s.nx N' lo h (S.preds i r j)/\nx+1<=s.nx/\gM nx N M N' s.M/\aq lo M s.M)
  r.es.length ⟨0,N,Z,Z,?_⟩ ?_
 ·refine dt gu ?_
  exact⟨YS,H.agr O Z,Z,fun k x k1 k2 k3=>⟨J,k2⟩,O⟩
 ·rintro m' ⟨env,M',nx'⟩ ⟨j,N',hj,ir,e0,e1,e5,Vm,Vn,Vo,sQ,YN,hF,hn,hA,hG⟩
  simp only at e0 e1 e5 Vm Vn Vo sQ hF hn hA hG;have Mw:bE M' nx ve 4 r.es.length (r.es.flatMap b9):=dN.lt (QH.aside hA fun k hk=>hk.1);clear dZ QH ay H;by_cases aL:(j:Int)<r.es.length
  ·have aP:j<r.es.length:=Z
   obtain⟨e,VC⟩:∃e,r.es[j]?=some e:=⟨r.es[j],by simp[aP]⟩;obtain⟨n,o,jw,bC,aU⟩:=Mw.elem (P:=am) aP (t:=41) (t':=120) eo.2.2.2.1 mz.1;have aU:=aU M' (aq.refl _ _);rw[iz _ _ _ VC]at aU;simp only[b9]at aU;have bV:=eF j;have JZ:=nr (S:=S) (i:=i) (r:=r) j;have hcx:=JZ.2 e.x;have RM:=cnt e.x;have dW:=fun(M1:Hp) (n1:Nat) (ha:aq nx' M' M1) (bT:nx'<=n1)=>XD ρ (hF.agr ha bT) (show (S.preds i r j).looks.length<=100000 by have:=JZ.1;omega) (ng i r j e) (by simp only[ng];omega)
   simp only[ng,cX]at dW;have Vt:S.preds i r (j+1)=(S.preds i r j).look (ng i r j e):=by
    conv=>lhs;unfold HS.preds
    rw[VC]
   clear JZ hcx RM cnt few;refine zQ gu e0 e1 e5 Vm Vn Vo aL bC aU sQ ?_;generalize xu:ci (ci M' _ _) _ _=M1;have a1:aq nx' M' M1:=by rw[<-xu];exact O
   clear xu;refine gQ (dW M1 _ a1 Z) ?_;rintro⟨u,M2,n2⟩ ⟨k1,k2,N2,k3,k4,k5⟩;simp only at k1 k2 k3 k4 k5;subst k1;have NK:gM nx' N' M' N2 M2:=fun k x h1 h2 h3=>k4 k x Z h2 (by rw[a1 k h1];exact h3)
   obtain⟨c1,c2⟩:=NK nx _ Z YN sQ;refine oq gu e0 e1 e5 Vm Vn Vo bV ?_;refine⟨r.es.length - (j+1),Z,j+1,N2,Z,rfl,rfl,c1,c2,by rw[Vt];exact k3.agr (aq.refl _ _) Z,Z,hA.trans NK Z,(hG.trans (a1.le Z)).trans k5⟩
  ·clear cnt few
   refine wT gu e0 e1 e5 Vm Vn Vo aL @Pv ?_;have gB:j=r.es.length:=Z;rw[gB]at hF;exact⟨rfl,ak,N',hF.agr (aq.refl _ _) ak,hA,hG⟩
def HS.take (S:HS) (i:Nat) (r:aR):HS :=
 if r.kind=1 then S.begin i r
 else if r.kind=2 then S.look ⟨i,0,r.t,r.x,r.w,r.n,false,false⟩
 else if r.kind=3\/r.kind=4 then S.modify i r ((S.num r.t).getD 0).toNat
 else if r.kind=5 then S.preds i r r.es.length
 else if r.kind=6 then match S.txs[((S.num r.t).getD 0).toNat]? with | some a=>S.endTx ((S.num r.t).getD 0).toNat ⟨r.t,a.b,i,1,(S.com.length:Int)⟩ (S.com++[r.t]) | none=>S
 else match S.txs[((S.num r.t).getD 0).toNat]? with | some a=>S.endTx ((S.num r.t).getD 0).toNat ⟨r.t,a.b,i,2,a.n⟩ S.com | none=>S
structure kK (S:HS) (r:aR):Prop where
 kind:1<=r.kind/\r.kind<=7
 tx:r.kind≠1->∃(k:Nat) (a:ku),S.num r.t=some (k:Int)/\S.txs[k]?=some a/\a.t=r.t/\(S.places k r.x).length<=100000
 txs:S.txs.length<=100000
 mods:S.mods.length<=100000
 com:S.com.length<=100000
 looks:S.looks.length+r.es.length+1<=100000
 cnt:∀x,0<=(S.obj x).getD 0/\(S.obj x).getD 0<=100000000
theorem f38 (ρ:aK) (hr:eL M (iJ nx N) r cs) (H:HF M nx N lo h S) (i:Nat) (ok:kK S r) :
 ar am ρ 38 [.mp h 0,.int .i64 i,.agg cs] M nx (Dg M nx N lo h (S.take i r) (.tup [])):=by
 have UK:=(hr.lt fun k hk=>hk.1).c;have hc:=ok.cnt r.x;obtain⟨k1,k2⟩:=ok.kind;have MD:=ok.looks;by_cases e1:r.kind=1
 ·simp only[HS.take,e1,if_true]
  exact ar.hist H fun hi hh hH=>GS ρ UK hH hh e1 ok.txs i
 by_cases e5:r.kind=5
 ·have:S.take i r=S.preds i r r.es.length:=by simp[HS.take,e5]
  rw[this];exact LZ ρ hr H e5 Z ok.cnt i
 by_cases e2:r.kind=2
 ·have:S.take i r=S.look ⟨i,0,r.t,r.x,r.w,r.n,false,false⟩:=by simp[HS.take,e2]
  rw[this];exact ar.hist H fun hi hh hH=>Ld ρ UK hH hh e2 Z Z i
 obtain⟨k,a,q1,q2,q3,q4⟩:=ok.tx e1;have hk:((S.num r.t).getD 0).toNat=k:=by rw[q1];rfl
 by_cases DW:r.kind=3\/r.kind=4
 ·have:S.take i r=S.modify i r k:=by simp only[HS.take,if_neg e1,if_neg e2,if_pos DW,hk]
  rw[this];exact ar.hist H fun hi hh hH=>PJ ρ UK hH hh DW ok.mods q1 q2 q3 q4 i Z
 by_cases e6:r.kind=6
 ·have:S.take i r=S.endTx k ⟨r.t,a.b,i,1,(S.com.length:Int)⟩ (S.com++[r.t]):=by simp only[HS.take,if_neg e1,if_neg e2,if_neg DW,if_neg e5,if_pos e6,hk,q2]
  rw[this];exact ar.hist H fun hi hh hH=>E_ ρ UK hH hh e6 q1 q2 q3 ok.com i
 ·have:S.take i r=S.endTx k ⟨r.t,a.b,i,2,a.n⟩ S.com:=by simp only[HS.take,if_neg e1,if_neg e2,if_neg DW,if_neg e5,if_neg e6,hk,q2]
  rw[this];exact ar.hist H fun hi hh hH=>Gw ρ UK hH hh Z q1 q2 q3 i
end Go.Xs
namespace Go.Xs
open List Nat Option
variable{M:Hp}{S:HS}{h hi lo nx:Nat}
noncomputable section
open Go.Proofs
def By (S:HS):Prop:=∀t k,S.num t=some k->∃(j:Nat) (a:ku),k=(j:Int)/\S.txs[j]?=some a
def Ho (S:HS) (t:Int):Option ku:=match S.num t with | some k=>S.txs[k.toNat]? | none=>none
def tx0:ku:=⟨0,0,0,0,0⟩
def txR (S:HS) (t:Int):ku×Bool:=match Ho S t with | some a=>(a,true) | none=>(tx0,false)
theorem Tv (ρ:aK) (H:bX M lo hi h S) (hh:hi<=nx) (hn:By S) (t:Int) :
 ar am ρ 29 [.mp h 0,.int .u64 t] M nx (fe nx M (.tup [.agg (d_ (txR S t).1),.bool (txR S t).2])):=by
 obtain⟨tag,vrec,vtxs,vcom,vmods,vlook,nk,vk,ok,cn,cv,co,ptrs,lnum,lver,lobj,H⟩:=H;have hr:=H.row;have U0:=H.num;have jc:=H.numS t;have vg:=H.h_hi;have ZW:=H.nhi;refine ar.wk 29 [.cell 4 67,.tmp 5] Tryz.func29 ?_;cases hs:S.num t with
 | none =>
   rw[hs]at jc;refine lO PC hr U0 jc @fe.eq_1 ?_;exact⟨by simp[txR,Ho,hs,d_,tx0],O,Z⟩
 | some k =>
   obtain⟨j,a,rfl,JC⟩:=hn t k hs;rw[hs]at jc;obtain⟨v,hv,rk,mk,cm,lm,rfl,r1,r2,r3,r4,r5⟩:=H.known j a JC;simp only[d_,cons_append,nil_append]at r4;have yY:=(List.getElem?_eq_some_iff.1 JC).1;refine jz PC hr U0 jc ?_;generalize xu:ci M nx _=M1;have a1:aq nx M M1:=by rw[<-xu];exact O
   have z1:∃z,gG M1 nx=some (.row z):=by rw[<-xu];exact⟨_,J⟩
   have z2:gG M1 nx=some (.row [.int .u64 0,.int .i64 0,.int .i64 0,.int .i64 0,.int .i64 0]):=by rw[<-xu];exact J
   clear xu;refine lG (Ve ρ (H.agr (a1.le hh)) Z hs hv yY) fun M2 n2 g2 g3=>?_
   have y4:=(g2 rk Z).trans ((a1 rk Z).trans r4);have y2:=(g2 nx Z).trans z2;refine jz PC y4 y2 @fe.eq_1 ?_;exact⟨by simp[txR,Ho,hs,JC,d_],(by(repeat (refine aq.set ?_ Z _));exact a1.trans (g2.le Z)),Z⟩
theorem tZ:∀(es:List fS),(es.flatMap cO).all ax=true
 | []=>rfl
 | e::es=>by
   rw[flatMap_cons,all_append,tZ es];rfl
theorem SS (ρ:aK) (H:bX M lo hi h S) (hh:hi<=nx) (few:S.mods.length<=100000) :
 ar am ρ 28 [.mp h 0] M nx fun r=>dN r.2.1 (fun k=>nx<=k/\k<r.2.2) r.1 8 S.mods.length (S.mods.flatMap cO)/\aq nx M r.2.1/\nx<=r.2.2:=by
 obtain⟨tag,vrec,vtxs,vcom,vmods,vlook,nk,vk,ok,cn,cv,co,ptrs,lnum,lver,lobj,H⟩:=H;have hr:=H.row;have a9:=H.mods.sl;refine ar.wk 10 [.tmp 2] Tryz.func28 ?_;refine fM Pa hr ?_;refine gQ (TB ρ (a9.agr (aq.refl _ _)) Z few (tZ _)) ?_;rintro⟨u,M2,n2⟩ ⟨c1,c2,c3⟩;simp only at c1 c2 c3;rcases c3 with ⟨e1,e2⟩ | ⟨_,K,e1,e2,e3,e4⟩
 ·subst e2
  subst e1;refine dt Pa ?_;rcases a9.2 with ⟨_,g2,g3⟩ | ⟨_,_,_,_,g1,_⟩
  ·exact⟨⟨a9.1,.inl ⟨rfl,g2,g3⟩⟩,c1.le Z,Z⟩
  ·cases g1
 ·subst e1
  refine dt Pa ?_;have:=a9.row_len;exact⟨⟨a9.1,.inr ⟨K,0,S.mods.length,_,rfl,⟨Z,Z⟩,by unfold vR;rw[e4],Z,by rw[drop_zero,take_of_length_le Z]⟩⟩,c1.le Z,Z⟩
theorem As:∀(es:List fS) (i:Nat) (e:fS),es[i]?=some e->((es.flatMap cO).drop (i*8)).take 8=cO e
 | [],i,e,h=>by simp at h
 | a::es,0,e,h=>by
   simp only[getElem?_cons_zero,Option.some.injEq]at h;subst h;rfl
 | a::es,i+1,e,h=>by
   simp only[getElem?_cons_succ]at h;rw[flatMap_cons,show (i+1)*8=(cO a).length+i*8 by simp[cO];omega,drop_length_add_append];exact As es i e h
def VersOk (S:HS):Prop:=∀x w n k,S.ver x w n=some k->∃(j:Nat) (m:fS),k=(j:Int)/\S.mods[j]?=some m
def mod0:fS:=⟨0,0,0,0,0,0,false,false⟩
def modR (S:HS) (x w n:Int):fS×Bool:=match S.ver x w n with | some k=>(match S.mods[k.toNat]? with | some m=>(m,true) | none=>(mod0,false)) | none=>(mod0,false)
theorem Yt (ρ:aK) (H:bX M lo hi h S) (hh:hi<=nx) (hv:VersOk S) (few:S.mods.length<=100000) (x w n:Int) :
 ar am ρ 30 [.mp h 0,.int .u64 x,.agg [.int .u64 w,.int .u64 n]] M nx (fe nx M (.tup [.agg (cO (modR S x w n).1),.bool (modR S x w n).2])):=by
 obtain⟨tag,vrec,vtxs,vcom,vmods,vlook,nk,vk,ok,cn,cv,co,ptrs,lnum,lver,lobj,H⟩:=H;have hr:=H.row;have Q5:=H.ver;have jc:=H.verS x w n;have vg:=H.h_hi;have hvhi:=H.vhi;have US:=H.vrow;refine ar.wk 34 [.cell 6 71,.tmp 7] Tryz.func30 ?_;cases hs:S.ver x w n with
 | none =>
   rw[hs]at jc;refine ul gy55 hr Q5 jc US @fe.eq_1 ?_;exact⟨by simp[modR,hs,cO,mod0],O,Z⟩
 | some k =>
   obtain⟨j,a,rfl,JC⟩:=hv x w n k hs;rw[hs]at jc;have yY:=(List.getElem?_eq_some_iff.1 JC).1;obtain⟨q,o,Oc,bC,aU⟩:=H.mods.sl.elem (P:=am) yY (t:=64) (t':=71) qP.2.2.2.1 LG.1;have aU:=fun N hN=>aU N hN
   rw[As _ _ _ JC]at aU;simp only[cO]at aU;have QR:=aU (ci (ci M nx (.row [.int .u64 w,.int .u64 n])) (nx+1) (.row [.int .i64 0,.int .u64 0,.int .u64 0,.int .u64 0,.int .u64 0,.int .u64 0,.bool false,.bool false])) O;refine oq gy55 hr Q5 jc US bC QR @fe.eq_1 ?_;exact⟨by simp[modR,hs,JC,cO],O,Z⟩
end
end Go.Xs
namespace Go.Xs
open List Nat Option
noncomputable section
open Go.Proofs
theorem lU {α β:Type} {f:α->β}:∀{l:List α},(l.map f).Nodup->l.Nodup
 | [],_=>.nil
 | a::l,h=>by
   rw[map_cons,nodup_cons]at h;exact nodup_cons.2 ⟨fun hm=>h.1 (mem_map.2 ⟨a,hm,rfl⟩),lU h.2⟩
theorem o8 {α β:Type} {f:α->β}:∀{l:List α},(l.map f).Nodup->∀{a b:α},a ∈ l->b ∈ l->f a=f b->a=b
 | [],_,a,b,ha,_,_=>by cases ha
 | c::l,hn,a,b,ha,hb,h=>by
   rw[map_cons,nodup_cons]at hn;rcases mem_cons.1 ha with e1 | Jo <;> rcases mem_cons.1 hb with e2 | rA
   ·rw[e1,e2]
   ·exact(hn.1 (by rw[<-e1,h];exact mem_map.2 ⟨b,rA,rfl⟩)).elim
   ·exact(hn.1 (by rw[<-e2,<-h];exact mem_map.2 ⟨a,Jo,rfl⟩)).elim
   ·exact o8 hn.2 Jo rA h
theorem wt:∀{l l':List Nat},l.Nodup->(∀a ∈ l,a ∈ l')->l.length<=l'.length
 | [],_,_,_=>zero_le _
 | a::l,l',h,hs=>by
   rw[nodup_cons]at h;have ha:=hs a mem_cons_self;have ih:=wt (l:=l) (l':=l'.erase a) h.2 fun b hb=>(mem_erase_of_ne fun e=>h.1 (by rw[<-e];exact hb)).2 (hs b (mem_cons_of_mem _ hb))
   rw[length_erase_of_mem ha]at ih;have:=length_pos_of_mem ha;simp only[length_cons];omega
theorem zg {α:Type} {f:α->Nat} {seen:List Nat} {b:Nat}:∀(l:List α),(l.filter fun e=>decide (f e ∉ seen++[b])).length<=(l.filter fun e=>decide (f e ∉ seen)).length
 | []=>Nat.le_refl _
 | a::l=>by
   have ih:=zg (f:=f) (seen:=seen) (b:=b) l;rw[filter_cons,filter_cons];by_cases h:f a ∈ seen
   ·have h':f a ∈ seen++[b]:=mem_append_left _ h
    simp only[h,h',not_true_eq_false,decide_false];simpa using ih
   ·by_cases h':f a ∈ seen++[b]
    ·simp only[h,h',not_true_eq_false,not_false_eq_true,decide_false,decide_true,if_true,length_cons]
     simp only[Bool.false_eq_true,if_false];omega
    ·simp only[h,h',not_false_eq_true,decide_true,if_true,length_cons]
     omega
theorem t_ {α:Type} {f:α->Nat} {seen:List Nat}:∀{l:List α} {e:α},f e ∉ seen->e ∈ l->(l.filter fun a=>decide (f a ∉ seen++[f e])).length<(l.filter fun a=>decide (f a ∉ seen)).length
 | [],e,_,he=>by cases he
 | a::l,e,y7,he=>by
   rw[filter_cons,filter_cons];rcases mem_cons.1 he with rfl | he
   ·have h':f e ∈ seen++[f e]:=ae
    have:=zg (f:=f) (seen:=seen) (b:=f e) l;simp only[y7,h',not_true_eq_false,not_false_eq_true,decide_false,decide_true,if_true,length_cons];simp only[Bool.false_eq_true,if_false];omega
   ·have ih:=t_ (f:=f) y7 he
    by_cases h:f a ∈ seen
    ·have h':f a ∈ seen++[f e]:=mem_append_left _ h
     simp only[h,h',not_true_eq_false,decide_false];simpa using ih
    ·by_cases h':f a ∈ seen++[f e]
     ·simp only[h,h',not_true_eq_false,not_false_eq_true,decide_false,decide_true,if_true,length_cons]
      simp only[Bool.false_eq_true,if_false];omega
     ·simp only[h,h',not_false_eq_true,decide_true,if_true,length_cons]
      omega
theorem W8 (ρ:aK) (j9:ρ.det=false) {M:Hp} {nx box rm c:Nat} {l:List (Nat×Int×XV)} (sQ:gG M box=some (.row [.mm rm])) (RT:gG M rm=some (.map (cx vX l) c)) (hb:kD l c) (h1:box<nx) (h2:rm<nx) (few:l.length<=100000) :
 ar am ρ 106 [.nils,.fn (.func 79) [] [.mp box 0]] M nx fun r=>(∃ys:List Int,ys.Perm (l.map (·.2.1))/\bS r.2.1 nx r.2.2 (fun _=>()) () r.1 1 ys.length (ys.map (XV.int .u64)))/\aq nx M r.2.1/\nx<=r.2.2:=by
 refine ar.walkR (m:=13) (rs:=[.tmp 4]) follows j9 Tryz.func106 U rfl rfl rfl ?_
 conv in qD _ _ _ _ _ _ _=>arg 5;whnf
 refine po ?_;refine fM Hw @iX ?_;refine CY ?_;refine po ?_;refine fM Hw @iX ?_;refine Cm ?_;refine⟨79,[.mp box 0],fun M' nx'=>∃(ys:List Int) (v:XV),ys.Perm (l.map (·.2.1))/\gG M' nx=some (.row [v])/\bS M' (nx+1) nx' (fun _=>()) () v 1 ys.length (ys.map (XV.int .u64))/\aq nx M M'/\nx+4<=nx',?_,?_,?_⟩
 ·rfl
 ·generalize hY:xB am ρ 13 _ _ _ _=H
  refine OQ.walk follows (m:=14) Tryz.func79 U rfl rfl rfl ?_
  conv in qD _ _ _ _ _ _ _=>arg 5;whnf
  refine po ?_;refine oq qg @iX @s6 @pP @tf Cp.2.2.2.2 sQ RT ?_;refine Cm ?_;refine Hn (fun m s=>∃(es:List (Nat×Int×XV)) (st:Nat) (v:XV),m=(l.filter fun e=>decide (e.1 ∉ es.map (·.1))).length/\(es.map (·.1)).Nodup/\(∀e ∈ es,e ∈ l)/\gG s.env 0=some (.yd (nx+3))/\gG s.env 5=some (.mp (nx+5) 0)/\gG s.M (nx+5)=some (.iter (some rm) c (es.map (·.1)) st)/\c<=st /\
   gG s.M nx=some (.row [v])/\bS s.M (nx+6) s.nx (fun _=>()) () v 1 es.length (es.map fun e=>XV.int .u64 e.2.1)/\aq nx M s.M/\nx+6<=s.nx) _ ⟨[],c,.nils,rfl,?_⟩ ?_
  ·refine dt qg ?_
   exact⟨ae,ae,rfl,Nat.le_refl _,⟨Z,rfl,.inl ⟨rfl,rfl⟩⟩,O,Z⟩
  ·rintro m ⟨env,M',nx'⟩ ⟨es,st,v,hm,xo,oy,e0,e5,JV,bw,Vw,Bd,ha,hn⟩
   simp only at e0 e5 JV Vw Bd ha hn;have Z8:=(ha rm h2).trans RT;refine po ?_;refine jz qg @iX e5 @qv ?_;refine Cf j9 JV Z8 hb.lt bw (Nat.le_refl _) ?_ ?_
   ·intro dy
    have UF:(es.map (·.2.1)).Perm (l.map (·.2.1)):=by
     have:es.Perm l:=(perm_ext_iff_of_nodup (lU xo) (lU hb.nd)).2 fun e=>⟨oy e,fun he=>by
      obtain⟨e',u9,DY⟩:=mem_map.1 (dy e he);have:=o8 hb.nd (oy e' u9) he DY;rw[<-this];exact u9⟩
     exact this.map _
    clear dy;refine fM qg @iX ?_;refine po ?_;refine jz qg @Qc @LC @Tk ?_;refine⟨(fun id h=>by cases h),es.map (·.2.1),v,UF,Vw,?_,ha,Z⟩;obtain⟨o1,o2,o3⟩:=Bd;refine⟨by simpa using o1,ae,?_⟩;rcases o3 with ⟨q1,q2⟩ | ⟨q0,q,q1,q2,q3,q4,q5⟩
    ·exact .inl ⟨q1,by simpa using q2⟩
    ·exact .inr ⟨by simpa using q0,q,by simpa using q1,Z,Z,rfl,by rw[q5];simp⟩
   ·intro e he y7
    have Jx:i7 (ci M' (nx+5) (.iter (some rm) c (es.map (·.1)++[e.1]) c)) (.mp (nx+5) 0)=some ⟨.tup [.int .u64 e.2.1,e.2.2],[nx+5,rm],[]⟩:=rj (vf:=vX) (l:=l) J J hb.nd he;refine fM qg @iX ?_;refine po ?_;refine fM qg @iX ?_;refine Cm ?_;refine po ?_;refine ul qg @iX e0 e5 @yA Jx ?_;refine CY ?_;refine Pw (ob [_,_] _ ?_);refine fM qg e0 ?_;refine FD (args:=[.int .u64 e.2.1]) (by simp only[EU];(refine fM qg e0 ?_;try exact⟨⟩)) ?_;refine Eq.mp (congrFun (congrFun (congrFun (congrFun hY _) _) _) _) (EA rfl ?_);have ip:es.length<=100000:=by
     have u9:(es.map (·.1)).length<=(l.map (·.1)).length:=wt xo fun b rA=>by
      obtain⟨e',u9,rfl⟩:=mem_map.1 rA;exact mem_map.2 ⟨e',oy e' u9,rfl⟩
     simp only[length_map]at u9;omega
    have Uy:((es++[e]).map (·.1)).Nodup:=by
     rw[map_append,nodup_append];refine⟨xo,ae,fun a Jo b rA=>?_⟩;simp only[map_cons,map_nil,mem_singleton]at rA;subst rA;exact fun e1=>y7 (by rw[<-e1];exact Jo)
    have Of:∀a ∈ es++[e],a ∈ l:=fun a Jo=>by
     rcases mem_append.1 Jo with h | h
     ·exact oy a h
     ·rw[mem_singleton]at h;subst h;exact he
    have F3:(l.filter fun a=>decide (a.1 ∉ (es++[e]).map (·.1))).length<m:=by
     rw[hm,map_append];exact t_ y7 he
    have yQ:(es++[e]).map (·.1)=es.map (·.1)++[e.1]:=ae;have hq:∀q,nx'+8<=q->gG (ci M' (nx+5) (.iter (some rm) c (es.map (·.1)++[e.1]) c)) q=gG M' q:=fun q hq=>by rw[ao,if_neg Z]
    obtain⟨o1,o2,⟨rfl,o3⟩ | ⟨o3,K,rfl,K1,K2,_,K4⟩⟩:=Bd
    ·have QG:es=[]:=length_eq_zero_iff.1 o3
     clear xo oy y7 hm o1 o2 yQ hq;refine fM Hw Vw ?_;refine⟨_,rfl,ob [_] _ ?_⟩;refine fM qg @iX ?_;refine Iy ?_;refine jz qg @iX @Df @Nf ?_;refine⟨_,F3,es++[e],c,_,rfl,Uy,Of,e0,e5,by rw[map_append];rfl,Nat.le_refl _,rfl,⟨by simp[QG],ae,.inr ⟨ae,nx'+11,by simp[QG],Z,Z,rfl,?_⟩⟩,fun q hq=>?_,Z⟩
     ·rw[QG]
      exact J
     ·have:=ha q hq
      exact J
    ·have kB:List.take es.length (es.map fun e=>XV.int .u64 e.2.1)=es.map fun e=>XV.int .u64 e.2.1:=take_of_length_le ae
     have K5:aw (nx+5) K=False/\aw K (nx+5)=False/\aw nx K=False/\aw K nx=False:=by simp only[aw,eq_iff_iff,iff_false];omega
     clear xo oy y7 hm o2 yQ hq;refine lO Hw Vw K4 kB K5 ?_;refine⟨_,rfl,ob [_] _ ?_⟩;refine fM qg @iX ?_;refine Iy ?_;refine lO qg @iX @Df @Nf K5 ?_;refine⟨_,F3,es++[e],c,_,rfl,Uy,Of,e0,e5,by rw[map_append];rfl,Nat.le_refl _,rfl,⟨by simp only[length_append,length_cons,length_nil];omega,ae,.inr ⟨ae,nx'+11,ae,Z,Z,rfl,?_⟩⟩,fun q hq=>?_,Z⟩
     ·rw[map_append]
      exact J
     ·have:=ha q hq
      exact J
 ·rintro M' nx' ⟨ys,v,y1,y2,y3,y4,y5⟩
  show qD _ _ _ _ _ _ _;refine Iy ?_;refine fM Hw y2 ?_;refine⟨⟨ys,y1,?_⟩,y4,Z⟩;obtain⟨o1,o2,o3 | ⟨o3,K,q1,K1,K2,K3,K4⟩⟩:=y3
  ·exact⟨o1,o2,.inl o3⟩
  ·exact⟨o1,o2,.inr ⟨o3,K,q1,Z,Z,K3,K4⟩⟩
end
end Go.Xs
namespace Go.Xs
open List Nat Option
variable{M:Hp}{b g hi lo m nx:Nat}{caps cs:List XV}{l:List aR}{r:aR}{v:XV}
open Go.Proofs
theorem Tu (ρ:aK) (h:cZ M lo hi m l) (hh:hi<=nx) (x w n:Int):ar am ρ 201 [.mp m 0,.int .u64 x,.agg [.int .u64 w,.int .u64 n]] M nx (fe nx M (.bool (lV l x w n))):=by
 refine ar.wk 20 [.tmp 6] Tryz.func201 ?_;refine dt GV ?_;have a1:=fun o=>(aq.refl nx M).set (Nat.le_refl nx) o
 refine lG (Ry ρ _ _ w n) fun M2 n2 g2 g3=>?_
 have a2:=(a1 _).trans (g2.le Z);have y:=g2 nx Z;rw[ao,if_pos rfl]at y;cases hu:(decide (w=0)&&decide (n=0)) with
 | true =>
   refine gk GV hu @fe.eq_1 ?_;exact⟨by simp only[lV,hu,Bool.true_or],a2,Z⟩
 | false =>
   refine gk GV hu y ?_;refine lG (ST ρ (h.agr (a2.le hh) (Nat.le_refl _)) Z x w n) fun M3 n3 k2 k3=>?_
   have a3:=a2.trans (k2.le Z);cases hm:rV l x w n with
   | none =>
     refine jz GV @wy.eq_1 @wy.eq_2 @fe.eq_1 ?_;exact⟨by simp only[lV,hu,hm];rfl,((a3.set Z _).set Z _),Z⟩
   | some d =>
     refine lO GV @wy.eq_1 @wy.eq_2 @et.eq_1 @fe.eq_1 ?_;exact⟨by simp only[lV,hu,hm];rfl,((a3.set Z _).set Z _),Z⟩
def Fg (t:Int) (k:Nat):XV:=match k with | 0=>.tup [.agg [.int .u64 0,.int .u64 0],.bool false] | k+1=>.tup [.agg [.int .u64 t,.int .u64 ((k+1:Nat):Int)],.bool true]
theorem TF (ρ:aK) (h:cZ M lo hi m l) (hh:hi<=nx) (t x:Int):ar am ρ 202 [.mp m 0,.int .u64 t,.int .u64 x] M nx (fe nx M (Fg t (bd l t x).length)):=by
 obtain⟨v,a9,bA⟩:=Tm ρ h hh t x;have ay:=fun N=>a9.len (P:=am) (t:=303) rM.2.2.2.2.2 N
 have hz:=a9.1;have a1:=fun o=>(aq.refl nx M).set (Nat.le_refl nx) o
 refine ar.wk 26 [.cell 6 25,.tmp 7] Tryz.func202 ?_;refine dt OV ?_;refine gQ (bA _ _ (a1 _) Z) ?_;rintro⟨u,M2,n2⟩ ⟨g1,g2,g3⟩;simp only at g1 g2 g3;subst g1;have a2:=(a1 _).trans (g2.le Z);have y:=g2 nx Z;rw[ao,if_pos rfl]at y;have hw:IntKind.u64.wrap ((bd l t x).length:Int)=(bd l t x).length:=wrap_u64 Z Z;by_cases c0:((bd l t x).length:Int)=0
 ·refine lO OV y ay c0 @fe.eq_1 ?_
  exact⟨by rw[show (bd l t x).length=0 by omega];rfl,a2.set Z _,Z⟩
 ·refine ul OV y ay c0 hw @fe.eq_1 ?_
  refine⟨?_,a2.set Z _,Z⟩;obtain⟨k,hk⟩:∃k,(bd l t x).length=k+1:=⟨(bd l t x).length - 1,Z⟩;rw[hk];rfl
theorem WI (ρ:aK) (hr:b8 M b r cs) (h:cZ M lo hi m l) (hh:hi<=nx):ar am ρ 131 [.mp m 0,.agg cs] M nx (fe nx M (.bool (CT l r))):=by
 obtain⟨pk,pa,pb,pv,ve,rfl,⟨p1,p2⟩,⟨q1,q2⟩,_,_⟩:=hr.cells;have a1:=fun o=>(aq.refl nx M).set (Nat.le_refl nx) o
 refine ar.wk 16 [.tmp 4] Tryz.func131 ?_;by_cases c0:r.kind=2
 ·refine ul oU p1 p2 q1 q2 c0 ?_
  refine lG (Tu ρ (h.agr ((a1 _).le hh) (Nat.le_refl _)) Z r.x r.w r.n) fun M2 n2 g2 g3=>?_
  refine fM oU @fe.eq_1 ?_;exact⟨by simp[CT,c0],(a1 _).trans (g2.le Z),Z⟩
 ·refine ky oU p1 p2 q1 q2 c0 @fe.eq_1 ?_
  exact⟨by simp[CT,c0],a1 _,Z⟩
theorem Wo (ρ:aK) (hr:b8 M b r cs) (h:cZ M lo hi m l) (hh:hi<=nx):ar am ρ 132 [.mp m 0,.agg cs] M nx (fe nx M (.bool (FB l r))):=by
 obtain⟨pk,pa,pb,pv,ve,rfl,⟨p1,p2⟩,⟨q1,q2⟩,_,_⟩:=hr.cells;have a1:=fun o=>(aq.refl nx M).set (Nat.le_refl nx) o
 refine ar.wk 29 [.tmp 4] Tryz.func132 ?_;refine lO Hk p1 p2 q1 q2 ?_;refine lG (TF ρ (h.agr ((a1 _).le hh) (Nat.le_refl _)) Z r.t r.x) fun M2 n2 g2 g3=>?_
 have a2:=(a1 _).trans (g2.le Z);have y:=g2 nx Z;rw[ao,if_pos rfl]at y;cases hk:(bd l r.t r.x).length with
 | zero =>
   by_cases c0:r.kind=2
   ·refine ul Hk y @Fg.eq_1 @Fg.eq_2 c0 @fe.eq_1 ?_
    exact⟨by simp[FB,hk],(by(repeat (refine aq.set ?_ Z _));exact a2),Z⟩
   ·refine ul Hk y @Fg.eq_1 @Fg.eq_2 c0 @fe.eq_1 ?_
    exact⟨by simp[FB,hk],(by(repeat (refine aq.set ?_ Z _));exact a2),Z⟩
 | succ k =>
   by_cases c0:r.kind=2
   ·refine ul Hk y @Fg.eq_1 @Fg.eq_2 c0 @fe.eq_1 ?_
    exact⟨by simp[FB,hk,c0],(by(repeat (refine aq.set ?_ Z _));exact a2),Z⟩
   ·refine ul Hk y @Fg.eq_1 @Fg.eq_2 c0 @fe.eq_1 ?_
    exact⟨by simp[FB,hk,c0],(by(repeat (refine aq.set ?_ Z _));exact a2),Z⟩
theorem WH (ρ:aK) {l:List En} (a9:bE M b v 4 l.length (l.flatMap b9)) (hb:b<=nx) {first:List XV} (q:En->Bool)
 (hq:∀e ∈ l,∀(M':Hp) (nx':Nat),aq nx M M'->nx<=nx'->ar am ρ g (first++[.agg (b9 e)]++caps) M' nx' (fe nx' M' (.bool (q e)))) :
 ar am ρ 253 [v,.fn (.func g) first caps] M nx (fe nx M (.int .i64 (eN q l 0))):=by
 have ay:=fun N=>a9.len (P:=am) (t:=41) eo.2.2.2.2.2 N
 have hz:=a9.1;refine ar.wk 19 [.tmp 4] Tryz.func253 ?_;refine fM sH ay ?_;refine aC (fun m s=>∃i:Nat,i<=l.length/\m=l.length - i/\eN q (l.drop i) i=eN q l 0/\gG s.env 0=some v/\gG s.env 1=some (.fn (.func g) first caps)/\gG s.env 7=some (.int .i64 l.length)/\gG s.env 8=some (.int .i64 i)/\aq nx M s.M/\nx<=s.nx)
  l.length ⟨0,Z,Z,ae,?_⟩ ?_
 ·refine dt sH ?_
  exact⟨aq.refl _ _,Z⟩
 ·rintro m ⟨env,M',nx'⟩ ⟨i,hi,hm,pA,e0,e1,e7,e8,ha,hn⟩
  simp only at e0 e1 e7 e8 ha hn;by_cases aL:(i:Int)<l.length
  ·have aP:i<l.length:=Z
   obtain⟨e,gA⟩:∃e,l[i]?=some e:=⟨l[i],by simp[aP]⟩;obtain⟨n,o,jw,bC,aU⟩:=a9.elem (P:=am) aP (t:=41) (t':=120) eo.2.2.2.1 mz.1;have aU:=aU M' (ha.le hb);rw[iz l i e gA]at aU;have bV:=eF i;have bw:=lr (q:=q) gA;refine oq sH e0 e1 e7 e8 aL bC aU ?_;refine gQ (hq e (mem_of_getElem? gA) M' _ ha Z) ?_;rintro⟨v',M'',nx''⟩ ⟨h1,h2,h3⟩;simp only at h1 h2 h3;subst h1;cases yR:q e with
   | true =>
     refine ky sH e0 e1 e7 e8 yR @fe.eq_1 ?_;refine⟨?_,ha.trans (h2.le Z),Z⟩;rw[<-pA,bw,yR];rfl
   | false =>
     refine ky sH e0 e1 e7 e8 yR bV ?_;exact⟨l.length - (i+1),Z,i+1,Z,rfl,by rw[<-pA,bw,yR];rfl,rfl,ha.trans (h2.le Z),Z⟩
  ·have hd:l.drop i=[]:=drop_eq_nil_of_le Z
   refine ky sH e0 e1 e7 e8 aL @fe.eq_1 ?_;refine⟨?_,ha,Z⟩;rw[<-pA,hd];rfl
theorem PP (ρ:aK) {l:List En} (a9:bE M b v 4 l.length (l.flatMap b9)) (hb:b<=nx) {first:List XV} (q:En->Bool)
 (hq:∀e ∈ l,∀(M':Hp) (nx':Nat),aq nx M M'->nx<=nx'->ar am ρ g (first++[.agg (b9 e)]++caps) M' nx' (fe nx' M' (.bool (q e)))) :
 ar am ρ 203 [v,.fn (.func g) first caps] M nx (fe nx M (.bool (l.any q))):=by
 refine ar.wk 9 [.tmp 4] Tryz.func203 ?_;refine dt Pt ?_;refine lG (WH ρ a9 Z q fun e he M' nx' ha hn=>hq e he M' nx' (ha.le Z) Z) fun M2 n2 g2 g3=>?_
 have hi:=uK (q:=q) l 0;refine gk Pt hi @fe.eq_1 ?_;exact⟨g2.le Z,Z⟩
theorem Wl (ρ:aK) {l:List Int} (a9:bE M b v 1 l.length (l.map (XV.int .u64))) (hb:b<=nx) {first:List XV} (q:Int->Bool)
 (hq:∀e ∈ l,∀(M':Hp) (nx':Nat),aq nx M M'->nx<=nx'->ar am ρ g (first++[.int .u64 e]++caps) M' nx' (fe nx' M' (.bool (q e)))) :
 ar am ρ 254 [v,.fn (.func g) first caps] M nx (fe nx M (.int .i64 (eN q l 0))):=by
 have ay:=fun N=>a9.len (P:=am) (t:=44) fu.2.2.2.2.2 N
 have hz:=a9.1;refine ar.wk 19 [.tmp 4] Tryz.func254 ?_;refine fM eC ay ?_;refine aC (fun m s=>∃i:Nat,i<=l.length/\m=l.length - i/\eN q (l.drop i) i=eN q l 0/\gG s.env 0=some v/\gG s.env 1=some (.fn (.func g) first caps)/\gG s.env 7=some (.int .i64 l.length)/\gG s.env 8=some (.int .i64 i)/\aq nx M s.M/\nx<=s.nx)
  l.length ⟨0,Z,Z,ae,?_⟩ ?_
 ·refine dt eC ?_
  exact⟨aq.refl _ _,Z⟩
 ·rintro m ⟨env,M',nx'⟩ ⟨i,hi,hm,pA,e0,e1,e7,e8,ha,hn⟩
  simp only at e0 e1 e7 e8 ha hn;by_cases aL:(i:Int)<l.length
  ·have aP:i<l.length:=Z
   obtain⟨e,gA⟩:∃e,l[i]?=some e:=⟨l[i],by simp[aP]⟩;obtain⟨n,o,jw,bC,aU⟩:=a9.fldG (P:=am) aP (t:=44) fu.2.2.2.1;have aU:=aU 0 (.int .u64 e) Z (by simp[gA]) 23 1 bi.1 M' (ha.le hb);rw[Nat.add_zero]at aU;have bV:=eF i;have bw:=lr (q:=q) gA;refine oq eC e0 e1 e7 e8 aL bC aU ?_;refine gQ (hq e (mem_of_getElem? gA) M' _ ha Z) ?_;rintro⟨v',M'',nx''⟩ ⟨h1,h2,h3⟩;simp only at h1 h2 h3;subst h1;cases yR:q e with
   | true =>
     refine ky eC e0 e1 e7 e8 yR @fe.eq_1 ?_;refine⟨?_,ha.trans (h2.le Z),Z⟩;rw[<-pA,bw,yR];rfl
   | false =>
     refine ky eC e0 e1 e7 e8 yR bV ?_;exact⟨l.length - (i+1),Z,i+1,Z,rfl,by rw[<-pA,bw,yR];rfl,rfl,ha.trans (h2.le Z),Z⟩
  ·have hd:l.drop i=[]:=drop_eq_nil_of_le Z
   refine ky eC e0 e1 e7 e8 aL @fe.eq_1 ?_;refine⟨?_,ha,Z⟩;rw[<-pA,hd];rfl
theorem XU (ρ:aK) {l:List Int} (a9:bE M b v 1 l.length (l.map (XV.int .u64))) (hb:b<=nx) {first:List XV} (q:Int->Bool)
 (hq:∀e ∈ l,∀(M':Hp) (nx':Nat),aq nx M M'->nx<=nx'->ar am ρ g (first++[.int .u64 e]++caps) M' nx' (fe nx' M' (.bool (q e)))) :
 ar am ρ 205 [v,.fn (.func g) first caps] M nx (fe nx M (.bool (l.any q))):=by
 refine ar.wk 9 [.tmp 4] Tryz.func205 ?_;refine dt Pt ?_;refine lG (Wl ρ a9 Z q fun e he M' nx' ha hn=>hq e he M' nx' (ha.le Z) Z) fun M2 n2 g2 g3=>?_
 have hi:=uK (q:=q) l 0;refine gk Pt hi @fe.eq_1 ?_;exact⟨g2.le Z,Z⟩
end Go.Xs
namespace Go.Xs
open List Nat Option
variable{M:Hp}{b:Nat}
open Go.Proofs
mutual
def iW:Ex->Ex->Bool
 | .mk k a c ps,.mk k' a' c' ps'=>decide (k=k')&&(decide (a=a')&&(decide (c=c')&&fy ps ps'))
def fy:List Ex->List Ex->Bool
 | [],[]=>true
 | e::es,e'::es'=>iW e e'&&fy es es'
 | _,_=>false
end
theorem rQ:∀{l l':List Ex},fy l l'=true->l.length=l'.length
 | [],[],_=>rfl
 | [],_::_,h=>by simp[fy]at h
 | _::_,[],h=>by simp[fy]at h
 | a::l,c::l',h=>by simp only[fy,Bool.and_eq_true]at h;simp[rQ h.2]
theorem xN {l l':List Ex} {i:Nat} {a c:Ex} (h:l[i]?=some a) (h':l'[i]?=some c):fy (l.drop i) (l'.drop i)=(iW a c&&fy (l.drop (i+1)) (l'.drop (i+1))):=by
 obtain⟨h1,rfl⟩:=List.getElem?_eq_some_iff.1 h;obtain⟨h2,rfl⟩:=List.getElem?_eq_some_iff.1 h';rw[drop_eq_getElem_cons h1,drop_eq_getElem_cons h2];rfl
theorem bG.cells {e:Ex} {cs:List XV} (h:bG M b e cs):∃a1 a2 a3 a4,cs=[.int .i64 a1,.int .u64 a2,.int .u64 a3,a4]/\dY a4=[a4]/\ax a4=true:=by
 obtain⟨k',x',y',ps'⟩:=e;simp only[bG]at h;obtain⟨v',row',rfl,ox,_⟩:=h;exact⟨_,_,_,_,rfl,ox.cell⟩
theorem Ya (ρ:aK) {l l':List Ex} {nx:Nat} {v v':XV} {row row':List XV} (h:bE M b v 4 l.length row) (hp:cj M b l row) (h':bE M b v' 4 l'.length row') (uV:cj M b l' row') (hb:b<=nx)
 (hq:∀e ∈ l,∀e' (M':Hp) (nx':Nat) (cs cs':List XV),nx<=nx'->bG M' b e cs->bG M' b e' cs'->ar am ρ 293 [.agg cs,.agg cs'] M' nx' (fe nx' M' (.bool (iW e e')))) :
 ar am ρ 316 [v,v',.fn (.func 293) [] []] M nx (fe nx M (.bool (fy l l'))):=by
 have ay:=fun N=>h.len (P:=am) (t:=38) c_.2.2.2.2.2 N
 have A_:=fun N=>h'.len (P:=am) (t:=38) c_.2.2.2.2.2 N
 have hz:=h.1;refine ar.wk 32 [.tmp 6] Tryz.func316 ?_;by_cases hl:(l.length:Int)=l'.length
 ·refine jz Wp ay A_ hl ?_
  refine aC (fun m s=>∃i:Nat,i<=l.length/\m=l.length - i/\fy (l.drop i) (l'.drop i)=fy l l'/\gG s.env 1=some v'/\gG s.env 2=some (.fn (.func 293) [] [])/\gG s.env 15=some v/\gG s.env 16=some (.int .i64 l'.length)/\gG s.env 17=some (.int .i64 i)/\aq nx M s.M/\nx<=s.nx)
   l.length ⟨0,Z,Z,ae,?_⟩ ?_
  ·refine dt Wp ?_
   exact⟨aq.refl _ _,Z⟩
  ·rintro m ⟨env,M',nx'⟩ ⟨i,hi,hm,pA,e1,e2,gW,pE,CB,ha,hn⟩
   simp only at e1 e2 gW pE CB ha hn;by_cases aL:(i:Int)<l'.length
   ·have aP:i<l.length:=Z
    have F1:i<l'.length:=Z;obtain⟨a,Mt⟩:∃e,l[i]?=some e:=⟨l[i],by simp[aP]⟩;obtain⟨c,Gk⟩:∃e,l'[i]?=some e:=⟨l'[i],by simp[F1]⟩;obtain⟨n,o,jw,bC,aU⟩:=h.elem (P:=am) aP (t:=38) (t':=40) c_.2.2.2.1 eP.1;obtain⟨n2,o2,Ux,iN,dJ⟩:=h'.elem (P:=am) F1 (t:=38) (t':=40) c_.2.2.2.1 eP.1;have yK:=(hp.get Mt).agr (ha.le hb);have QI:=(uV.get Gk).agr (ha.le hb);generalize (row.drop (i*4)).take 4=r1 at aU yK;generalize (row'.drop (i*4)).take 4=r2 at dJ QI;have MC:∀N,aq nx M' N->b_ am N 40 (.mp n o)=some ⟨.agg r1,[n],[]⟩:=fun N hN=>aU N ((ha.trans hN).le hb)
    have Uu:∀N,aq nx M' N->b_ am N 40 (.mp n2 o2)=some ⟨.agg r2,[n2],[]⟩:=fun N hN=>dJ N ((ha.trans hN).le hb)
    obtain⟨a1,a2,a3,a4,rfl,p1,p2⟩:=yK.cells;obtain⟨c1,c2,c3,c4,rfl,q1,q2⟩:=QI.cells;have g1:=MC M' (aq.refl _ _);have g2:=fun o1 o2'=>Uu (ci (ci M' (nx'+4) o1) (nx'+4) o2') (((aq.refl _ _).set Z _).set Z _)
    have bV:=eF i;have bw:=xN Mt Gk;clear aU dJ MC Uu;refine zQ Wp e1 e2 gW pE CB aL bC iN g1 g2 ?_;generalize aW:ci (ci (ci (ci M' _ _) _ _) _ _) _ _=M2;have ag:aq nx' M' M2:=by rw[<-aW];exact((((aq.refl _ _).set Z _).set Z _).set Z _).set Z _
    clear aW g1 g2;refine gQ (hq a (mem_of_getElem? Mt) c M2 _ _ _ Z (yK.agr (ag.le Z)) (QI.agr (ag.le Z))) ?_;rintro⟨u,M3,n3⟩ ⟨g1,g2,g3⟩;simp only at g1 g2 g3;subst g1;have a3':aq nx M M3:=ha.trans ((ag.le Z).trans (g2.le Z));clear g2 ag hq;cases hs:iW a c with
    | false =>
      refine oq Wp e1 e2 gW pE CB hs @fe.eq_1 ?_;exact⟨by rw[<-pA,bw,hs];rfl,a3',Z⟩
    | true =>
      refine oq Wp e1 e2 gW pE CB hs bV ?_;exact⟨l.length - (i+1),Z,i+1,Z,rfl,by rw[<-pA,bw,hs];rfl,rfl,a3',Z⟩
   ·have hd:l.drop i=[]:=drop_eq_nil_of_le Z
    have py:l'.drop i=[]:=drop_eq_nil_of_le Z;refine oq Wp e1 e2 gW pE CB aL @fe.eq_1 ?_;exact⟨by rw[<-pA,hd,py];rfl,ha,Z⟩
 ·refine lO Wp ay A_ hl @fe.eq_1 ?_
  refine⟨?_,aq.refl _ _,Z⟩;congr 1;cases hq:fy l l' with
  | false=>rfl
  | true=>have:=rQ hq;omega
theorem Xe (ρ:aK):∀(sz:Nat) (e e':Ex) (M:Hp) (nx b:Nat) (cs cs':List XV),dV e<sz->bG M b e cs->bG M b e' cs'->b<=nx->ar am ρ 293 [.agg cs,.agg cs'] M nx (fe nx M (.bool (iW e e'))):=by
 intro sz
 induction sz with
 | zero=>intro e e' M nx b cs cs' h;omega
 | succ sz ih =>
 intro e e' M nx b cs cs' cJ he D1 hb;obtain⟨k,x,y,ps⟩:=e;obtain⟨k',x',y',ps'⟩:=e';simp only[bG]at he D1;obtain⟨v,row,rfl,a9,jd⟩:=he;obtain⟨v',row',rfl,ox,JH⟩:=D1;have hv:=a9.cell;have oP:=ox.cell;have go:∀(M1:Hp) (n1:Nat),nx<=n1->aq nx M M1->ar am ρ 316 [v,v',.fn (.func 293) [] []] M1 n1 (fe n1 M1 (.bool (fy ps ps'))):=fun M1 n1 hn hA =>
  Ya ρ (nx:=n1) (a9.agr (hA.le hb)) (jd.agr (hA.le hb)) (ox.agr (hA.le hb)) (JH.agr (hA.le hb)) Z fun e hm e' M' nx' cs cs' yZ h1 h2=>ih e e' M' nx' b cs cs' (by
   have:=fb hm;simp only[dV]at cJ;omega) h1 h2 Z
 clear ih cJ;refine ar.wk 31 [.tmp 4] Tryz.func293 ?_;by_cases c1:k=k'
 ·by_cases c2:x=x'
  ·by_cases c3:y=y'
   ·refine oq fT hv.1 hv.2 oP.1 oP.2 c1 c2 c3 ?_
    refine gQ (go _ _ Z (((aq.refl _ _).set Z _).set Z _)) ?_;rintro⟨u,M3,n3⟩ ⟨g1,g2,g3⟩;simp only at g1 g2 g3;subst g1;refine fM fT @fe.eq_1 ?_;exact⟨by simp[iW,c1,c2,c3],(((aq.refl _ _).set Z _).set Z _).trans (g2.le Z),Z⟩
   ·refine wT fT hv.1 hv.2 oP.1 oP.2 c1 c2 c3 @fe.eq_1 ?_
    exact⟨by simp[iW,c3],((aq.refl _ _).set Z _).set Z _,Z⟩
  ·refine oq fT hv.1 hv.2 oP.1 oP.2 c1 c2 @fe.eq_1 ?_
   exact⟨by simp[iW,c2],((aq.refl _ _).set Z _).set Z _,Z⟩
 ·refine ky fT hv.1 hv.2 oP.1 oP.2 c1 @fe.eq_1 ?_
  exact⟨by simp[iW,c1],((aq.refl _ _).set Z _).set Z _,Z⟩
end Go.Xs
namespace Go.Xs
open List Nat Option
open Go.Proofs
def oL (k t x w n v pk pa pb:Int) (pv ve:XV) (kind:Int):List XV :=
 if kind=2 then [.int .i64 0,.int .u64 0,.int .u64 x,.int .u64 w,.int .u64 n,.int .u64 0,.int .i64 0,.int .u64 0,.int .u64 0,.nils,.nils] else
 if kind=3 then [.int .i64 0,.int .u64 0,.int .u64 x,.int .u64 0,.int .u64 0,.int .u64 v,.int .i64 0,.int .u64 0,.int .u64 0,.nils,.nils] else
 if kind=4 then [.int .i64 0,.int .u64 0,.int .u64 x,.int .u64 0,.int .u64 0,.int .u64 0,.int .i64 0,.int .u64 0,.int .u64 0,.nils,.nils] else
 if kind=5 then [.int .i64 0,.int .u64 0,.int .u64 0,.int .u64 0,.int .u64 0,.int .u64 0,.int .i64 pk,.int .u64 pa,.int .u64 pb,pv,ve] else
 [.int .i64 0,.int .u64 0,.int .u64 0,.int .u64 0,.int .u64 0,.int .u64 0,.int .i64 0,.int .u64 0,.int .u64 0,.nils,.nils]
section
variable (ρ:aK) {M:Hp} {nx:Nat} (k t x w n v pk pa pb:Int) (pv ve:XV) (hp:dY pv=[pv]/\ax pv=true) (he:dY ve=[ve]/\ax ve=true)
include hp he
theorem P2:ar am ρ 113 [.agg [.int .i64 k,.int .u64 t,.int .u64 x,.int .u64 w,.int .u64 n,.int .u64 v,.int .i64 pk,.int .u64 pa,.int .u64 pb,pv,ve]] M nx (fe nx M (.agg (oL k t x w n v pk pa pb pv ve 1))):=by
 refine ar.wk 4 [.cell 2 43] Tryz.func113 ?_;refine ul oU hp.1 hp.2 he.1 he.2 @fe.eq_1 ?_;exact⟨by simp[oL],(((aq.refl _ _).set Z _).set Z _).set Z _,Z⟩
theorem Xx:ar am ρ 162 [.agg [.int .i64 k,.int .u64 t,.int .u64 x,.int .u64 w,.int .u64 n,.int .u64 v,.int .i64 pk,.int .u64 pa,.int .u64 pb,pv,ve]] M nx (fe nx M (.agg (oL k t x w n v pk pa pb pv ve 2))):=by
 refine ar.wk 8 [.cell 2 43] Tryz.func162 ?_;refine ul oU hp.1 hp.2 he.1 he.2 @fe.eq_1 ?_;exact⟨by simp[oL],(((aq.refl _ _).set Z _).set Z _).set Z _,Z⟩
theorem Xy:ar am ρ 172 [.agg [.int .i64 k,.int .u64 t,.int .u64 x,.int .u64 w,.int .u64 n,.int .u64 v,.int .i64 pk,.int .u64 pa,.int .u64 pb,pv,ve]] M nx (fe nx M (.agg (oL k t x w n v pk pa pb pv ve 3))):=by
 refine ar.wk 8 [.cell 2 43] Tryz.func172 ?_;refine ul oU hp.1 hp.2 he.1 he.2 @fe.eq_1 ?_;exact⟨by simp[oL],(((aq.refl _ _).set Z _).set Z _).set Z _,Z⟩
theorem X0:ar am ρ 177 [.agg [.int .i64 k,.int .u64 t,.int .u64 x,.int .u64 w,.int .u64 n,.int .u64 v,.int .i64 pk,.int .u64 pa,.int .u64 pb,pv,ve]] M nx (fe nx M (.agg (oL k t x w n v pk pa pb pv ve 4))):=by
 refine ar.wk 6 [.cell 2 43] Tryz.func177 ?_;refine ul oU hp.1 hp.2 he.1 he.2 @fe.eq_1 ?_;exact⟨by simp[oL],(((aq.refl _ _).set Z _).set Z _).set Z _,Z⟩
theorem W_:ar am ρ 182 [.agg [.int .i64 k,.int .u64 t,.int .u64 x,.int .u64 w,.int .u64 n,.int .u64 v,.int .i64 pk,.int .u64 pa,.int .u64 pb,pv,ve]] M nx (fe nx M (.agg (oL k t x w n v pk pa pb pv ve 5))):=by
 have p2:=hp.2;have q2:=he.2;have h1:(dY ve).length=1:=by rw[he.1];rfl
 have h2:(dY ve).all ax=true:=by rw[he.1];simp[he.2]
 refine ar.wk 8 [.cell 2 43] Tryz.func182 ?_;refine ul oU hp.1 hp.2 he.1 he.2 @fe.eq_1 ?_;exact⟨by simp[oL],(((aq.refl _ _).set Z _).set Z _).set Z _,Z⟩
end
def nJ (s:List Nat) (kind:Int):List XV :=
 if kind=2 then [.str s,.fn (.func 162) [] [],.fn (.func 163) [] [],.fn (.func 165) [] [],.fn (.func 168) [] [],.fn (.func 170) [] []] else
 if kind=3 then [.str s,.fn (.func 172) [] [],.fn (.func 173) [] [],.fn (.func 174) [] [],.fn (.func 175) [] [],.fn (.func 176) [] []] else
 if kind=4 then [.str s,.fn (.func 177) [] [],.fn (.func 178) [] [],.fn (.func 179) [] [],.fn (.func 180) [] [],.fn (.func 181) [] []] else
 if kind=5 then [.str s,.fn (.func 182) [] [],.fn (.func 183) [] [],.fn (.func 188) [] [],.fn (.func 191) [] [],.fn (.func 194) [] []] else
 [.str s,.fn (.func 113) [] [],.fn (.func 114) [] [],.fn (.func 115) [] [],.fn (.func 116) [] [],.fn (.func 117) [] []]
section
variable (ρ:aK) (M:Hp) (nx:Nat)
theorem Ov (s s0:List Nat) (tb:Nat) (hb:tb<nx) (hM:gG M tb=some (.row (nJ s0 1))):ar am ρ 118 [.str s,.mp tb 0] M nx (fe nx M (.agg (nJ s 1))):=by
 refine ar.wk 9 [.cell 3 204] Tryz.func118 ?_;refine jz Hv hM @nJ.eq_1 @fe.eq_1 ?_;exact⟨(((((aq.refl _ _).set Z _).set Z _).set Z _).set Z _).set Z _,Z⟩
theorem XO:ar am ρ 119 [] M nx fun r=>∃s,fe nx M (.agg (nJ s 2)) r:=by
 refine ar.wk 2 [.cell 0 204] Tryz.func119 ?_;refine gk Hv @nJ.eq_1 @fe.eq_1 ?_;exact⟨_,rfl,((aq.refl _ _).set Z _).set Z _,Z⟩
theorem XP:ar am ρ 120 [] M nx fun r=>∃s,fe nx M (.agg (nJ s 3)) r:=by
 refine ar.wk 2 [.cell 0 204] Tryz.func120 ?_;refine gk Hv @nJ.eq_1 @fe.eq_1 ?_;exact⟨_,rfl,((aq.refl _ _).set Z _).set Z _,Z⟩
theorem Yf:ar am ρ 121 [] M nx fun r=>∃s,fe nx M (.agg (nJ s 4)) r:=by
 refine ar.wk 2 [.cell 0 204] Tryz.func121 ?_;refine gk Hv @nJ.eq_1 @fe.eq_1 ?_;exact⟨_,rfl,((aq.refl _ _).set Z _).set Z _,Z⟩
theorem XW:ar am ρ 122 [] M nx fun r=>∃s,fe nx M (.agg (nJ s 5)) r:=by
 refine ar.wk 2 [.cell 0 204] Tryz.func122 ?_;refine gk Hv @nJ.eq_1 @fe.eq_1 ?_;exact⟨_,rfl,((aq.refl _ _).set Z _).set Z _,Z⟩
end
def knT (ws:Nat->List Nat) (z:List Nat):List XV:=[.str z,.nilf,.nilf,.nilf,.nilf,.nilf]++nJ (ws 1) 1++nJ (ws 2) 2++nJ (ws 3) 3++nJ (ws 4) 4++nJ (ws 5) 5++nJ (ws 6) 6++nJ (ws 7) 7
theorem PZ (s:List Nat):nJ s 1=[.str s,.fn (.func 113) [] [],.fn (.func 114) [] [],.fn (.func 115) [] [],.fn (.func 116) [] [],.fn (.func 117) [] []]:=rfl
theorem Pq (s:List Nat):nJ s 2=[.str s,.fn (.func 162) [] [],.fn (.func 163) [] [],.fn (.func 165) [] [],.fn (.func 168) [] [],.fn (.func 170) [] []]:=rfl
theorem Ot (s:List Nat):nJ s 3=[.str s,.fn (.func 172) [] [],.fn (.func 173) [] [],.fn (.func 174) [] [],.fn (.func 175) [] [],.fn (.func 176) [] []]:=rfl
theorem Ox (s:List Nat):nJ s 4=[.str s,.fn (.func 177) [] [],.fn (.func 178) [] [],.fn (.func 179) [] [],.fn (.func 180) [] [],.fn (.func 181) [] []]:=rfl
theorem OK (s:List Nat):nJ s 5=[.str s,.fn (.func 182) [] [],.fn (.func 183) [] [],.fn (.func 188) [] [],.fn (.func 191) [] [],.fn (.func 194) [] []]:=rfl
def kz:List XV:=[.str [],.nilf,.nilf,.nilf,.nilf,.nilf]
theorem f89 (ρ:aK) (M:Hp) (nx:Nat):ar am ρ 89 [] M nx fun r=>∃ws z,fe nx M (.agg (knT ws z)) r:=by
 refine ar.wk 16 [.cell 0 205] Tryz.func89 ?_;refine dt z_ ?_;generalize rz:ci (ci (ci M _ _) _ _) _ _=M0;obtain⟨zs,VY⟩:∃zs,zs=kz++kz++kz++kz++kz++kz++kz++kz:=⟨_,rfl⟩;have a0:aq nx M M0:=by rw[<-rz];exact(((aq.refl _ _).set Z _).set Z _).set Z _
 have t0:gG M0 (nx+2)=some (.row (nJ [] 1)):=by rw[<-rz,ao,if_pos rfl];rfl
 have z0:gG M0 nx=some (.row zs):=by rw[<-rz,ao,if_neg Z,ao,if_neg Z,ao,if_pos rfl,VY];rfl
 clear rz;refine lG (Ov ρ _ _ _ [] (nx+2) Z t0) fun M1 n1 g2 g3=>?_
 have a1:aq nx M M1:=a0.trans (g2.le Z);have t1:gG M1 (nx+2)=some (.row (nJ [] 1)):=by rw[g2 _ Z,t0]
 have z1:gG M1 nx=some (.row zs):=by rw[g2 _ Z,z0]
 clear g2 a0 t0 z0;refine dt z_ ?_;refine gQ (XO ρ _ _) ?_;rintro⟨v,M2,n2⟩ ⟨s2,g1,g2,g3⟩;simp only at g1 g2 g3;subst g1;have a2:aq nx M M2:=a1.trans (g2.le Z);have t2:gG M2 (nx+2)=some (.row (nJ [] 1)):=by rw[g2 _ Z,t1]
 have z2:gG M2 nx=some (.row zs):=by rw[g2 _ Z,z1]
 clear g2 a1 t1 z1;refine dt z_ ?_;refine gQ (XP ρ _ _) ?_;rintro⟨v,M3,n3⟩ ⟨s3,g1,g2,g3⟩;simp only at g1 g2 g3;subst g1;have a3:aq nx M M3:=a2.trans (g2.le Z);have t3:gG M3 (nx+2)=some (.row (nJ [] 1)):=by rw[g2 _ Z,t2]
 have z3:gG M3 nx=some (.row zs):=by rw[g2 _ Z,z2]
 clear g2 a2 t2 z2;refine dt z_ ?_;refine gQ (Yf ρ _ _) ?_;rintro⟨v,M4,n4⟩ ⟨s4,g1,g2,g3⟩;simp only at g1 g2 g3;subst g1;have a4:aq nx M M4:=a3.trans (g2.le Z);have t4:gG M4 (nx+2)=some (.row (nJ [] 1)):=by rw[g2 _ Z,t3]
 have z4:gG M4 nx=some (.row zs):=by rw[g2 _ Z,z3]
 clear g2 a3 t3 z3;refine dt z_ ?_;refine gQ (XW ρ _ _) ?_;rintro⟨v,M5,n5⟩ ⟨s5,g1,g2,g3⟩;simp only at g1 g2 g3;subst g1;have a5:aq nx M M5:=a4.trans (g2.le Z);have t5:gG M5 (nx+2)=some (.row (nJ [] 1)):=by rw[g2 _ Z,t4]
 have z5:gG M5 nx=some (.row zs):=by rw[g2 _ Z,z4]
 clear g2 a4 t4 z4;refine dt z_ ?_;refine lG (Ov ρ _ _ _ [] (nx+2) Z t5) fun M6 n6 g2 g3=>?_
 have a6:aq nx M M6:=a5.trans (g2.le Z);have t6:gG M6 (nx+2)=some (.row (nJ [] 1)):=by rw[g2 _ Z,t5]
 have z6:gG M6 nx=some (.row zs):=by rw[g2 _ Z,z5]
 clear g2 a5 t5 z5;refine dt z_ ?_;refine lG (Ov ρ _ _ _ [] (nx+2) Z t6) fun M7 n7 g2 g3=>?_
 have a7:aq nx M M7:=a6.trans (g2.le Z);have t7:gG M7 (nx+2)=some (.row (nJ [] 1)):=by rw[g2 _ Z,t6]
 have z7:gG M7 nx=some (.row zs):=by rw[g2 _ Z,z6]
 clear g2 a6 t6 z6;subst VY;refine oq z_ z7 @kz.eq_1 @PZ @Pq @Ot @Ox @OK ?_;refine⟨fun q=>if q=1 then [98,101,103,105,110] else if q=2 then s2 else if q=3 then s3 else if q=4 then s4 else if q=5 then s5 else if q=6 then [99,111,109,109,105,116] else [97,98,111,114,116],[],rfl,a7.set Z _,ak⟩
end Go.Xs
namespace Go.Xs
open List Nat Option
variable{M:Hp}{b hi i lo m nx:Nat}{cs:List XV}{l:List aR}{r:aR}
open Go.Proofs
theorem Yg (ρ:aK) (M:Hp) (nx:Nat) (k:Int) (h0:1<=k) (h1:k<=7):ar am ρ 249 [.int .i64 k] M nx fun r=>∃s,fe nx M (.tup [.agg (nJ s k),.bool true]) r:=by
 refine ar.wk 14 [.cell 2 204,.tmp 3] Tryz.func249 ?_;have c1:¬ k<1:=Z;have c2:¬ 7<k:=Z;refine gk Lj c1 c2 ?_;refine gQ (f89 ρ _ _) ?_;rintro⟨v,M',nx'⟩ ⟨ws,z,g1,g2,g3⟩;simp only at g1 g2 g3;subst g1;obtain⟨j,rfl,j1,j2⟩:∃j:Nat,k=j/\1<=j/\j<=7:=⟨k.toNat,Z,Z,Z⟩;have UA:Ru (some (6,true)) ((knT ws z).drop ((j:Int).toNat*6))=some (.agg (nJ (ws j) j)):=by
  have:j=1\/j=2\/j=3\/j=4\/j=5\/j=6\/j=7:=Z;rcases this with rfl | rfl | rfl | rfl | rfl | rfl | rfl<;>rfl
 have hM:gG M' nx=some (.row [.str [],.nilf,.nilf,.nilf,.nilf,.nilf]):=by rw[g2 nx Z,ao,if_pos rfl]
 have ha:aq nx M M':=((aq.refl nx M).set (Nat.le_refl _) _).trans (g2.le Z);clear g2;generalize hs:ws j=s at UA;have e1:∃a b c d e,nJ s j=[.str s,.fn (.func a) [] [],.fn (.func b) [] [],.fn (.func c) [] [],.fn (.func d) [] [],.fn (.func e) [] []]:=by
  have:j=1\/j=2\/j=3\/j=4\/j=5\/j=6\/j=7:=Z;rcases this with rfl | rfl | rfl | rfl | rfl | rfl | rfl<;>exact⟨_,_,_,_,_,rfl⟩
 obtain⟨a,b,c,d,e,e1⟩:=e1;rw[e1]at UA;refine gk Lj UA hM ?_;exact⟨s,by rw[e1],ha.set Z _,ak⟩
theorem Tp (ρ:aK) (M:Hp) (nx:Nat) (k:Int) (h:¬ (1<=k/\k<=7)):ar am ρ 249 [.int .i64 k] M nx (fe nx M (.tup [.agg [.str [],.nilf,.nilf,.nilf,.nilf,.nilf],.bool false])):=by
 refine ar.wk 14 [.cell 2 204,.tmp 3] Tryz.func249 ?_;by_cases c1:k<1
 ·refine gk Lj c1 @fe.eq_1 ?_
  exact⟨((aq.refl _ _).set Z _).set Z _,Z⟩
 ·have c2:7<k:=Z
  refine jz Lj c1 c2 @fe.eq_1 ?_;exact⟨((aq.refl _ _).set Z _).set Z _,Z⟩
def gR (r s:aR):Bool :=
 decide (r.kind=s.kind)&&(decide (r.t=s.t)&&(decide (r.x=s.x)&&((decide (r.w=s.w)&&decide (r.n=s.n))&&(decide (r.v=s.v)&&(iW r.p s.p&&lu r.es s.es)))))
theorem SD (ρ:aK) {r':aR} {cs':List XV} (hr:b8 M b r cs) (sA:b8 M b r' cs') (hb:b<=nx):ar am ρ 250 [.agg cs,.agg cs'] M nx (fe nx M (.bool (gR r r'))):=by
 obtain⟨pk,pa,pb,pv,ve,rfl,⟨p1,p2⟩,⟨q1,q2⟩,dZ,yK⟩:=hr.cells;obtain⟨pk',pa',pb',pv',ve',rfl,⟨MR,MS⟩,⟨MT,MU⟩,Mw,Zk⟩:=sA.cells;clear hr sA;have fin:∀{c:Bool},gR r r'=c->∀(M1:Hp) (n1:Nat),aq nx M M1->nx<=n1->fe nx M (.bool (gR r r')) (.bool c,M1,n1):=fun h M1 n1 h1 h2=>by rw[h];exact .mk h1 h2
 refine ar.wk 52 [.tmp 4] Tryz.func250 ?_;by_cases c1:r.kind=r'.kind
 case neg =>
  refine rf oU p1 p2 q1 q2 MR MS MT MU c1 ?_;exact fin (by simp[gR,c1]) _ _ (((aq.refl _ _).set Z _).set Z _) Z
 by_cases c2:r.t=r'.t
 case neg =>
  refine zQ oU p1 p2 q1 q2 MR MS MT MU c1 c2 ?_;exact fin (by simp[gR,c2]) _ _ (((aq.refl _ _).set Z _).set Z _) Z
 by_cases c3:r.x=r'.x
 case neg =>
  refine yq oU p1 p2 q1 q2 MR MS MT MU c1 c2 c3 ?_;exact fin (by simp[gR,c3]) _ _ (((aq.refl _ _).set Z _).set Z _) Z
 cases c4:(decide (r.w=r'.w)&&decide (r.n=r'.n)) with
 | false =>
   refine yq oU p1 p2 q1 q2 MR MS MT MU c1 c2 (aI c3 c4) ?_;exact fin (by simp only[gR,c4];simp) _ _ (((aq.refl _ _).set Z _).set Z _) Z
 | true =>
   by_cases c5:r.v=r'.v
   case neg =>
    refine yq oU p1 p2 q1 q2 MR MS MT MU c1 c2 (aI c3 (aI c4 c5)) ?_;exact fin (by simp[gR,c5]) _ _ (((aq.refl _ _).set Z _).set Z _) Z
   have dy:gR r r'=(iW r.p r'.p&&lu r.es r'.es):=by simp only[gR,c1,c2,c3,c4,c5,decide_true,Bool.true_and]
   refine yq oU p1 p2 q1 q2 MR MS MT MU c1 c2 (aI c3 (aI c4 c5)) ?_;generalize xu:ci (ci M _ _) _ _=M1;have a1:aq nx M M1:=by rw[<-xu];exact((aq.refl _ _).set Z _).set Z _
   have z1:gG M1 nx=some (.row [.int .i64 r'.kind,.int .u64 r'.t,.int .u64 r'.x,.int .u64 r.w,.int .u64 r.n,.int .u64 r'.v,.int .i64 pk,.int .u64 pa,.int .u64 pb,pv,ve]):=by
    rw[<-xu,ao,if_neg Z,ao,if_pos rfl]
   have z2:gG M1 (nx+1)=some (.row [.int .i64 r'.kind,.int .u64 r'.t,.int .u64 r'.x,.int .u64 r'.w,.int .u64 r'.n,.int .u64 r'.v,.int .i64 pk',.int .u64 pa',.int .u64 pb',pv',ve']):=by
    rw[<-xu,ao,if_pos rfl]
   clear xu;refine lG (Xe ρ _ _ _ _ _ b _ _ (lt_succ_self _) (yK.agr (a1.le hb)) (Zk.agr (a1.le hb)) Z) fun M2 n2 g2 g3=>?_
   have a2:aq nx M M2:=a1.trans (g2.le Z);have y1:=(g2 nx Z).trans z1;have y2:=(g2 (nx+1) Z).trans z2;clear g2 z1 z2 a1;cases h5:iW r.p r'.p with
   | false =>
     refine fM oU h5 ?_;exact fin (by rw[dy,h5];rfl) _ _ a2 Z
   | true =>
     refine jz oU h5 y1 y2 ?_;refine lG (X8 ρ (bE.agr dZ (a2.le hb)) (bE.agr Mw (a2.le hb)) Z) fun M3 n3 g2 g3=>?_
     refine dt oU ?_;exact fin (by rw[dy,h5];rfl) _ _ (a2.trans (g2.le Z)) Z
def Rz:Ex:=.mk 0 0 0 []
def Nh (r:aR):aR :=
 if r.kind=2 then ⟨r.kind,r.t,r.x,r.w,r.n,0,Rz,[]⟩ else if r.kind=3 then ⟨r.kind,r.t,r.x,0,0,r.v,Rz,[]⟩ else if r.kind=4 then ⟨r.kind,r.t,r.x,0,0,0,Rz,[]⟩ else
 if r.kind=5 then ⟨r.kind,r.t,0,0,0,0,r.p,r.es⟩ else ⟨r.kind,r.t,0,0,0,0,Rz,[]⟩
def fL (r:aR):Bool:=decide (1<=r.kind)&&(decide (r.kind<=7)&&(!(decide (r.kind=5) && !(yw r.p))&&gR r (Nh r)))
theorem Gc (M:Hp) (b:Nat):bG M b Rz [.int .i64 0,.int .u64 0,.int .u64 0,.nils]/\jm M b .nils []:=by
 refine⟨?_,?_⟩
 ·simp only[Rz,bG]
  exact⟨.nils,[],rfl,⟨ae,.inl ⟨rfl,rfl,rfl⟩⟩,by simp only[cj]⟩
 ·exact⟨ae,.inl ⟨rfl,rfl,rfl⟩⟩
theorem GI (ρ:aK) (r:aR) (s:List Nat) (pk pa pb:Int) (pv ve:XV) (hp:dY pv=[pv]/\ax pv=true) (he:dY ve=[ve]/\ax ve=true) (h1:1<=r.kind) (h7:r.kind<=7) :
 ∃(g g2 g3 g4 g5:Nat) (lx lw ln lv lpk lpa lpb:Int) (lpv lve:XV),nJ s r.kind=[.str s,.fn (.func g) [] [],.fn (.func g2) [] [],.fn (.func g3) [] [],.fn (.func g4) [] [],.fn (.func g5) [] []] /\
  (∀(M':Hp) (nx':Nat),ar am ρ g [.agg [.int .i64 r.kind,.int .u64 r.t,.int .u64 r.x,.int .u64 r.w,.int .u64 r.n,.int .u64 r.v,.int .i64 pk,.int .u64 pa,.int .u64 pb,pv,ve]] M' nx'
   (fe nx' M' (.agg [.int .i64 0,.int .u64 0,.int .u64 lx,.int .u64 lw,.int .u64 ln,.int .u64 lv,.int .i64 lpk,.int .u64 lpa,.int .u64 lpb,lpv,lve]))) /\
  (dY lpv=[lpv]/\ax lpv=true)/\(dY lve=[lve]/\ax lve=true) /\
  ∀(M':Hp) (b':Nat),bG M' b' r.p [.int .i64 pk,.int .u64 pa,.int .u64 pb,pv]->jm M' b' ve r.es->b8 M' b' (Nh r) [.int .i64 r.kind,.int .u64 r.t,.int .u64 lx,.int .u64 lw,.int .u64 ln,.int .u64 lv,.int .i64 lpk,.int .u64 lpa,.int .u64 lpb,lpv,lve]:=by
 obtain⟨kind,t,x,w,n,v,p,es⟩:=r;simp only at h1 h7 ⊢;have hn:dY XV.nils=[.nils]/\ax .nils=true:=⟨rfl,rfl⟩;have:kind=1\/kind=2\/kind=3\/kind=4\/kind=5\/kind=6\/kind=7:=Z;rcases this with rfl | rfl | rfl | rfl | rfl | rfl | rfl
 ·exact⟨_,_,_,_,_,_,_,_,_,_,_,_,_,_,rfl,fun M' nx'=>P2 ρ 1 t x w n v pk pa pb pv ve hp he,hn,hn,fun M' b' _ _=>⟨_,_,rfl,(Gc M' b').1,(Gc M' b').2⟩⟩
 ·exact⟨_,_,_,_,_,_,_,_,_,_,_,_,_,_,rfl,fun M' nx'=>Xx ρ 2 t x w n v pk pa pb pv ve hp he,hn,hn,fun M' b' _ _=>⟨_,_,rfl,(Gc M' b').1,(Gc M' b').2⟩⟩
 ·exact⟨_,_,_,_,_,_,_,_,_,_,_,_,_,_,rfl,fun M' nx'=>Xy ρ 3 t x w n v pk pa pb pv ve hp he,hn,hn,fun M' b' _ _=>⟨_,_,rfl,(Gc M' b').1,(Gc M' b').2⟩⟩
 ·exact⟨_,_,_,_,_,_,_,_,_,_,_,_,_,_,rfl,fun M' nx'=>X0 ρ 4 t x w n v pk pa pb pv ve hp he,hn,hn,fun M' b' _ _=>⟨_,_,rfl,(Gc M' b').1,(Gc M' b').2⟩⟩
 ·exact⟨_,_,_,_,_,_,_,_,_,_,_,_,_,_,rfl,fun M' nx'=>W_ ρ 5 t x w n v pk pa pb pv ve hp he,hp,he,fun M' b' h h'=>⟨_,_,rfl,h,h'⟩⟩
 ·exact⟨_,_,_,_,_,_,_,_,_,_,_,_,_,_,rfl,fun M' nx'=>P2 ρ 6 t x w n v pk pa pb pv ve hp he,hn,hn,fun M' b' _ _=>⟨_,_,rfl,(Gc M' b').1,(Gc M' b').2⟩⟩
 ·exact⟨_,_,_,_,_,_,_,_,_,_,_,_,_,_,rfl,fun M' nx'=>P2 ρ 7 t x w n v pk pa pb pv ve hp he,hn,hn,fun M' b' _ _=>⟨_,_,rfl,(Gc M' b').1,(Gc M' b').2⟩⟩
theorem XH (ρ:aK) (hr:b8 M b r cs) (hb:b<=nx) (hc:dV r.p<=1000):ar am ρ 200 [.agg cs] M nx (fe nx M (.bool (fL r))):=by
 obtain⟨pk,pa,pb,pv,ve,rfl,⟨p1,p2⟩,⟨q1,q2⟩,dZ,yK⟩:=hr.cells;have fin:∀{c:Bool},fL r=c->∀(M1:Hp) (n1:Nat),aq nx M M1->nx<=n1->fe nx M (.bool (fL r)) (.bool c,M1,n1):=fun h M1 n1 h1 h2=>by rw[h];exact .mk h1 h2
 refine ar.wk 38 [.tmp 2] Tryz.func200 ?_;by_cases hk:1<=r.kind/\r.kind<=7
 case neg =>
  refine lO tz p1 p2 q1 q2 ?_;refine lG (Tp ρ _ _ _ hk) fun M2 n2 g2 g3=>?_
  refine dt tz ?_;refine fin ?_ _ _ (((((aq.refl _ _).set Z _).trans (g2.le Z)).set Z _).set Z _) Z;by_cases h1:1<=r.kind
  ·have:¬ r.kind<=7:=Z
   simp[fL,this]
  ·simp[fL,h1]
 obtain⟨Bi,VE⟩:=hk;refine lO tz p1 p2 q1 q2 ?_;generalize xu:ci M nx _=M1;have a1:aq nx M M1:=by rw[<-xu];exact(aq.refl _ _).set Z _
 have z1:gG M1 nx=some (.row [.int .i64 r.kind,.int .u64 r.t,.int .u64 r.x,.int .u64 r.w,.int .u64 r.n,.int .u64 r.v,.int .i64 pk,.int .u64 pa,.int .u64 pb,pv,ve]):=by rw[<-xu,ao,if_pos rfl]
 clear xu;refine gQ (Yg ρ _ _ _ Bi VE) ?_;rintro⟨u,M2,n2⟩ ⟨s,g1,g2,g3⟩;simp only at g1 g2 g3;subst g1;have a2:aq nx M M2:=a1.trans (g2.le Z);have z2:=(g2 nx Z).trans z1;clear g2 z1 a1;obtain⟨g,g2,RI,g4,g5,lx,lw,ln,lv,lpk,lpa,lpb,lpv,lve,QP,hg,⟨l1,l2⟩,⟨m1,m2⟩,NV⟩:=GI ρ r s pk pa pb pv ve ⟨p1,p2⟩ ⟨q1,q2⟩ Bi VE;rw[QP];have z3:∀(o o':bx),gG (ci (ci M2 (n2+3) o) (n2+3) o') nx=gG M2 nx:=fun o o'=>by rw[ao,if_neg Z,ao,if_neg Z]
 have a3:∀(o o':bx),aq nx M (ci (ci M2 (n2+3) o) (n2+3) o'):=fun o o'=>(a2.set Z _).set Z _
 by_cases h5:r.kind=5
 ·refine gk tz z2 (eq_true h5) ?_
  refine lG (Tf ρ (yK.agr ((a3 _ _).le hb)) Z hc) fun M3 n3 e2 e3=>?_
  have x1:=(e2 nx Z).trans ((z3 _ _).trans z2);have x3:gG M3 (n2+3)=some (.row [.str s,.fn (.func g) [] [],.fn (.func g2) [] [],.fn (.func RI) [] [],.fn (.func g4) [] [],.fn (.func g5) [] []]):=(e2 (n2+3) Z).trans (by rw[ao,if_pos rfl]);have b3:aq nx M M3:=(a3 _ _).trans (e2.le Z);clear e2;cases hx:yw r.p with
  | false =>
    refine fM tz hx ?_;exact fin (by simp[fL,h5,hx]) _ _ b3 Z
  | true =>
    refine jz tz hx x1 x3 ?_;refine gQ (hg _ _) ?_;rintro⟨u,M4,n4⟩ ⟨g1,e2,e3⟩;simp only at g1 e2 e3;subst g1;have y1:=(e2 nx Z).trans x1;have a4:aq nx M M4:=b3.trans (e2.le Z);clear e2;refine ul tz y1 l1 l2 m1 m2 ?_;refine⟨bn _ _ _ _ _ _ (by simp<;>omega) (by simp<;>omega) (by simp<;>omega),?_⟩;generalize mR:ci (ci (ci (ci M4 _ _) _ _) _ _) _ _=M5;have a5:aq nx M M5:=by rw[<-mR];exact(((a4.set Z _).set Z _).set Z _).set Z _
    clear mR y1 a4;refine lG (SD ρ (hr.agr (a5.le hb)) (NV M5 b (yK.agr (a5.le hb)) (bE.agr dZ (a5.le hb))) Z) fun M6 n6 e2 e3=>?_
    refine dt tz ?_;exact fin (by simp[fL,Bi,VE,h5,hx]) _ _ (a5.trans (e2.le Z)) Z
 ·refine gk tz z2 h5 ?_
  refine gQ (hg _ _) ?_;rintro⟨u,M4,n4⟩ ⟨g1,e2,e3⟩;simp only at g1 e2 e3;subst g1;have y1:=(e2 nx Z).trans ((z3 _ _).trans z2);have a4:aq nx M M4:=(a3 _ _).trans (e2.le Z);clear e2;refine ul tz y1 l1 l2 m1 m2 ?_;refine⟨bn _ _ _ _ _ _ (by simp<;>omega) (by simp<;>omega) (by simp<;>omega),?_⟩;generalize mR:ci (ci (ci (ci M4 _ _) _ _) _ _) _ _=M5;have a5:aq nx M M5:=by rw[<-mR];exact(((a4.set Z _).set Z _).set Z _).set Z _
  clear mR y1 a4;refine lG (SD ρ (hr.agr (a5.le hb)) (NV M5 b (yK.agr (a5.le hb)) (bE.agr dZ (a5.le hb))) Z) fun M6 n6 e2 e3=>?_
  refine dt tz ?_;exact fin (by simp[fL,Bi,VE,h5]) _ _ (a5.trans (e2.le Z)) Z
theorem Wz (ρ:aK) {m:XV} (hr:b8 M b r cs) (hb:b<=nx) (hc:dV r.p<=1000):ar am ρ 126 [m,.agg cs] M nx (fe nx M (.bool (fL r))):=by
 obtain⟨pk,pa,pb,pv,ve,rfl,⟨p1,p2⟩,⟨q1,q2⟩,_,_⟩:=hr.cells;refine ar.wk 7 [.tmp 4] Tryz.func126 ?_;refine lO oU p1 p2 q1 q2 ?_;have a1:=fun o=>(aq.refl nx M).set (Nat.le_refl nx) o
 refine lG (XH ρ (hr.agr ((a1 _).le hb)) Z hc) fun M2 n2 g2 g3=>?_
 refine fM oU @fe.eq_1 ?_;exact⟨(a1 _).trans (g2.le Z),Z⟩
theorem bE.fld {P:Program} {v:XV} {sz len:Nat} {row:List XV} (h:bE M b v sz len row) (hi:i<len) {t:Nat} (ht:es P t=some sz) :
 ∃n o,n<b/\(∀k,br P t v (.int k (i:Int))=some (.mp n o))/\∀(j:Nat) (x:XV),j<sz->((row.drop (i*sz)).take sz)[j]?=some x->∀(t' m:Nat),sa P t'=some (m,false)->∀N,aq b M N->b_ P N t' (.mp n (o+j))=some ⟨x,[n],[]⟩:=by
 obtain⟨n,o,h1,h2,cs,h3,h4,h5⟩:=h.at hi ht;refine⟨n,o,h1,h2,fun j x hj hx t' m oe N hN=>?_⟩;refine dB (lR h3 hN h1) oe ?_;rw[h4,getElem?_take,if_pos hj,getElem?_drop]at hx;exact hx
def tQ:List En->Bool
 | a::c::l=>decide (a.x<c.x)&&tQ (c::l)
 | _=>true
theorem EG {l:List En} {a c:En} (h:l[i]?=some a) (h':l[i+1]?=some c):tQ (l.drop i)=(decide (a.x<c.x)&&tQ (l.drop (i+1))):=by
 obtain⟨h1,rfl⟩:=List.getElem?_eq_some_iff.1 h;obtain⟨h2,rfl⟩:=List.getElem?_eq_some_iff.1 h';rw[drop_eq_getElem_cons h1,drop_eq_getElem_cons h2];rfl
theorem X2 (ρ:aK) {m:XV} (hr:b8 M b r cs) (hb:b<=nx):ar am ρ 133 [m,.agg cs] M nx (fe nx M (.bool (tQ r.es))):=by
 obtain⟨pk,pa,pb,pv,ve,rfl,⟨p1,p2⟩,⟨q1,q2⟩,dZ,_⟩:=hr.cells;clear hr;unfold jm at dZ;have ay:=fun N=>dZ.len (P:=am) (t:=41) eo.2.2.2.2.2 N
 have hz:=dZ.1;refine ar.wk 27 [.tmp 4] Tryz.func133 ?_;refine lO vG p1 p2 q1 q2 ?_;refine aC (fun m s=>∃i:Nat,m=r.es.length - i/\(i<r.es.length\/i=0)/\tQ (r.es.drop i)=tQ r.es/\gG s.env 3=some (.mp nx 0)/\gG s.env 5=some (.int .i64 ((i+1:Nat):Int)) /\
  gG s.M nx=some (.row [.int .i64 r.kind,.int .u64 r.t,.int .u64 r.x,.int .u64 r.w,.int .u64 r.n,.int .u64 r.v,.int .i64 pk,.int .u64 pa,.int .u64 pb,pv,ve])/\aq nx M s.M/\nx<=s.nx)
  r.es.length ⟨0,Z,Z,ae,?_⟩ ?_
 ·refine dt vG ?_
  exact⟨(aq.refl _ _).set Z _,Z⟩
 ·rintro m ⟨env,M',nx'⟩ ⟨i,hm,hi,pA,e3,e5,hM,ha,hn⟩
  simp only at e3 e5 hM ha hn;by_cases aL:((i+1:Nat):Int)<r.es.length
  ·have h1:i<r.es.length:=Z
   have h2:i+1<r.es.length:=Z;obtain⟨a,Mt⟩:∃e,r.es[i]?=some e:=⟨r.es[i],by simp[h1]⟩;obtain⟨c,Gk⟩:∃e,r.es[i+1]?=some e:=⟨r.es[i+1],by simp[h2]⟩;obtain⟨n,o,jw,bC,aU⟩:=dZ.fld (P:=am) h1 (t:=41) eo.2.2.2.1;obtain⟨n2,o2,Ux,iN,dJ⟩:=dZ.fld (P:=am) h2 (t:=41) eo.2.2.2.1;have g1:=aU 0 (.int .u64 a.x) Z (by rw[iz _ i a Mt];rfl) 23 1 bi.1 M' (ha.le hb);have g2:=dJ 0 (.int .u64 c.x) Z (by rw[iz _ (i+1) c Gk];rfl) 23 1 bi.1 M' (ha.le hb);rw[Nat.add_zero]at g1 g2;have qC:IntKind.i64.wrap (((i+1:Nat):Int) - 1)=(i:Int):=by rw[wrap_i64 Z Z];omega
   have bV:IntKind.i64.wrap (((i+1:Nat):Int)+1)=((i+1+1:Nat):Int):=by rw[wrap_i64 Z Z];omega
   have bw:=EG Mt Gk;clear aU dJ;by_cases hq:c.x<=a.x
   ·refine yq vG e3 e5 hM ay aL bC iN g1 g2 qC (aI hq @fe.eq_1) ?_
    refine⟨?_,ha,Z⟩;have:¬ a.x<c.x:=Z;rw[<-pA,bw];simp[this]
   ·refine yq vG e3 e5 hM ay aL bC iN g1 g2 qC (aI bV hq) ?_
    refine⟨r.es.length - (i+1),Z,i+1,rfl,Z,?_,rfl,ha,Z⟩;have:a.x<c.x:=Z;rw[<-pA,bw];simp[this]
  ·refine ky vG e3 e5 hM ay aL @fe.eq_1 ?_
   refine⟨?_,ha,Z⟩;rw[<-pA];by_cases h0:i<r.es.length
   ·rw[drop_eq_getElem_cons h0,drop_eq_nil_of_le Z]
    rfl
   ·rw[drop_eq_nil_of_le Z]
    rfl
def kG (l:List aR) (p:Ex) (x w n:Int):Bool:=match rV l x w n with | some d=>!d.dead&&xS p x d.v | none=>false
def uu (l:List aR) (r:aR):Bool:=r.es.all fun e=>e.m==kG l r.p e.x e.w e.n
theorem Xw (ρ:aK) {e:Ex} (he:bG M b e cs) (hb:b<=nx) (hc:dV e<=1000) (iu:gI e) (h:cZ M lo hi m l) (hh:hi<=nx) (x w n:Int) :
 ar am ρ 210 [.mp m 0,.agg cs,.int .u64 x,.agg [.int .u64 w,.int .u64 n]] M nx (fe nx M (.bool (kG l e x w n))):=by
 have sx:=he;obtain⟨k,p,q,ps⟩:=e;simp only[bG]at sx;obtain⟨pv,row,rfl,a9,jd⟩:=sx;have hv:=a9.cell;refine ar.wk 32 [.tmp 8] Tryz.func210 ?_;refine gk GK hv.1 hv.2 ?_;generalize xu:ci (ci M nx (bx.row [XV.int IntKind.i64 k,XV.int IntKind.u64 p,XV.int IntKind.u64 q,pv])) (nx+1) (bx.row [XV.int IntKind.u64 w,XV.int IntKind.u64 n])=M1;have a1:aq nx M M1:=by rw[<-xu];exact O
 have m1:gG M1 nx=some (.row [.int .i64 k,.int .u64 p,.int .u64 q,pv]):=by rw[<-xu];simp[ao]
 clear xu;refine lG (ST ρ (h.agr (a1.le hh) (Nat.le_refl _)) Z x w n) fun M2 n2 g2 g3=>?_
 have a2:=a1.trans (g2.le Z);have y:=(g2 nx Z).trans m1;cases hm:rV l x w n with
 | none =>
   refine jz GK @wy.eq_1 @wy.eq_2 @fe.eq_1 ?_;exact⟨by simp only[kG,hm],(by(repeat (refine aq.set ?_ Z _));exact a2),Z⟩
 | some d =>
   obtain⟨dv,dd⟩:=d;cases dd with
   | true =>
     refine lO GK @wy.eq_1 @wy.eq_2 @et.eq_1 @fe.eq_1 ?_;exact⟨by simp only[kG,hm,Bool.not_true,Bool.false_and],(by(repeat (refine aq.set ?_ Z _));exact a2),Z⟩
   | false =>
     refine lO GK @wy.eq_1 @wy.eq_2 @et.eq_1 y ?_;have a3:=fun o o'=>((a2.set (show nx<=n2+3 by omega) o).set (show nx<=n2+3 by omega) o')
     refine lG (WN ρ (he.agr ((a3 _ _).le hb)) Z hc iu x dv) fun M3 n3 k2 k3=>?_
     refine fM GK @fe.eq_1 ?_;exact⟨by simp only[kG,hm,Bool.not_false,Bool.true_and],(a3 _ _).trans (k2.le Z),Z⟩
theorem W7 (ρ:aK) {k:Nat} (h:cZ M lo hi m l) (hh:hi<=nx) (hk:gG M k=some (.row [.mp m 0])) (QP:k<nx) (e:En):ar am ρ 204 [.agg (b9 e),.mp k 0] M nx (fe nx M (.bool (!(lV l e.x e.w e.n)))):=by
 simp only[b9];have a1:=fun o=>(aq.refl nx M).set (Nat.le_refl nx) o
 refine ar.wk 11 [.tmp 3] Tryz.func204 ?_;refine fM S7 hk ?_;refine lG (Tu ρ (h.agr ((a1 _).le hh) (Nat.le_refl _)) Z e.x e.w e.n) fun M2 n2 g2 g3=>?_
 refine fM S7 @fe.eq_1 ?_;exact⟨(a1 _).trans (g2.le Z),Z⟩
theorem xU {α:Type} (q:α->Bool) (l:List α):(!(l.any fun e=>!(q e)))=l.all q:=by
 induction l with
 | nil=>rfl
 | cons a l ih=>simp only[any_cons,all_cons,<-ih,Bool.not_or,Bool.not_not]
theorem Yb (ρ:aK) (hr:b8 M b r cs) (hb:b<=nx) (h:cZ M lo hi m l) (hh:hi<=nx):ar am ρ 134 [.mp m 0,.agg cs] M nx (fe nx M (.bool (tN l r))):=by
 obtain⟨pk,pa,pb,pv,ve,rfl,⟨p1,p2⟩,⟨q1,q2⟩,dZ,_⟩:=hr.cells;unfold jm at dZ;refine ar.wk 10 [.tmp 4] Tryz.func134 ?_;refine lO uo p1 p2 q1 q2 ?_;generalize xu:ci (ci M nx _) (nx+1) _=M1;have a1:aq nx M M1:=by rw[<-xu];exact O
 have m1:gG M1 nx=some (.row [.mp m 0]):=by rw[<-xu];simp[ao]
 clear xu;refine lG (PP ρ (dZ.agr (a1.le hb)) Z (fun e=>!(lV l e.x e.w e.n)) fun e he M' nx' ha hn=>W7 ρ ((h.agr (a1.le hh) (Nat.le_refl _)).agr (ha.le Z) (Nat.le_refl _)) Z ((ha _ Z).trans m1) Z e) fun M2 n2 g2 g3=>?_
 have hz:=xU (fun e:En=>lV l e.x e.w e.n) r.es;refine gk uo hz @fe.eq_1 ?_;exact⟨by simp only[tN],a1.trans (g2.le Z),Z⟩
end Go.Xs
