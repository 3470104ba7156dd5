/- A part: the walk. -/
import Derived.Test.YtlgnhkloikmhcaaGreatDoorXsQA
import Derived.Deep.LoopGhost
import Derived.Lib.Bytealg
import Derived.Below
import Derived.RowKit
import Derived.ChangeArms
import Derived.DataReads
set_option maxRecDepth 100000
set_option linter.all false
set_option linter.deprecated false
open Array renaming ext'->abz,getD_eq_getD_getElem?->abb,getElem?_push->acx,getElem?_replicate->acw,getElem?_toList->aaQ,length_toList->aa2,mem_toList_iff->adZ,replicate->adp
open Bool renaming and_eq_true->aaF,false_eq_true->aay,or_eq_true->ab0,true_and->adj,true_or->acW
open Go.DataW renaming trod->acu
open Go.Extern.BytealgCount renaming count->adi
open Go.Lib renaming indexByte->abC
open Go.Oper renaming wp->ads
open Go.Region renaming ready->abm
open Go.Result renaming andThen_ok->aar
open Go.Sem renaming run_bind->aav,run_pure->aaA
open Go.World renaming putObj_heap_other->aa0
open List renaming all_eq_true->aa4,getElem?_eq_some_iff->aaq,map_map->adO,range->aa7,cons_append->aa8,drop_drop->abi,drop_succ_cons->acs,getElem?_cons_succ->aa1,getElem?_cons_zero->aaI,getElem?_drop->ab1,getElem?_eq_getElem->aaR,getElem?_map->acg,getElem?_toArray->abf,length_cons->aaw,length_drop->acz,length_filter_le->abh,length_take->aaS,map_append->abV,map_cons->aa3,mem_cons->aaK,mem_cons_of_mem->aaJ,mem_cons_self->aaC,mem_filter->abQ,mem_map->ab6,mem_of_getElem?->aaH,mem_range->ady,mem_singleton->aaE,replicate->ab2,replicate_succ->adL,take_succ_cons->abt
open List.cons renaming injEq->abI
open Nat renaming beq->aaW,ble->aaP,blt->abc,le_of_eq->acQ,le_of_not_lt->adn,le_refl->u7,le_trans->aaT,strongRecOn->adv,zero_add->aaU,beq_refl->acZ,ble_eq_true_of_le->aaL,blt_eq->abD,eq_of_beq_eq_true->aaB,mul_le_mul_right->abg,ne_of_beq_eq_false->adk
open Option renaming map_map->adr,isSome_none->adM,map_some->adb
open Option.some renaming injEq->aat
namespace Go.Xs
open List Nat Option
variable{M N:Hp}{P:Program}{R:ew->Prop}{after:Array Edge}{args cs:List XV}{b' f fuel hi i kt m n nx sz t:Nat}{fn:Func}{fr:Option Nat}{listed:Array Bool}{op:Op}{ops:List Oper}{pos:String}{ty:TypeId}{us:List (Nat×Option bx)}{v z:XV}{vs:List Value}{ρ:aK}
noncomputable section
section
variable {P:Program} {a:Act} {w w' w0:World} {ρ:aK} {σ σ' σ0:cb} {M N M' M0:Hp} {Γ:cc} {call:fB} {env be:eX} {ds:List Deferred} {nx0 n:Nat} {fr:Option Nat}
structure Sd (ds:List Deferred) (ρ:aK) (w0:World) (σ0:cb) (M0:Hp) (nx0 n:Nat) (s:PS) (a:Act) (w:World) (σ:cb):Prop where
 envr:fX ρ σ s.1 a.tmps
 size:a.tmps.size=n
 ok:Ok ρ w σ s.2
 ext:zN w0 σ0 M0 w σ s.2
 old:∀k,σ k=σ0 k\/nx0<=k
 def0:a.defers=ds
theorem eB.congr (h:∀k,gG N k=gG M k) {b:Nat}:eB σ N b ↔ eB σ M b :=
 ⟨fun⟨k,o,p,q,r⟩=>⟨k,o,p,by rw[<-h];exact q,r⟩,fun⟨k,o,p,q,r⟩=>⟨k,o,p,by rw[h];exact q,r⟩⟩
theorem zN.congr (h:∀k,gG N k=gG M k) (e:zN w0 σ0 M0 w σ M):zN w0 σ0 M0 w σ N :=
 ⟨e.os,e.tape,e.output,e.size,e.blk,fun b hb=>e.own b ((eB.congr h).1 hb),e.sig,fun b ⟨k,o,p,q,r⟩=>e.held b ⟨k,o,p,by rw[<-h];exact q,r⟩⟩
theorem Sd.congr {s s':PS} (h:Sd ds ρ w0 σ0 M0 nx0 n s a w σ) (h1:∀t,gG s'.1 t=gG s.1 t) (h2:∀k,gG s'.2 k=gG s.2 k):Sd ds ρ w0 σ0 M0 nx0 n s' a w σ :=
 ⟨fun t v hv=>h.envr t v (by rw[<-h1];exact hv),h.size,h.ok.sub fun k x hk=>by rw[<-h2];exact hk,h.ext.congr h2,h.old,h.def0⟩
theorem Sd.step {x:iA} {s:PS} {v:Value} (h:Sd ds ρ w0 σ0 M0 nx0 n s a w σ) (hd:∀t,x.dst=some t->t<n) (mo:nx0<=x.lo) (hp:cK ρ w σ s.2 x.lo (x.val,aY s.2 x.upd,x.hi) v w') :
 ∃σ',Sd ds ρ w0 σ0 M0 nx0 n (x.app s) (a.put x.dst v) w' σ'/\∀k,σ' k=σ k\/(x.lo<=k/\k<x.hi):=by
 obtain⟨σ',h1,h2,h3,h4,h5⟩:=hp;have kT:cu a.tmps.size s.1 x.dst x.val=some (sM s.1 x.dst x.val):=by
  cases hx:x.dst with
  | none=>rfl
  | some t =>
    have:=hd t hx;rw[<-h.size]at this;have hb:abc t a.tmps.size=true:=by rw[abD];exact this
    simp only[cu,sM,hb]
 refine⟨σ',⟨fX.put (h.envr.mono h3.sig) kT h1,by rw[nD];exact h.size,h2,h.ext.trans h3,fun k=>?_,by rw[vL];exact h.def0⟩,h5⟩;rcases h5 k with e | ⟨e1,e2⟩
 ·rw[e];exact h.old k
 right;omega
theorem Sd.skip {x:iA} {s:PS} (h:Sd ds ρ w0 σ0 M0 nx0 n s a w σ) (hd:∀t,x.dst=some t->t<n) (hv:x.val = .udf) (hu:x.upd=[]):Sd ds ρ w0 σ0 M0 nx0 n (x.app s) (a.put x.dst undef) w σ:=by
 have kT:cu a.tmps.size s.1 x.dst x.val=some (sM s.1 x.dst x.val):=by
  cases hx:x.dst with
  | none=>rfl
  | some t =>
    have:=hd t hx;rw[<-h.size]at this;have hb:abc t a.tmps.size=true:=by rw[abD];exact this
    simp only[cu,sM,hb]
 exact⟨fX.put h.envr kT (by rw[hv];simp only[VR]),by rw[nD];exact h.size,by simp only[iA.app,hu,aY];exact h.ok,by simp only[iA.app,hu,aY];exact h.ext,h.old,by rw[vL];exact h.def0⟩
theorem OZ {o:Op} {e:bZ} (h:Bf P Γ call env M nx o=some (e,hi)):∀c,o ≠ .defer c:=by intro c hc;subst hc;simp[Bf,cY]at h
theorem Gv.run (hΓ:∀i op c b k,Γ i op c=some b->bj op k (ρ i) k c=some (.bool b)) (dW:i9 P ρ call) {all:List Oper} {Q:Exit->Act->World->Prop} {K:Act->World->Prop} {o:Oper} {x:iA} {s:PS}
 (ho:all[i]?=some o) (h:Gv P ρ Γ call all o x s) (hs:Sd ds ρ w0 σ0 M0 nx0 n s a w σ) (Zg:∀t,x.dst=some t->t<n) (mo:nx0<=x.lo) (hf:∀k,x.lo<=k->k<x.hi->σ k=none)
 (hK:∀a' w' σ',Sd ds ρ w0 σ0 M0 nx0 n (x.app s) a' w' σ'->(∀k,σ' k=σ k\/(x.lo<=k/\k<x.hi))->K a' w'):wpOpIn (FW fr) 0 P all.toArray Q i K a w:=by
 unfold wpOpIn;simp only[abf,ho];obtain⟨hd,⟨hg,e,ha,e1,e2,e3⟩ | ⟨hg,e1,e2,e3,_⟩⟩:=h
 ·rw[iL hs.envr hg,if_pos rfl]
  rcases ha with ha | ⟨c,g,args,hc,pw,ha⟩
  ·refine vq (OZ ha) (Os hΓ dW hs.ok hs.envr hf ha K Q fun v w' hp=>?_)
   rw[<-e1,<-e3]at hp;obtain⟨σ',g1,g2⟩:=hs.step Zg mo hp;rw[<-hd];exact hK _ _ σ' g1 g2
  obtain⟨vs,h1,h2⟩:=ik (P:=P) (w:=w) hs.envr hc pw;refine vq (fun c' jY=>by rw[hc]at jY;cases jY) ?_;unfold ads;rw[h2];refine ha.run hs.ok hf h1 K Q fun v w' hp=>?_
  rw[<-e1,<-e3]at hp;obtain⟨σ',g1,g2⟩:=hs.step Zg mo hp;rw[<-hd];exact hK _ _ σ' g1 g2
 rw[iL hs.envr hg,if_neg af,<-hd];exact⟨fun f _=>jh fr f,hK _ _ σ (hs.skip Zg e1 e3) fun _=>.inl rfl⟩
theorem rc {p q:Nat->Bool}:∀{l:List Nat},(∀x ∈ l,q x=true->p x=true)->(∃x ∈ l,p x=true/\q x=false)->(l.filter q).length<(l.filter p).length
 | [],_,⟨x,hx,_⟩=>by cases hx
 | y::l,h,⟨x,hx,h1,h2⟩=>by
   have jT:∀{l:List Nat},(∀x ∈ l,q x=true->p x=true)->(l.filter q).length<=(l.filter p).length:=by
    intro l
    induction l with
    | nil=>simp
    | cons z l ih =>
      intro h;have:=ih fun x hx=>h x (aaJ _ hx)
      have hz:=h z aaC;simp only[List.filter];cases hq:q z<;>cases hp:p z<;>simp_all<;>omega
   have hl:=fun x hx=>h x (aaJ _ hx)
   simp only[List.filter];rcases aaK.1 hx with rfl | hx
   ·rw[h1,h2]
    have:=jT hl;simp only[aaw];omega
   have:=rc hl ⟨x,hx,h1,h2⟩;have hy:=h y aaC;cases hq:q y<;>cases hp:p y<;>simp_all<;>omega
def dn (listed:Array Bool) (i:Nat):Bool:=listed.getD i false
theorem xM (hi:i<listed.size) (j:Nat):dn (listed.setIfInBounds i true) j=(dn listed j||decide (j=i)):=by
 simp only[dn,abb];by_cases h:i=j
 ·subst h
  simp[hi]
 rw[Array.getElem?_setIfInBounds_ne h];have h':¬ j=i:=fun e=>h e.symm
 simp[h']
theorem gg (cJ:listed.size=ops.length):i ∈ abm .any ops.toArray listed ↔ ∃o,ops[i]?=some o/\dn listed i=false/\∀e ∈ sg o,dn listed e=true:=by
 simp only[abm,abQ,ady,List.size_toArray,aaF,Bool.not_eq_true',abf];constructor
 ·rintro⟨hi,h1,h2⟩
  obtain⟨o,ho⟩:=aao hi;rw[ho]at h2;simp only[adb,getD_some,Array.all_eq_true']at h2;refine⟨o,ho,?_,fun e he=>?_⟩
  ·simp only[dn,abb]at h1 ⊢
   have:i<listed.size:=aa;simp[this]at h1 ⊢;exact h1
  simp only[sg,ab6,abQ,adZ]at he;obtain⟨ed,⟨hm,hb⟩,rfl⟩:=he;have:=h2 ed hm;simpa [hb,dn] using this
 rintro⟨o,ho,h1,h2⟩;have hi:i<ops.length:=(aaq.1 ho).1;refine⟨hi,?_,?_⟩
 ·simp only[dn,abb]at h1 ⊢
  have:i<listed.size:=aa;simp[this]at h1 ⊢;exact h1
 rw[ho];simp only[adb,getD_some,Array.all_eq_true'];intro ed hm;cases hb:Region.binds .any ed with
 | false=>rfl
 | true =>
   have:=h2 ed.on (by simp only[sg,ab6,abQ,adZ];exact⟨ed,⟨hm,hb⟩,rfl⟩);simpa [dn] using this
theorem Vx {all:List Oper} {x y:Oper} {d:Nat} (h:x.dst=some d) (h':d ∈ ph all y):mF all x y=true:=by simp only[mF,h];rw[(eg _ _).2 h'];rfl
theorem wP {all:List Oper} {x y:Oper} {d:Nat} (h:y.dst=some d) (h':d ∈ ph all x):mF all x y=true:=by simp only[mF,h];rw[(eg _ _).2 h'];simp
theorem wF {all:List Oper} {x y:Oper} {d:Nat} (h:x.dst=some d) (h':y.dst=some d):mF all x y=true:=by simp only[mF,h,h',acZ];simp
theorem fU.le:∀{lo:Nat} {xs:List iA} {hi:Nat},fU lo xs hi->lo<=hi
 | _,[],_,h=>acQ h
 | _,x::xs,_,h=>by obtain⟨h1,h2,h3⟩:=h;have:=h3.le;omega
theorem fU.get:∀{lo:Nat} {xs:List iA} {hi:Nat},fU lo xs hi->∀{i:Nat} {x:iA},xs[i]?=some x->lo<=x.lo/\x.lo<=x.hi/\x.hi<=hi
 | _,[],_,_,_,_,h=>by simp at h
 | _,y::xs,_,h,i,x,hx=>by
   obtain⟨h1,h2,h3⟩:=h;cases i with
   | zero =>
     simp only[aaI,aat]at hx;subst hx;have:=h3.le;omega
   | succ i =>
     have:=h3.get (i:=i) (by simpa using hx);omega
theorem fU.apart:∀{lo:Nat} {xs:List iA} {hi:Nat},fU lo xs hi->∀{i j:Nat} {x y:iA},xs[i]?=some x->xs[j]?=some y->i<j->x.hi<=y.lo
 | _,[],_,_,_,_,_,_,h,_,_=>by simp at h
 | _,z::xs,_,h,i,j,x,y,hx,hy,eS=>by
   obtain⟨h1,h2,h3⟩:=h;cases j with
   | zero=>omega
   | succ j =>
     cases i with
     | zero =>
       simp only[aaI,aat]at hx;subst hx;exact(h3.get (i:=j) (by simpa using hy)).1
     | succ i=>exact h3.apart (i:=i) (j:=j) (by simpa using hx) (by simpa using hy) aa
theorem Cz (hΓ:∀i op c b k,Γ i op c=some b->bj op k (ρ i) k c=some (.bool b)) (dW:i9 P ρ call) {base top:Nat} {Q:Exit->Act->World->Prop} {xs:List iA} {s0:PS}
 (he:jq ops=true) (cw:ko ops=true) (yP:g_ ops (sI xs 0 [])=true) (ay:xs.length=ops.length)
 (qA:∀j o x,ops[j]?=some o->xs[j]?=some x->Gv P ρ Γ call ops o x (cI (fun _=>true) (xs.take j) 0 s0))
 (ef:fU base xs top) (V9:nx0<=base) (pF:∀x ∈ xs,∀t,x.dst=some t->t<n)
 (hQ:∀a' w' σ',Sd ds ρ w0 σ0 M0 nx0 n (cI (fun _=>true) xs 0 s0) a' w' σ'->(∀k,top<=k->σ' k=none)->Q .normal a' w') :
 ∀(fuel:Nat) (listed:Array Bool) (a:Act) (w:World) (σ:cb),listed.size=ops.length->((aa7 ops.length).filter fun i=>!dn listed i).length<=fuel ->
  lW ops (dn listed)->Sd ds ρ w0 σ0 M0 nx0 n (cI (dn listed) xs 0 s0) a w σ->(∀k,base<=k->(∀(i:Nat) (x:iA),xs[i]?=some x->dn listed i=true->¬ (x.lo<=k/\k<x.hi))->σ k=none) ->
  wpAnyIn (FW fr) 0 P .any ops.toArray Q fuel listed a w:=by
 have fin:∀(listed:Array Bool) (a:Act) (w:World) (σ:cb),listed.size=ops.length ->
  Sd ds ρ w0 σ0 M0 nx0 n (cI (dn listed) xs 0 s0) a w σ->(∀k,base<=k->(∀(i:Nat) (x:iA),xs[i]?=some x->dn listed i=true->¬ (x.lo<=k/\k<x.hi))->σ k=none) ->
  (∀i,i<ops.length->dn listed i=true)->Q .normal a w:=by
  intro listed a w σ cJ hs hf dy;rw[jI (S':=fun _=>true) xs 0 s0 (fun j hj=>by rw[aaU];exact dy j aa)]at hs;exact hQ a w σ hs fun k hk=>hf k (by have:=ef.le;omega) fun i x hx _=>by have:=ef.get hx;omega
 have allOf:∀(listed:Array Bool),listed.size=ops.length->abm .any ops.toArray listed=[]->∀i,i<ops.length->dn listed i=true:=by
  intro listed cJ hr i
  induction i using adv with
  | _ i ih =>
    intro hi;cases hd:dn listed i with
    | true=>rfl
    | false =>
      have ho:ops[i]?=some ops[i]:=by simp[hi]
      have:i ∈ abm .any ops.toArray listed:=(gg cJ).2 ⟨_,ho,hd,fun e hm=>ih e (cg he ho e hm) (by have:=cg he ho e hm;omega)⟩;rw[hr]at this;cases this
 intro fuel
 induction fuel with
 | zero =>
   intro listed a w σ cJ yH cF hs hf;have dy:∀i,i<ops.length->dn listed i=true:=by
    intro i hi;cases hd:dn listed i with
    | true=>rfl
    | false =>
      have hm:i ∈ (aa7 ops.length).filter fun i=>!dn listed i:=by simp[hi,hd]
      have:=length_pos_of_mem hm;omega
   refine⟨?_,fin listed a w σ cJ hs hf dy⟩;cases hr:abm .any ops.toArray listed with
   | nil=>rfl
   | cons i l =>
     have:i ∈ abm .any ops.toArray listed:=by rw[hr];exact aaC
     obtain⟨o,ho,h1,_⟩:=(gg cJ).1 this;rw[dy i (aaq.1 ho).1]at h1;cases h1
 | succ fuel ih =>
   intro listed a w σ cJ yH cF hs hf;refine⟨fun hr=>fin listed a w σ cJ hs hf (allOf listed cJ hr),fun i hi=>?_⟩;obtain⟨o,ho,hd,uX⟩:=(gg cJ).1 hi;have uT:i<ops.length:=(aaq.1 ho).1;obtain⟨x,hx⟩:∃x,xs[i]?=some x:=⟨xs[i],by simp[ay,uT]⟩;have dstOf:∀(j:Nat) (y:iA) (o':Oper),xs[j]?=some y->ops[j]?=some o'->y.dst=o'.dst:=fun j y o' h1 h2=>(qA j o' y h2 h1).1
   have opOf:∀(j:Nat) (y:iA),xs[j]?=some y->∃o',ops[j]?=some o':=fun j y h=>⟨ops[j]'(by have:=(aaq.1 h).1;omega),af⟩
   have ahead:∀j,db (T_ ops i) j=true->j=i\/dn listed j=true:=fun j hj=>ea cF (fun o' iP e hm=>by rw[ho]at iP;cases iP;exact uX e hm) hj
   have behind:∀j,dn listed j=true->db (T_ ops j) i=true->j=i:=fun j hj hn=>by
    rcases ea (j:=j) cF (fun o' iP=>cF j o' iP hj) hn with h | h
    ·exact h.symm
    rw[hd]at h;cases h
   have clashed:∀(j:Nat) (y:iA) (o':Oper),xs[j]?=some y->ops[j]?=some o'->j≠i->(j<i->mF ops o' o=true)->(i<j->mF ops o o'=true)->dn listed j=decide (j<i):=by
    intro j y o' hj iP cf c1 c2;by_cases aL:j<i
    ·rcases ahead j (gp cw iP ho aL (c1 aL)) with h | h
     ·exact(cf h).elim
     rw[h];simp[aL]
    cases hS:dn listed j with
    | false=>simp[aL]
    | true=>exact(cf (behind j hS (gp cw ho iP aa (c2 aa)))).elim
   have keyed:∀(j:Nat) (y:iA),xs[j]?=some y->j≠i->¬ qM (if j<i then (i,x.rd,bM x.upd) else (j,y.rd,bM y.upd)) (if j<i then (j,y.rd,bM y.upd) else (i,x.rd,bM x.upd))->dn listed j=decide (j<i):=by
    intro j y hj cf dX;by_cases aL:j<i
    ·rw[if_pos aL,if_pos aL]at dX
     have:=lE xs 0 [] yP j i y x hj hx aL;simp only[aaU]at this;rcases this with h | h | h
     ·exact(dX h).elim
     ·have ZM:i<=j:=by
       obtain⟨o',iP⟩:=opOf j y hj;have hc:lW ops (fun e=>decide (e<j)):=fun i' o2 bJ h2 e hm=>by have:=cg he bJ e hm;simp at h2 ⊢;omega
       rcases ea (j:=j) hc (fun o2 bJ e hm=>by have:=cg he bJ e hm;simpa using this) h with h | h
       ·omega
       simp at h;omega
      omega
     rcases ahead j h with h | h
     ·exact(cf h).elim
     rw[h];simp[aL]
    rw[if_neg aL,if_neg aL]at dX;have:=lE xs 0 [] yP i j x y hx hj aa;simp only[aaU]at this;cases hS:dn listed j with
    | false=>simp[aL]
    | true =>
      rcases this with h | h | h
      ·exact(dX h).elim
      ·rcases ahead j h with h | h
       ·exact(cf h).elim
       have hc:lW ops (fun e=>decide (e<i)):=fun i' o2 bJ h2 e hm=>by have:=cg he bJ e hm;simp at h2 ⊢;omega
       rcases ea (j:=i) hc (fun o2 bJ e hm=>by have:=cg he bJ e hm;simpa using this) ‹_› with h | h
       ·omega
       simp at h;omega
      exact(cf (behind j hS h)).elim
   have bw:Gv P ρ Γ call ops o x (cI (dn listed) xs 0 s0):=by
    have h0:=qA i o x ho hx;rw[wW]at h0;refine h0.move (fun t ht=>?_) fun k hk=>?_
    ·refine lj xs 0 _ _ rfl fun j y hj hy=>?_
     rw[aaU];by_cases kX:j=i;·subst kX;rw[hd];simp
     obtain⟨o',iP⟩:=opOf j y hj;have hdo:=dstOf j y o' hj iP;rw[hdo]at hy;exact clashed j y o' hj iP kX (fun _=>Vx hy ht) fun _=>wP hy ht
    refine xf xs 0 _ _ rfl fun j y hj hy=>?_
    rw[aaU];by_cases kX:j=i;·subst kX;rw[hd];simp
    refine keyed j y hj kX fun dX=>?_
    by_cases aL:j<i
    ·rw[if_pos aL,if_pos aL]at dX
     exact dX.2 k hy hk
    rw[if_neg aL,if_neg aL]at dX;exact(dX.1 k hy).1 hk
   have D_:=ef.get hx;refine Gv.run hΓ dW ho bw hs (pF x (aaH hx)) aa (fun k h1 h2=>?_) fun a' w' σ' lJ hσ=>?_
   ·refine hf k aa fun j y hj hS VD=>?_
    have:j=i:=by
     rcases Nat.lt_trichotomy j i with h | h | h
     ·have:=ef.apart hj hx h;omega
     ·exact h
     have:=ef.apart hx hj h;omega
    subst this;rw[hd]at hS;cases hS
   obtain⟨r1,r2⟩:=Ax (s:=s0) hx hd (fun j y hj eS hS t h1 h2=>by
    obtain⟨o',iP⟩:=opOf j y hj;have q1:=dstOf j y o' hj iP;have q2:=dstOf i x o hx ho;rw[q1]at h2;rw[q2]at h1;have:=behind j hS (gp cw ho iP eS (wF h1 h2));omega) fun j y hj eS hS k h1 h2=>by
     have:=keyed j y hj aa fun dX=>by rw[if_neg aa,if_neg aa]at dX;exact(dX.1 k h2).2 h1
     rw[hS]at this;simp at this;omega
   have pF:dn (listed.setIfInBounds i true)=fun j=>dn listed j||decide (j=i):=funext fun j=>xM aa j
   have vV:∀j,dn (listed.setIfInBounds i true) j=true ↔ (dn listed j=true\/j=i):=fun j=>by rw[pF];simp
   refine ih (listed.setIfInBounds i true) a' w' σ' (by simp[cJ]) ?_ ?_ ?_ ?_
   ·have:=rc (l:=aa7 ops.length) (p:=fun j=>!dn listed j) (q:=fun j=>!dn (listed.setIfInBounds i true) j) (fun j _ hj=>by rw[pF]at hj;simp at hj ⊢;exact hj.1) ⟨i,by simp[uT],by simp[hd],by rw[pF];simp⟩
    omega
   ·intro j o' iP hj e hm
    rcases(vV j).1 hj with h | rfl
    ·exact(vV e).2 (.inl (cF j o' iP h e hm))
    rw[ho]at iP;cases iP;exact(vV e).2 (.inl (uX e hm))
   ·rw[pF]
    exact lJ.congr r1 r2
   intro k hk sy;rcases hσ k with h | h
   ·rw[h]
    exact hf k hk fun j y hj Zz=>sy j y hj ((vV j).2 (.inl Zz))
   exact(sy i x hx ((vV i).2 (.inr rfl)) h).elim
end
inductive bg where
 | normal | exit (id:Nat) | ret
def bg.to:bg->Exit
 | .normal=>.normal
 | .exit id=>.exit id
 | .ret=>.ret
def mT (f:XS->Option (List (bg×XS))):Nat->XS->Option (List (bg×XS))
 | 0,_=>none
 | k+1,s=>match f s with
   | none=>none
   | some L=>fv L fun r=>match r.1 with
     | .normal=>mT f k r.2
     | _=>some [r]
def Do (id:Nat) (r:bg×XS):bg×XS:=match r.1 with
 | .exit i=>match aaW i id with | true=>(.normal,r.2) | false=>r
 | _=>r
def qj (n:Nat):List Nat->List XV->eX->Option eX
 | [],[],env=>some env
 | p::ps,v::vs,env=>match cu n env (some p) v with
   | some env=>qj n ps vs env
   | none=>none
 | _,_,_=>none
abbrev rT:=Nat->List XV->Nat×YH->Hp->Nat->Option (List (Hp×Nat))
def kQ:rT:=fun _ _ _ _ _=>none
def BZ (f g:XS->Option (List (bg×XS))) (n:Nat) (ps:List Nat) (env:eX):YH:=fun args M nx=>match qj n ps args env with
 | none=>none
 | some env=>match f ⟨env,M,nx⟩ with
   | none=>none
   | some L=>fv L fun r=>match r.1 with
     | .normal=>match g r.2 with
       | none=>none
       | some L=>fv L fun r=>match r.1 with
         | .normal=>some [(r.2.M,r.2.nx)]
         | _=>none
     | _=>none
def js (P:Program) (Γ:cc) (call:fB) (iter:rT) (Y:Option (Nat×YH)) (n fuel:Nat):Code->XS->Option (List (bg×XS))
 | .skip,s=>some [(.normal,s)]
 | .ret,s=>some [(.ret,s)]
 | .exit id,s=>some [(.exit id,s)]
 | .seq a b,s=>match js P Γ call iter Y n fuel a s with
   | none=>none
   | some L=>fv L fun r=>match r.1 with
     | .normal=>js P Γ call iter Y n fuel b r.2
     | _=>some [r]
 | .block id c,s=>match js P Γ call iter Y n fuel c s with
   | none=>none
   | some L=>some (L.map (Do id))
 | .cond c a b,s=>match cG s.env c with
   | .bool true=>js P Γ call iter Y n fuel a s
   | .bool false=>js P Γ call iter Y n fuel b s
   | _=>none
 | .loop c,s=>mT (js P Γ call iter Y n fuel c) fuel s
 | .region _ ops draw,s=>match draw with
   | false=>match Fu P Γ call Y n ops.toList ops.toList s with
     | none=>none
     | some L=>some (L.map fun s=>(.normal,s))
   | true=>match jq ops.toList,ko ops.toList,Bo P Γ call n ops.toList ops.toList 0 s [] with
     | true,true,some (s',log)=>match g_ ops.toList log with
       | true=>some [(.normal,s')]
       | false=>none
     | _,_,_=>none
 | .rangeFunc g ps asg body,s=>match cG s.env g with
   | .fn (.func h) [] caps=>match iter h (.yd s.nx::caps) (s.nx,BZ (js P Γ call kQ none n fuel asg) (js P Γ call kQ none n fuel body) n ps.toList s.env) s.M (s.nx+1) with
     | some L=>some (L.map fun r=>(.normal,⟨s.env,r.1,r.2⟩))
     | none=>none
   | _=>none
 | _,_=>none
def gx (P:Program) (s:XS):ResultVar->Option XV
 | .tmp t=>gG s.env t
 | .cell a t=>match gG s.env a with
   | some x=>match b_ P s.M t x with | some e=>some e.val | none=>none
   | none=>none
def cB (P:Program) (s:XS):List ResultVar->Option (List XV)
 | []=>some []
 | r::rs=>match gx P s r with
   | none=>none
   | some v=>match cB P s rs with | none=>none | some vs=>some (v::vs)
def cR:List XV->XV
 | [v]=>v
 | vs=>.tup vs
def cz:List XV->Nat->eX->eX
 | [],_,env=>env
 | v::vs,i,env=>cz vs (i+1) (aG env i v)
def L_ (P:Program) (rs:List ResultVar) (r:bg×XS):Option (List ew):=match r.1 with
 | .exit _=>none
 | _=>match cB P r.2 rs with
   | some vs=>some [(cR vs,r.2.M,r.2.nx)]
   | none=>none
abbrev Bw:=Nat->List XV->Hp->Option XV
def Iw (P:Program) (Γ:cc) (ext:Bw) (fuel:Nat) (p:fB×rT):fB×rT :=
 (fun g args M nx=>match ext g args M with
   | some v=>some [(v,M,nx)]
   | none=>match P.funcs[g]? with
     | none=>none
     | some fn=>match fn.body with
       | none=>none
       | some c=>match js P Γ p.1 p.2 none (args.length+(fn.ntmps - args.length)) fuel c ⟨cz args 0 .nil,M,nx⟩ with
         | none=>none
         | some L=>fv L (L_ P fn.results.toList),
  fun g args Y M nx=>match P.funcs[g]? with
   | none=>none
   | some fn=>match fn.body,fn.results.toList with
     | some c,[]=>match js P Γ p.1 p.2 (some Y) (args.length+(fn.ntmps - args.length)) fuel c ⟨cz args 0 .nil,M,nx⟩ with
       | none=>none
       | some L=>fv L fun r=>match r.1 with
         | .exit _=>none
         | _=>some [(r.2.M,r.2.nx)]
     | _,_=>none)
def zM (P:Program) (Γ:cc) (ext:Bw) (fuel:Nat):Nat->fB×rT
 | 0=>(fun _ _ _ _=>none,kQ)
 | d+1=>Iw P Γ ext fuel (zM P Γ ext fuel d)
def Ty (P:Program) (Γ:cc) (ext:Bw) (fuel d:Nat):fB:=(zM P Γ ext fuel d).1
section
variable {P:Program} {a:Act} {w w' w0:World} {ρ:aK} {σ σ' σ0:cb} {M N M' M0:Hp} {Γ:cc} {call:fB} {env be:eX} {ds:List Deferred} {nx0 n:Nat} {iter:rT} {Y:Option (Nat×YH)} {fr:Option Nat}
theorem Ey (hp:P.follows .mixedOrders=true) (hΓ:∀i op c b k,Γ i op c=some b->bj op k (ρ i) k c=some (.bool b)) (dW:i9 P ρ call) (hY:Nk P ρ w0 σ0 M0 nx0 Y) {ops:Array Oper} {id:Nat} {draw:Bool} {s:XS} {L:List (bg×XS)} {Qm:Exit->Act->World->Prop}
 (h:js P Γ call iter Y n fuel (.region id ops draw) s=some L) (hs:St ds ρ w0 σ0 M0 nx0 n s a w σ)
 (hQ:∀r ∈ L,∀a' w' σ',St ds ρ w0 σ0 M0 nx0 n r.2 a' w' σ'->Qm r.1.to a' w'):(Code.region id ops draw).wpIn (FW fr) 0 P Qm a w:=by
 simp only[js]at h;cases draw with
 | false =>
   simp only at h;split at h<;>(try (cases h;done))
   rename_i L' hL;cases h;refine wpIn_region_list ?_;have:=yF (fr:=fr) (Q:=Qm) hΓ dW hY ops.toList s L' a w σ hL hs fun s' lJ a' w' σ' bw=>hQ (.normal,s') (ab6.2 ⟨s',lJ,rfl⟩) a' w' σ' bw
   simpa using this
 | true =>
   simp only at h;split at h<;>(try (cases h;done))
   rename_i s' log he cw hr;split at h<;>(try (cases h;done))
   rename_i aQ;cases h;obtain⟨xs,ay,gy,yP,ef,pF,qA⟩:=wB ops.toList 0 s [] s' log hr;refine wpIn_region_any hp ?_;rw[yP]at aQ;have R5:Sd ds ρ w0 σ0 M0 nx0 n (s.env,s.M) a { w with drawn:=w.drawn+1 } σ :=
    ⟨hs.envr,hs.size,Ok.heap (w:=w) (w1:={ w with drawn:=w.drawn+1 }) rfl hs.ok,⟨hs.ext.os,hs.ext.tape,hs.ext.output,hs.ext.size,hs.ext.blk,hs.ext.own,hs.ext.sig,hs.ext.held⟩,hs.old,hs.def0⟩
   have:=Cz (fr:=fr) (Q:=Qm) (s0:=(s.env,s.M)) hΓ dW he cw aQ ay qA ef hs.le pF (fun a' w' σ' CQ h_=>hQ _ (aaE.2 rfl) a' w' σ' (by
    rw[<-gy]at CQ;exact⟨CQ.envr,CQ.size,CQ.ok,h_,CQ.ext,aaT hs.le ef.le,CQ.old,CQ.def0⟩))
    ops.size (adp ops.size false) a { w with drawn:=w.drawn+1 } σ af (by refine aaT (abh _ _) af) (fun i o _ h=>by simp[dn,abb,acw]at h;split at h<;>simp_all)
    (by rw[jC _ _ _ fun j hj=>by simp[dn,abb,acw];split<;>rfl];exact R5)
    (fun k hk _=>hs.free k hk)
   simpa using this
abbrev nK (D:Nat):Deferred:={ target:=.collected D,args:=#[] }
def Dx (B:Nat) (w:World) (σ:cb) (M:Hp) (ds:List Deferred):Prop:=∃Ds:List Nat,ds=Ds.map nK/\Ds.Nodup/\∀D ∈ Ds,B<=D/\oB w σ M D (.deferred (some []))
theorem Dx.ext {B:Nat} (h:Dx B w σ M ds) (e:zN w σ M w' σ' M'):Dx B w' σ' M' ds:=let ⟨Ds,h1,h2,h3⟩:=h;⟨Ds,h1,h2,fun D hD=>⟨(h3 D hD).1,(h3 D hD).2.ext e⟩⟩
def Sm (ρ:aK) (B:Nat) (w0:World) (σ0:cb) (M0:Hp) (nx0 n:Nat) (s:XS) (a:Act) (w:World) (σ:cb):Prop:=∃ds,St ds ρ w0 σ0 M0 nx0 n s a w σ/\Dx B w σ s.M ds
theorem I5 {B:Nat} {f:XS->Option (List (bg×XS))} {c:Code} {Qm:Exit->Act->World->Prop}
 (hf:∀s L a w σ,f s=some L->Sm ρ B w0 σ0 M0 nx0 n s a w σ->∀Q:Exit->Act->World->Prop,(∀r ∈ L,∀a' w' σ',Sm ρ B w0 σ0 M0 nx0 n r.2 a' w' σ'->Q r.1.to a' w')->c.wpIn (FW fr) 0 P Q a w)
 {s:XS} {L:List (bg×XS)} (h:mT f fuel s=some L) (hs:Sm ρ B w0 σ0 M0 nx0 n s a w σ) (hQ:∀r ∈ L,∀a' w' σ',Sm ρ B w0 σ0 M0 nx0 n r.2 a' w' σ'->Qm r.1.to a' w'):(Code.loop c).wpIn (FW fr) 0 P Qm a w:=by
 refine wpIn_loop_ghost (fun k a w=>∃s R σ,mT f k s=some R/\(∀r ∈ R,r ∈ L/\r.1 ≠ .normal)/\Sm ρ B w0 σ0 M0 nx0 n s a w σ) fuel ⟨s,L,σ,h,fun r hr=>⟨hr,?_⟩,hs⟩ ?_
 ·have key:∀k s R,mT f k s=some R->∀r ∈ R,r.1 ≠ .normal:=by
   intro k
   induction k with
   | zero=>intro s R h;simp[mT]at h
   | succ k ih =>
     intro s R h;simp only[mT]at h;split at h<;>(try (cases h;done))
     rename_i L' hL;have:∀{L':List (bg×XS)} {R:List (bg×XS)},(fv L' fun r=>match r.1 with | .normal=>mT f k r.2 | _=>some [r])=some R->∀r ∈ R,r.1 ≠ .normal:=by
      intro L'
      induction L' with
      | nil=>intro R h r hr;simp only[fv,aat]at h;subst h;cases hr
      | cons x l ihl =>
        have one:∀{A:List (bg×XS)},(match x.1 with | .normal=>mT f k x.2 | _=>some [x])=some A->∀r ∈ A,r.1 ≠ .normal:=by
         intro A hA r hr;split at hA;·exact ih _ _ hA r hr
         rename_i cf;cases hA;rw[aaE.1 hr];exact cf
        intro R h r hr;cases l with
        | nil=>exact one h r hr
        | cons y l =>
          simp only[fv]at h;split at h<;>(try (cases h;done))
          rename_i A hA;split at h<;>(try (cases h;done))
          rename_i B hB;cases h;rcases mem_append.1 hr with hr | hr
          ·exact one hA r hr
          exact ihl hB r hr
     exact this h
  exact key _ _ _ h r hr
 rintro k a w ⟨s,R,σ,hR,oy,bw⟩;cases k with
 | zero=>simp[mT]at hR
 | succ k =>
   simp only[mT]at hR;split at hR<;>(try (cases hR;done))
   rename_i L' hL;refine hf s L' a w σ hL bw _ fun r hr a' w' σ' kU=>?_
   obtain⟨A,h1,h2⟩:=fo hR r hr;cases mr:r.1 with
   | normal =>
     rw[mr]at h1;exact⟨k,lt_succ_self _,r.2,A,σ',h1,fun x hx=>oy x (h2 x hx),kU⟩
   | exit id =>
     rw[mr]at h1;cases h1;have:=hQ r (oy r (h2 r (aaE.2 rfl))).1 a' w' σ' kU;rw[mr]at this;exact this
   | ret =>
     rw[mr]at h1;cases h1;have:=hQ r (oy r (h2 r (aaE.2 rfl))).1 a' w' σ' kU;rw[mr]at this;exact this
end
section
variable {P:Program} {a:Act} {w w' w0:World} {ρ:aK} {σ σ' σ0:cb} {M N M' M0:Hp} {Γ:cc} {call:fB} {env be:eX} {ds:List Deferred} {nx nx0 n:Nat} {Y:Option (Nat×YH)}
def BO (P:Program) (ρ:aK) (iter:rT):Prop :=
 ∀g args Y M nx L,iter g args Y M nx=some L->∀w σ vs,Ok ρ w σ M->(∀k,nx<=k->σ k=none)->c_ ρ σ args vs->Nk P ρ w σ M nx (some Y) ->
  (∃fn c,P.funcs[g]?=some fn/\fn.body=some c/\(fn.name == "runtime.NumGoroutine")=false) /\
  CallsIn (FW none) 0 P g vs.toArray w fun e w'=>(∃v,e = .returned v)/\∃r ∈ L,∃σ',Ok ρ w' σ' r.1/\zN w σ M w' σ' r.1/\nx<=r.2/\∀k,σ' k=σ k\/(nx<=k/\k<r.2)
theorem wg:BO P ρ kQ:=fun g args Y M nx L h=>by cases h
theorem Nk.mono (h:Nk P ρ w0 σ0 M0 nx0 Y) (e:zN w0 σ0 M0 w σ M) (jT:nx0<=nx):Nk P ρ w σ M nx Y:=by
 cases Y with
 | none=>trivial
 | some Y =>
   obtain⟨k,H⟩:=Y;obtain⟨l,rec,room,h1,h2,h3⟩:=h;exact⟨l,rec,room,e.sig _ _ h1,h2.ext e,fun args M' nx' L hH w' σ' us aQ ce mM QS j_=>h3 args M' nx' L hH w' σ' us aQ ce (e.trans mM) (aaT jT QS) j_⟩
theorem St.rebase {s:XS} (h:St ds ρ w0 σ0 M0 nx0 n s a w σ):St ds ρ w σ s.M s.nx n s a w σ:=⟨h.envr,h.size,h.ok,h.free,.refl w σ s.M,u7 _,fun _=>.inl rfl,h.def0⟩
theorem St.join {s s':XS} {a':Act} {ds':List Deferred} (h:St ds ρ w0 σ0 M0 nx0 n s a w σ) (k:St ds' ρ w σ s.M s.nx n s' a' w' σ'):St ds' ρ w0 σ0 M0 nx0 n s' a' w' σ' :=
 ⟨k.envr,k.size,k.ok,k.free,h.ext.trans k.ext,aaT h.le k.le,fun j=>by
  rcases k.old j with e | e
  ·rw[e];exact h.old j
  exact .inr (aaT h.le e),k.def0⟩
def IK (P:Program) (ρ:aK) (Γ:cc) (call:fB) (n fuel:Nat) (c:Code):Prop :=
 ∀(fr:Option Nat) (iter:rT) (Y:Option (Nat×YH)) (B:Nat) (w0:World) (σ0:cb) (M0:Hp) (nx0:Nat),BO P ρ iter->(fr=none\/iter=kQ)->Nk P ρ w0 σ0 M0 nx0 Y->B<=w0.heap.size ->
  ∀(s:XS) (L:List (bg×XS)) (a:Act) (w:World) (σ:cb),js P Γ call iter Y n fuel c s=some L->Sm ρ B w0 σ0 M0 nx0 n s a w σ ->
   ∀Qm:Exit->Act->World->Prop,(∀r ∈ L,∀a' w' σ',Sm ρ B w0 σ0 M0 nx0 n r.2 a' w' σ'->Qm r.1.to a' w')->c.wpIn (FW fr) 0 P Qm a w
theorem uI:∀(ps:List Tmp) (args:List XV) (us:List Value) (env be:eX) (tmps:Array Value),qj n ps args env=some be->c_ ρ σ args us->fX ρ σ env tmps->tmps.size=n ->
 us.length=ps.length/\fX ρ σ be ((ps.zip us).foldl (fun tmps (t,a)=>tmps.setIfInBounds t a) tmps)/\((ps.zip us).foldl (fun tmps (t,a)=>tmps.setIfInBounds t a) tmps).size=n
 | [],[],us,env,be,tmps,h,hv,he,hs=>by simp only[qj,aat]at h;subst h;simp only[c_]at hv;subst hv;exact⟨rfl,he,hs⟩
 | [],_::_,us,env,be,tmps,h,hv,he,hs=>by simp[qj]at h
 | _::_,[],us,env,be,tmps,h,hv,he,hs=>by simp[qj]at h
 | p::ps,v::vs,us,env,be,tmps,h,hv,he,hs=>by
   simp only[qj]at h;split at h<;>(try (cases h;done))
   rename_i e1 h1;simp only[c_]at hv;obtain⟨u,us,rfl,g1,g2⟩:=hv;have:=fX.put (a:={ tmps:=tmps,defers:=[] }) he (d:=some p) (by rw[hs];exact h1) g1;obtain⟨q1,q2,q3⟩:=uI ps vs us e1 be (tmps.setIfInBounds p u) h g2 this (by simpa using hs);exact⟨by simp[q1],q2,q3⟩
theorem Fe {asg body:Code} (ha:IK P ρ Γ call n fuel asg) (hb:IK P ρ Γ call n fuel body) {fn:FuncId} {tmps:Array Value} {ps:Array Tmp} {D l:Nat} {s0:XS}
 (bI:fX ρ σ0 env tmps) (Ea:tmps.size=n) (hl:oB w0 σ0 M0 l (.loop { state:=.ready,pending:=none,fn,tmps,params:=ps,assign:=asg,body,defers:=D })) :
 R6 P ρ w0 σ0 M0 nx0 l { state:=.ready,pending:=none,fn,tmps,params:=ps,assign:=asg,body,defers:=D } (BZ (js P Γ call kQ none n fuel asg) (js P Γ call kQ none n fuel body) n ps.toList env):=by
 intro args M nx L h w σ us aQ ce mM jT j_;unfold BZ at h;split at h<;>(try (cases h;done))
 rename_i be he;split at h<;>(try (cases h;done))
 rename_i L1 T1;obtain⟨e1,e2,e3⟩:=uI ps.toList args us env be tmps he j_ (fun t v hv=>⟨(bI t v hv).1,(bI t v hv).2.mono mM.sig⟩) Ea;refine⟨by rw[e1];simp,fun fr=>?_⟩;refine roundIn_of_wpIn (F:=FW fr) (jh fr _) ?_;rw[Ng];have ez:((ps.zip us.toArray).foldl (fun tmps (t,a)=>tmps.setIfInBounds t a) tmps)=((ps.toList.zip us).foldl (fun tmps (t,a)=>tmps.setIfInBounds t a) tmps):=by rw[<-Array.foldl_toList];simp
 simp only[ez];have pG:=hl.ext mM;have aL:=pG.lt;refine ha (some l) kQ none (l+1) w σ M nx wg (.inr rfl) trivial aa ⟨be,M,nx⟩ L1 _ w σ T1 ⟨[],⟨e2,e3,aQ,ce,.refl w σ M,u7 _,fun _=>.inl rfl,rfl⟩,[],rfl,nodup_nil,fun _ h=>by cases h⟩ _ fun r hr a1 w1 σ1 ⟨Yp,bw,Bi⟩=>?_
 obtain⟨A,h1,h2⟩:=fo h r hr;cases mr:r.1 with
 | exit id=>rw[mr]at h1;cases h1
 | ret=>rw[mr]at h1;cases h1
 | normal =>
   rw[mr]at h1;simp only at h1;split at h1<;>(try (cases h1;done))
   rename_i L2 T2;have r1:=pG.ext bw.ext;refine⟨_,run_beginRound r1.here rfl,?_⟩;have s2:fV w1 σ1 r.2.M (w1.putObj l (.loop { state:=.busy,pending:=none,fn,tmps,params:=ps,assign:=asg,body,defers:=D })):=fV.putObj r1 rfl _;have r2:oB (w1.putObj l (.loop { state:=.busy,pending:=none,fn,tmps,params:=ps,assign:=asg,body,defers:=D })) σ1 r.2.M l (.loop { state:=.busy,pending:=none,fn,tmps,params:=ps,assign:=asg,body,defers:=D }):=r1.put;have bV:∀c,c≠l->(w1.putObj l (.loop { state:=.busy,pending:=none,fn,tmps,params:=ps,assign:=asg,body,defers:=D })).heap[c]?=w1.heap[c]?:=fun c hc=>aa0 hc
   generalize w1.putObj l (.loop { state:=.busy,pending:=none,fn,tmps,params:=ps,assign:=asg,body,defers:=D })=w2 at s2 r2 bV ⊢;have vj:=bw.ext.size;refine hb (some l) kQ none (l+1) w2 σ1 r.2.M r.2.nx wg (.inr rfl) trivial (by have:=r2.lt;omega) r.2 L2 a1 w2 σ1 T2 ⟨Yp,⟨bw.envr,bw.size,s2.ok bw.ok,bw.free,.refl _ _ _,u7 _,fun _=>.inl rfl,bw.def0⟩,?_⟩ _ fun r' sA a3 w3 σ3 ⟨ds3,gT,_⟩=>?_
   ·obtain⟨Ds,q1,q2,q3⟩:=Bi
    exact⟨Ds,q1,q2,fun D hD=>⟨(q3 D hD).1,(q3 D hD).2.side (bV D (by have:=(q3 D hD).1;omega))⟩⟩
   obtain⟨A',g1,g2⟩:=fo h1 r' sA;cases F8:r'.1 with
   | exit id=>rw[F8]at g1;cases g1
   | ret=>rw[F8]at g1;cases g1
   | normal =>
     rw[F8]at g1;cases g1;have r3:=r2.ext gT.ext;have s4:=fV.putObj r3 rfl (.loop { state:=.ready,pending:=none,fn,tmps,params:=ps,assign:=asg,body,defers:=D });refine⟨_,_,run_endRound none r3.here,rfl,(r'.2.M,r'.2.nx),h2 _ (g2 _ (aaE.2 rfl)),σ3,s4.ok gT.ok,?_,aaT bw.le gT.le,fun k=>?_⟩
     ·have RU:=s2.size
      have hz3:=gT.ext.size;refine⟨gT.ext.os.trans (s2.os.trans bw.ext.os),gT.ext.tape.trans (s2.tape.trans bw.ext.tape),gT.ext.output.trans (s2.output.trans bw.ext.output),ak,fun c hc sy=>?_,fun c hc=>?_,fun k p hp=>gT.ext.sig k p (bw.ext.sig k p hp),fun c hc=>?_⟩
      ·by_cases cF:c=l
       ·subst cF
        rw[pG.here];exact World.putObj_heap_same r3.lt
       have QY:¬ eB σ1 r.2.M c:=fun q=>by
        rcases bw.ext.own c q with q | q
        ·exact sy q
        omega
       refine(aa0 cF).trans ?_;rw[gT.ext.blk c aa QY,bV c cF,bw.ext.blk c hc sy]
      ·rcases gT.ext.own c hc with q | q
       ·exact bw.ext.own c q
       exact .inr aa
      rcases gT.ext.held c hc with q | q
      ·exact bw.ext.held c q
      exact .inr aa
     have CH:=gT.free k;have Uv:nx<=r.2.nx:=bw.le;have ZL:r.2.nx<=r'.2.nx:=gT.le;by_cases hk:r'.2.nx<=k;·left;rw[CH hk,ce k aa]
     rcases gT.old k with e | e
     ·rcases bw.old k with e' | e'
      ·left;rw[e,e']
      right;omega
     right;omega
theorem Ok.upd (aQ:Ok ρ w σ M) {key:Nat} (hf:σ key=none) (p:Nat×Nat):Ok ρ w (σ.upd key p) M/\zN w σ M w (σ.upd key p) M:=by
 have cf:∀k o,gG M k=some o->k≠key:=fun k o h e=>by obtain⟨q,hq,_⟩:=aQ.obj k o h;rw[e,hf]at hq;cases hq
 have hs:=cb.upd_sub hf p;have ext:zN w σ M w (σ.upd key p) M:=⟨rfl,rfl,rfl,u7 _,fun _ _ _=>rfl,fun b hb=>.inl (by
  obtain⟨k,o,q,h1,h2,h3⟩:=hb;rw[cb.upd_other _ _ (cf _ _ h1)]at h2;exact⟨k,o,q,h1,h2,h3⟩),hs,fun b hb=>.inl (by
  obtain⟨k,o,q,h1,h2,h3⟩:=hb;rw[cb.upd_other _ _ (cf _ _ h1)]at h2;exact⟨k,o,q,h1,h2,h3⟩)⟩
 refine Ok.mk' aQ ext (fun k o hk=>?_) (fun k k' o o' q q' h1 h2 iR h3 h4=>?_)
 ·obtain⟨q,hq,ho⟩:=aQ.obj k o hk
  exact⟨q,hs _ _ hq,OR.mono hs rfl ho⟩
 rw[cb.upd_other _ _ (cf _ _ h1)]at h3;rw[cb.upd_other _ _ (cf _ _ h2)]at h4;exact aQ.inj k k' o o' q q' h1 h2 iR h3 h4
theorem DF (hp:P.follows .mixedOrders=true) (hΓ:∀i op c b k,Γ i op c=some b->bj op k (ρ i) k c=some (.bool b)) (dW:i9 P ρ call):∀c,IK P ρ Γ call n fuel c:=by
 intro c
 induction c with
 | skip=>intro fr iter Y B w0 σ0 M0 nx0 hI h_ hY hB s L a w σ h hs Qm hQ;cases h;exact wpIn_skip (hQ _ (aaE.2 rfl) a w σ hs)
 | ret=>intro fr iter Y B w0 σ0 M0 nx0 hI h_ hY hB s L a w σ h hs Qm hQ;cases h;exact wpIn_ret (hQ _ (aaE.2 rfl) a w σ hs)
 | exit id=>intro fr iter Y B w0 σ0 M0 nx0 hI h_ hY hB s L a w σ h hs Qm hQ;cases h;exact wpIn_exit (hQ _ (aaE.2 rfl) a w σ hs)
 | region id ops draw =>
   intro fr iter Y B w0 σ0 M0 nx0 hI h_ hY hB s L a w σ h ⟨ds,hs,hk⟩ Qm hQ;exact Ey hp hΓ dW (hY.mono hs.ext hs.le) h hs.rebase fun r hr a' w' σ' bw=>hQ r hr a' w' σ' ⟨ds,hs.join bw,hk.ext bw.ext⟩
 | seq x y ihx ihy =>
   intro fr iter Y B w0 σ0 M0 nx0 hI h_ hY hB s L a w σ h hs Qm hQ;simp only[js]at h;split at h<;>(try (cases h;done))
   rename_i L' hL;refine wpIn_seq (ihx fr iter Y B w0 σ0 M0 nx0 hI h_ hY hB s L' a w σ hL hs _ fun r hr a' w' σ' bw=>?_);obtain⟨A,h1,h2⟩:=fo h r hr;cases mr:r.1 with
   | normal =>
     rw[mr]at h1;exact ihy fr iter Y B w0 σ0 M0 nx0 hI h_ hY hB r.2 A a' w' σ' h1 bw Qm fun r' sA=>hQ r' (h2 r' sA)
   | exit id =>
     rw[mr]at h1;cases h1;have:=hQ r (h2 r (aaE.2 rfl)) a' w' σ' bw;rw[mr]at this;exact this
   | ret =>
     rw[mr]at h1;cases h1;have:=hQ r (h2 r (aaE.2 rfl)) a' w' σ' bw;rw[mr]at this;exact this
 | cond c x y ihx ihy =>
   intro fr iter Y B w0 σ0 M0 nx0 hI h_ hY hB s L a w σ h hs Qm hQ;simp only[js]at h;have hv:VR ρ σ (cG s.env c) (a.eval c):=let ⟨_,bw,_⟩:=hs;bf bw.envr c
   split at h<;>(try (cases h;done))<;>rename_i hb<;>rw[hb]at hv<;>simp only[VR]at hv
   ·exact wpIn_cond_split hv (fun _=>ihx fr iter Y B w0 σ0 M0 nx0 hI h_ hY hB s L a w σ h hs Qm hQ) fun hf=>by cases hf
   exact wpIn_cond_split hv (fun hf=>by cases hf) fun _=>ihy fr iter Y B w0 σ0 M0 nx0 hI h_ hY hB s L a w σ h hs Qm hQ
 | block id c ih =>
   intro fr iter Y B w0 σ0 M0 nx0 hI h_ hY hB s L a w σ h hs Qm hQ;simp only[js]at h;split at h<;>(try (cases h;done))
   rename_i L' hL;cases h;refine wpIn_block (ih fr iter Y B w0 σ0 M0 nx0 hI h_ hY hB s L' a w σ hL hs _ fun r hr a' w' σ' bw=>?_);have:=hQ (Do id r) (ab6.2 ⟨r,hr,rfl⟩) a' w' σ';unfold Do at this;cases mr:r.1 with
   | normal =>
     rw[mr]at this;have:=this bw;rw[mr]at this;exact this
   | ret =>
     rw[mr]at this;have:=this bw;rw[mr]at this;exact this
   | exit i =>
     rw[mr]at this;simp only at this;simp only[bg.to,Exit.inBlock];cases hb:aaW i id with
     | true =>
       rw[if_pos (aaB hb)];rw[hb]at this;exact this bw
     | false =>
       rw[if_neg (adk hb)];rw[hb]at this;have:=this bw;rw[mr]at this;exact this
 | loop c ih =>
   intro fr iter Y B w0 σ0 M0 nx0 hI h_ hY hB s L a w σ h hs Qm hQ;simp only[js]at h;exact I5 (fun s L a w σ h hs Q hQ=>ih fr iter Y B w0 σ0 M0 nx0 hI h_ hY hB s L a w σ h hs Q hQ) h hs hQ
 | rangeFunc f ps asg body iha ihb =>
   intro fr iter Y B w0 σ0 M0 nx0 hI h_ hY hB s L a w σ h ⟨ds,hs,hk⟩ Qm hQ;simp only[js]at h;split at h<;>(try (cases h;done))
   rename_i g caps Jz;split at h<;>(try (cases h;done))
   rename_i L' hL;cases h;have h_:fr=none:=by
    rcases h_ with e | e
    ·exact e
    rw[e]at hL;cases hL
   subst h_;have hv:=bf hs.envr f;rw[Jz]at hv;simp only[VR,c_]at hv;obtain⟨us0,us,j_,CM,Jt⟩:=hv;have CM:us0 = #[]:=by apply abz;simpa using CM
   subst CM;refine wpIn_rangeFunc ?_;intro fc _;obtain⟨R,hR⟩:∃R:Loop,R = { state:=.ready,pending:=none,fn:=fc,tmps:=a.tmps,params:=ps,assign:=asg,body,defers:=w.heap.size }:=⟨_,rfl⟩;obtain⟨W1,Mo⟩:=aap ((w.alloc (.deferred (some []))).alloc (.loop R));have vj:(w.alloc (.deferred (some []))).heap.size=w.heap.size+1:=World.size_alloc ..;have s1:fV w σ s.M (w.alloc (.deferred (some []))):=fV.alloc hs.ok _;have Rd:=s1.ok hs.ok;have s2:fV (w.alloc (.deferred (some []))) σ s.M W1:=by rw[Mo];exact fV.alloc Rd _
   have d1:oB (w.alloc (.deferred (some []))) σ s.M w.heap.size (.deferred (some [])):=oB.new hs.ok _;have Yo:∀b,b<w.heap.size->(w.alloc (.deferred (some []))).heap[b]?=w.heap[b]?:=fun b hb=>by show (w.heap.push _)[b]?=_;rw[acx,if_neg aa]
   have TQ:∀b,b<w.heap.size+1->W1.heap[b]?=(w.alloc (.deferred (some []))).heap[b]?:=fun b hb=>by rw[Mo];show ((w.alloc _).heap.push _)[b]?=_;rw[acx,if_neg aa]
   have d2:oB W1 σ s.M w.heap.size (.deferred (some [])):=d1.side (TQ _ aa);have r2:oB W1 σ s.M (w.heap.size+1) (.loop R):=by have:=oB.new (o:=.loop R) Rd;rw[vj]at this;rw[Mo];exact this
   have x2:zN w σ s.M W1 σ s.M:=s2.ext (s1.ext (.refl _ _ _) fun b hb _=>Yo b hb) fun b hb _=>TQ b aa
   obtain⟨ok3,x3⟩:=(s2.ok Rd).upd (hs.free s.nx (u7 _)) (w.heap.size+1,0);have hσ1:∀k,s.nx+1<=k->(σ.upd s.nx (w.heap.size+1,0)) k=none:=fun k hk=>by rw[cb.upd_other _ _ aa];exact hs.free k aa
   have x13:=x2.trans x3;have r3:=r2.ext x3;have d3:=d2.ext x3;have aX:c_ ρ (σ.upd s.nx (w.heap.size+1,0)) (.yd s.nx::caps) (.func (.yield (w.heap.size+1)) #[] #[]::us.toList):=by simp only[c_,VR];exact⟨_,_,rfl,⟨_,_,cb.upd_same ..,rfl⟩,Jt.mono x13.sig⟩
   have Jy:fX ρ (σ.upd s.nx (w.heap.size+1,0)) s.env a.tmps:=fun t v hv=>⟨(hs.envr t v hv).1,(hs.envr t v hv).2.mono x13.sig⟩
   have Mz:=Fe (nx0:=s.nx+1) iha ihb (fn:=fc) (ps:=ps) (D:=w.heap.size) (s0:=s) Jy hs.size (by rw[<-hR];exact r3);rw[<-hR]at Mz;obtain⟨⟨fn,c,QK,Js,Su⟩,CG⟩:=hI g _ _ s.M (s.nx+1) L' hL W1 _ _ ok3 hσ1 aX ⟨w.heap.size+1,R,0,cb.upd_same ..,r3,Mz⟩;refine⟨w.heap.size+1,[nK w.heap.size],W1,{ target:=.fn (.func g) us,args:=#[.func (.yield (w.heap.size+1)) #[] #[]] },W1,g,#[.func (.yield (w.heap.size+1)) #[] #[]]++us,W1,?_,?_,fun f' _=>jh none f',?_,fun q=>(by rw[lD]at q;cases q),?_⟩;·rw[Mo,hR,mZ];exact run_enterLoop_outer _ _ _ _ _
   ·simp[resolve,j_,Deferred.ofValue]
    rfl
   ·simp only[invoke,callFunc,aav,run_program,aar,QK,Su,Js,isNone_some,aay,if_false,aaA]
   have ez:(#[.func (.yield (w.heap.size+1)) #[] #[]]++us:Array Value)=(.func (.yield (w.heap.size+1)) #[] #[]::us.toList).toArray:=by apply abz;simp
   rw[ez];refine CG.mono fun e w3 hq=>?_
   obtain⟨⟨v,rfl⟩,r,hr,σ',g1,g2,g3,g4⟩:=hq;have r4:=r3.ext g2;have s4:=fV.putObj r4 rfl (.loop { R with state:=.exhausted });have x4:=x13.trans g2;refine⟨none,w3.putObj (w.heap.size+1) (.loop { R with state:=.exhausted }),?_,?_⟩
   ·have Z0:R.pending=none:=by rw[hR]
    have hsr:R.state = .ready:=by rw[hR]
    have:=run_endLoop (P:=P) r4.here (by rw[hsr];simp);rw[this,Z0]
   refine hQ (.normal,⟨s.env,r.1,r.2⟩) (ab6.2 ⟨r,hr,rfl⟩) _ _ σ' ⟨nK w.heap.size::ds,⟨fun t v hv=>⟨(hs.envr t v hv).1,(hs.envr t v hv).2.mono x4.sig⟩,hs.size,s4.ok g1,fun k hk=>?_,?_,by have:=hs.le;simp only;omega,fun k=>?_,?_⟩,?_⟩
   ·simp only at hk
    rcases g4 k with e | e
    ·rw[e];exact hσ1 k aa
    omega
   ·have hz:=hs.ext.size
    exact s4.ext (hs.ext.trans x4) fun c hc _=>aa0 aa
   ·rcases g4 k with e | e
    ·by_cases hk:k=s.nx
     ·right;rw[hk];exact hs.le
     rw[e,cb.upd_other _ _ hk];exact hs.old k
    right;have:=hs.le;omega
   ·show [nK w.heap.size]++a.defers=_
    rw[hs.def0];rfl
   obtain⟨Ds,e1,e2,e3⟩:=hk;have aL:∀D ∈ Ds,D<w.heap.size:=fun D hD=>(e3 D hD).2.lt
   refine⟨w.heap.size::Ds,by rw[e1];rfl,nodup_cons.2 ⟨fun hm=>absurd (aL _ hm) aa,e2⟩,fun D hD=>?_⟩;have cf:D≠w.heap.size+1:=by
    rcases aaK.1 hD with rfl | hD
    ·omega
    have:=aL D hD;omega
   have hzw:=hs.ext.size;rcases aaK.1 hD with rfl | hD
   ·exact⟨aa,(d3.ext g2).side (aa0 cf)⟩
   exact⟨(e3 D hD).1,((e3 D hD).2.ext x4).side (aa0 cf)⟩
 | scope b _=>intro fr iter Y B w0 σ0 M0 nx0 hI h_ hY hB s L a w σ h;simp[js]at h
 | label l=>intro fr iter Y B w0 σ0 M0 nx0 hI h_ hY hB s L a w σ h;simp[js]at h
 | goto l=>intro fr iter Y B w0 σ0 M0 nx0 hI h_ hY hB s L a w σ h;simp[js]at h
 | refuse y=>intro fr iter Y B w0 σ0 M0 nx0 hI h_ hY hB s L a w σ h;simp[js]at h
end
section
variable {P:Program} {a:Act} {w w' w0:World} {ρ:aK} {σ σ' σ0:cb} {M N M' M0:Hp} {Γ:cc} {call:fB} {env be:eX} {ds:List Deferred} {nx0 n nx:Nat}
theorem wJ:∀(vs:List XV) (i:Nat) (env:eX) (t:Nat),gG (cz vs i env) t=if i<=t/\t<i+vs.length then vs[t - i]? else gG env t
 | [],i,env,t=>by simp[cz];intro h1 h2;omega
 | v::vs,i,env,t=>by
   simp only[cz,wJ vs (i+1),ap,aaw];by_cases h:i+1<=t/\t<i+1+vs.length
   ·rw[if_pos h,if_pos aa]
    rw[show t - i=(t - (i+1))+1 by omega];rfl
   rw[if_neg h];by_cases h2:i=t
   ·subst h2
    rw[if_pos rfl,if_pos aa];simp
   rw[if_neg h2,if_neg aa]
theorem Am {s:XS} (aQ:Ok ρ w σ s.M) (bI:fX ρ σ s.env a.tmps):∀(rs:List ResultVar) (vs:List XV),cB P s rs=some vs ->
 ∃us,c_ ρ σ vs us/\∀g:ResultVar->Sem Value,(∀t,g (.tmp t)=pure (a.tmps.getD t undef))->(∀b t,g (.cell b t)=do loadVar t (<-asAddr (a.tmps.getD b undef)))->(rs.mapM g).run P w = .ok us w
 | [],vs,h=>by simp only[cB,aat]at h;subst h;exact⟨[],by simp only[c_],fun _ _ _=>rfl⟩
 | r::rs,vs,h=>by
   unfold cB at h;split at h<;>(try (cases h;done))
   rename_i v h1;split at h<;>(try (cases h;done))
   rename_i vs' h2;cases h;obtain⟨us,e2,e1⟩:=Am aQ bI rs vs' h2;have one:∃u,VR ρ σ v u/\∀g:ResultVar->Sem Value,(∀t,g (.tmp t)=pure (a.tmps.getD t undef))->(∀b t,g (.cell b t)=do loadVar t (<-asAddr (a.tmps.getD b undef)))->(g r).run P w = .ok u w:=by
    unfold gx at h1;split at h1
    ·rename_i t
     exact⟨_,(bI t v h1).2,fun g q _=>by rw[q];rfl⟩
    rename_i b t;split at h1<;>(try (cases h1;done))
    rename_i x hb;split at h1<;>(try (cases h1;done))
    rename_i e hl;cases h1;have hv:=(bI b x hb).2;obtain⟨u,g1,g2,_⟩:=Ay (P:=P) aQ hl hv;refine⟨u,g2,fun g _ q=>?_⟩;rw[q];have hx:∃ad,a.tmps.getD b undef = .pointer (some ad):=by
     unfold b_ at hl;split at hl<;>(try (cases hl;done))
     simp only[VR]at hv;obtain⟨_,_,_,h⟩:=hv;exact⟨_,h⟩
    obtain⟨ad,hx⟩:=hx;rw[hx]at g1 ⊢;simpa [Instr.loadAt,Instr.sureAddr,asAddr] using g1
   obtain⟨u,g2,g1⟩:=one;refine⟨u::us,?_,fun g q1 q2=>?_⟩
   ·simp only[c_]
    exact⟨u,us,rfl,g2,e2⟩
   simp only[mapM_cons,aav,g1 g q1 q2,aar,e1 g q1 q2,aaA]
def Dt (P:Program) (ρ:aK) (ext:Bw):Prop :=
 ∀(g:Nat) (args:List XV) (M:Hp) (v:XV),ext g args M=some v->∀(w:World) (σ:cb) (vs:List Value),Ok ρ w σ M->c_ ρ σ args vs ->
  ∀(o:Oper) (a:Act) (K:Act->World->Prop) (Q:Exit->Act->World->Prop),(∀u w',VR ρ σ v u->Ok ρ w' σ M->zN w σ M w' σ M->K (a.put o.dst u) w')->o.upon P a K Q ((callFunc g vs.toArray).run P w)
theorem Dt.or {e1 e2:Bw} (h1:Dt P ρ e1) (h2:Dt P ρ e2):Dt P ρ fun g args M=>match e1 g args M with | some v=>some v | none=>e2 g args M:=by
 intro g args M v h;simp only at h;split at h
 ·rename_i v' hv
  cases h;exact h1 g args M _ hv
 exact h2 g args M v h
theorem rY {fn:Func} {tmps:Array Value} {R:Ending->World->Prop}:∀(Ds:List Nat) (w:World),Ok ρ w σ M->Ds.Nodup->(∀D ∈ Ds,oB w σ M D (.deferred (some []))) ->
 (∀w',fV w σ M w'->(∀b,b ∉ Ds->w'.heap[b]?=w.heap[b]?)->∃v,(results fn tmps).run P w' = .ok v w'/\R (.returned v) w')->LeavesInM (FW none) 0 P fn tmps R (Ds.map nK) .returning w
 | [],w,_,_,_,h=>h w ⟨rfl,rfl,rfl,u7 _,fun _ _=>rfl,fun _ _ _ _=>rfl⟩ fun _ _=>rfl
 | D::Ds,w,aQ,hd,hD,h=>by
   have h0:=hD D aaC;have hn:=nodup_cons.1 hd;have s:fV w σ M (w.putObj D (.deferred none)):=fV.putObj h0 rfl _;refine⟨af,.inl ⟨D,w.putObj D (.deferred none),rfl,run_takeDeferred h0.here,?_⟩⟩;refine rY Ds _ (s.ok aQ) hn.2 (fun E hE=>(hD E (aaJ _ hE)).side (aa0 (fun q=>hn.1 (by rw[<-q];exact hE)))) fun w' hs hb=>?_
   refine h w' (s.trans hs) fun b jw=>?_
   simp only[aaK,not_or]at jw;exact(hb b jw.2).trans (aa0 jw.1)
theorem qk (aQ:Ok ρ w σ M) (ce:∀k,nx<=k->σ k=none) (aX:c_ ρ σ args vs) :
 Sm ρ w.heap.size w σ M nx (args.length+(m - args.length)) ⟨cz args 0 .nil,M,nx⟩ { tmps:=vs.toArray++adp (m - vs.toArray.size) undef,defers:=[] } w σ:=by
 have ay:=aX.length;refine⟨[],⟨fun t v hv=>?_,by simp[ay],aQ,ce,.refl w σ M,u7 _,fun _=>.inl rfl,rfl⟩,[],rfl,nodup_nil,fun _ h=>by cases h⟩;simp only[wJ,zero_le,true_and,aaU,Nat.sub_zero,jR]at hv;split at hv
 ·rename_i ht
  obtain⟨u,g1,g2⟩:=aX.get hv;have aL:t<vs.length:=aa;refine⟨ak,?_⟩;simp only[abb];rw[Array.getElem?_append_left (by simpa using aL)];simp only[abf,g1,getD_some];exact g2
 cases hv
theorem ue {R:Ending->World->Prop} {s:XS} {vs:List XV} (hm:Sm ρ w0.heap.size w0 σ0 M0 nx0 n s a w σ) (ce:∀k,nx0<=k->σ0 k=none) (CR:cB P s fn.results.toList=some vs)
 (hR:∀v w' σ',VR ρ σ' (cR vs) v->Ok ρ w' σ' s.M->zN w0 σ0 M0 w' σ' s.M->nx0<=s.nx->(∀k,σ' k=σ0 k\/(nx0<=k/\k<s.nx))->R (.returned v) w'):LeavesInM (FW none) 0 P fn a.tmps R a.defers .returning w:=by
 obtain⟨ds,bw,Ds,e1,e2,e3⟩:=hm;rw[bw.def0,e1];refine rY Ds w bw.ok e2 (fun D hD=>(e3 D hD).2) fun w' hs xj=>?_
 have aQ:=hs.ok bw.ok;obtain⟨us,g2,g1⟩:=Am (P:=P) aQ bw.envr _ _ CR;have j_:=g2.length;obtain⟨v,g3,g4⟩:∃v,(results fn a.tmps).run P w' = .ok v w'/\VR ρ σ (cR vs) v:=by
  refine⟨if h:us.toArray.size=1 then us.toArray[0] else .tuple us.toArray,?_,?_⟩
  ·simp only[results,aav,Array.mapM_eq_mapM_toList,Sem.run_map]
   rw[g1 _ (fun _=>rfl) (fun _ _=>rfl)];rfl
  cases vs with
  | nil =>
    cases us with
    | nil=>simp only[cR,VR];exact⟨#[],af,by simp only[c_]⟩
    | cons u us=>simp at j_
  | cons v vs' =>
    cases vs' with
    | nil =>
      simp only[c_]at g2;obtain⟨u,us',rfl,h1,rfl⟩:=g2;simpa [cR] using h1
    | cons v2 vs' =>
      have cf:¬ us.toArray.size=1:=by simp;simp at j_;omega
      rw[dif_neg cf];simp only[cR,VR];exact⟨us.toArray,rfl,g2⟩
 refine⟨v,g3,hR v w' σ g4 aQ (hs.ext bw.ext fun c hc _=>xj c fun hm=>by have:=(e3 c hm).1;omega) bw.le fun k=>?_⟩;rcases bw.old k with e | e
 ·exact .inl e
 by_cases hk:k<s.nx;·exact .inr ⟨e,hk⟩
 left;rw[bw.free k aa,ce k e]
theorem C4 (hp:P.follows .mixedOrders=true) (U0:∀(g:Nat) (fn:Func),P.funcs[g]?=some fn->(fn.name == "runtime.NumGoroutine")=false) (hΓ:∀i op c b k,Γ i op c=some b->bj op k (ρ i) k c=some (.bool b)) {ext:Bw} (mM:Dt P ρ ext) {fuel:Nat} :
 ∀d,i9 P ρ (zM P Γ ext fuel d).1/\BO P ρ (zM P Γ ext fuel d).2
 | 0=>⟨fun g args M nx L h=>by simp[zM]at h,fun g args Y M nx L h=>by simp[zM,kQ]at h⟩
 | d+1=>by
   obtain⟨ih1,ih2⟩:=C4 hp U0 hΓ mM (fuel:=fuel) d;refine⟨?_,?_⟩
   ·intro g args M nx L h w σ vs aQ ce aX o a K Q hK
    simp only[zM,Iw]at h;split at h
    ·rename_i v hv
     cases h;exact mM g args M v hv w σ vs aQ aX o a K Q fun u w' q1 q2 q3=>hK u w' ⟨_,aaE.2 rfl,σ,q1,q2,q3,u7 _,fun _=>.inl rfl⟩
    split at h<;>(try (cases h;done))
    rename_i fn hf;split at h<;>(try (cases h;done))
    rename_i c hb;split at h<;>(try (cases h;done))
    rename_i L' hL;have gy:(callFunc g vs.toArray).run P w = .ok (.enter g vs.toArray) w:=by simp only[callFunc,aav,run_program,aar,hf,U0 g fn hf,hb,isNone_some,aay,if_false,aaA]
    rw[gy];show Calls P g vs.toArray w _;refine(callsIn_wide (n:=0)).1 ?_;refine callsIn_of_wp_marks (F:=FW none) hf hb (jh none _) ?_;refine DF hp hΓ ih1 c none _ none w.heap.size w σ M nx ih2 (.inl rfl) trivial (u7 _) _ L' _ w σ hL (qk aQ ce aX) _ fun r hr a' w' σ' kU=>?_
    obtain⟨A,h1,h2⟩:=fo h r hr;have fin:(match cB P r.2 fn.results.toList with | some vs=>some [(cR vs,r.2.M,r.2.nx)] | none=>none)=some A->LeavesInM (FW none) 0 P fn a'.tmps (fun
     | .returned v,w''=>K (a.put o.dst v) w''
     | .panicked chain,w''=>Q (.panic chain) a w''
     | .outgrown,_=>LetsOut Q) a'.defers .returning w':=by
     intro hA;split at hA<;>(try (cases hA;done))
     rename_i vs' CR;cases hA;exact ue kU ce CR fun v w'' σ'' q1 q2 q3 q4 q5=>hK v w'' ⟨_,h2 _ (aaE.2 rfl),σ'',q1,q2,q3,q4,q5⟩
    cases mr:r.1 with
    | normal =>
      unfold L_ at h1;rw[mr]at h1;exact fin h1
    | ret =>
      unfold L_ at h1;rw[mr]at h1;exact fin h1
    | exit id =>
      unfold L_ at h1;rw[mr]at h1;cases h1
   intro g args Y M nx L h w σ vs aQ ce aX hY;simp only[zM,Iw]at h;split at h<;>(try (cases h;done))
   rename_i fn hf;split at h<;>(try (cases h;done))
   rename_i c hb Z5;split at h<;>(try (cases h;done))
   rename_i L' hL;refine⟨⟨fn,c,hf,hb,U0 g fn hf⟩,?_⟩;refine callsIn_of_wp_marks (F:=FW none) hf hb (jh none _) ?_;refine DF hp hΓ ih1 c none _ (some Y) w.heap.size w σ M nx ih2 (.inl rfl) hY (u7 _) _ L' _ w σ hL (qk aQ ce aX) _ fun r hr a' w' σ' kU=>?_
   obtain⟨A,h1,h2⟩:=fo h r hr;have fin:some [(r.2.M,r.2.nx)]=some A->LeavesInM (FW none) 0 P fn a'.tmps (fun e w'=>(∃v,e = .returned v)/\∃r ∈ L,∃σ',Ok ρ w' σ' r.1/\zN w σ M w' σ' r.1/\nx<=r.2/\∀k,σ' k=σ k\/(nx<=k/\k<r.2)) a'.defers .returning w':=by intro hA;cases hA;exact ue (vs:=[]) kU ce (by rw[Z5];rfl) fun v w'' σ'' _ q2 q3 q4 q5=>⟨⟨v,rfl⟩,_,h2 _ (aaE.2 rfl),σ'',q2,q3,q4,q5⟩
   cases mr:r.1 with
   | normal=>rw[mr]at h1;exact fin h1
   | ret=>rw[mr]at h1;exact fin h1
   | exit id=>rw[mr]at h1;cases h1
theorem LH (hp:P.follows .mixedOrders=true) (U0:∀(g:Nat) (fn:Func),P.funcs[g]?=some fn->(fn.name == "runtime.NumGoroutine")=false) (hΓ:∀i op c b k,Γ i op c=some b->bj op k (ρ i) k c=some (.bool b)) {ext:Bw} (mM:Dt P ρ ext) (d:Nat) :
 i9 P ρ (Ty P Γ ext fuel d):=(C4 hp U0 hΓ mM d).1
end
def FU (c:Nat):List Nat->Nat
 | []=>0
 | b::s=>match aaW b c with | true=>FU c s+1 | false=>FU c s
def BW (c:Nat):List Nat->Nat->Int
 | [],_=>-1
 | b::s,i=>match aaW b c with | true=>.ofNat i | false=>BW c s (i+1)
def KD (cnt idx:Nat):Bw:=fun g args _ =>
 match args with
 | [.str s,.int .u8 (.ofNat c)]=>match abc c 256 with
   | true=>match aaW g cnt with
     | true=>some (.int .i64 (.ofNat (FU c s)))
     | false=>match aaW g idx with
       | true=>some (.int .i64 (BW c s 0))
       | false=>none
   | false=>none
 | _=>none
theorem HG {b:UInt8} {c:Nat} (hc:c<256):(b==c.toUInt8)=aaW b.toNat c:=by
 have ht:c.toUInt8.toNat=c:=by simp[mod_eq_of_lt hc]
 cases h:aaW b.toNat c with
 | true =>
   have:=aaB h;rw[beq_iff_eq,<-UInt8.toNat_inj,ht,this]
 | false =>
   have:=adk h;rw[beq_eq_false_iff_ne];rintro rfl;exact this ht
theorem Il {c:Nat} (hc:c<256):∀l:List UInt8,Lib.countByte l c.toUInt8=FU c (l.map fun b=>b.toNat)
 | []=>rfl
 | b::l=>by have ih:=Il hc l;unfold Lib.countByte at ih ⊢;simp only[count_cons,aa3,FU,ih,HG hc];cases aaW b.toNat c<;>simp
theorem Jc {c:Nat} (hc:c<256):∀(l:List UInt8) (i:Nat),BW c (l.map fun b=>b.toNat) i=if abC l c.toUInt8 = -1 then -1 else abC l c.toUInt8+i
 | [],i=>by simp[BW,abC]
 | b::l,i=>by
   simp only[aa3,BW,abC,HG hc,Jc hc l (i+1)];cases aaW b.toNat c with
   | true=>simp
   | false =>
     have:=Lib.indexByte_ge l c.toUInt8;by_cases h:abC l c.toUInt8 = -1;·simp[h]
     have h2:¬ abC l c.toUInt8+1 = -1:=aa;simp only[h,if_false,beq_iff_eq,aay,h2];omega
theorem K7 {cnt idx:Nat}
 (h1:∃fn,P.funcs[cnt]?=some fn/\fn.body.isNone=true/\(fn.name == "runtime.NumGoroutine")=false/\Extern.findNext fn=none/\Extern.find fn=some adi)
 (h2:∃fn,P.funcs[idx]?=some fn/\fn.body.isNone=true/\(fn.name == "runtime.NumGoroutine")=false/\Extern.findNext fn=none/\Extern.find fn=some Extern.BytealgIndexByte.indexByte):Dt P ρ (KD cnt idx):=by
 intro g args M v h w σ vs aQ CR o a K Q hK;unfold KD at h;split at h<;>(try (cases h;done))
 rename_i s c;split at h<;>(try (cases h;done))
 rename_i hc;have hc:c<256:=by simpa using hc
 simp only[c_,VR]at CR;obtain⟨u1,us,rfl,⟨t,rfl,ht⟩,u2,us2,rfl,rfl,rfl⟩:=CR;have jY:(Int.ofNat c).toNat.toUInt8=c.toUInt8:=rfl;split at h
 ·rename_i hg
  cases h;have:=aaB hg;subst this;obtain⟨fn,hf,hb,q1,q2,q3⟩:=h1;have:=hK (.int .i64 (FU c s:Nat)) w (by simp only[VR];rfl) aQ (.refl w σ M);rw[run_callFunc_extern hf q1 hb q2 q3,Lib.run_countString,jY,Il hc,ht];exact this
 split at h<;>(try (cases h;done))
 rename_i hg;cases h;have:=aaB hg;subst this;obtain⟨fn,hf,hb,q1,q2,q3⟩:=h2;have:=hK (.int .i64 (BW c s 0)) w (by simp only[VR]) aQ (.refl w σ M);have e:(if abC t.data.toList c.toUInt8 = -1 then -1 else abC t.data.toList c.toUInt8+((0:Nat):Int))=abC t.data.toList c.toUInt8:=by
  split<;>rename_i h
  ·exact h.symm
  simp
 have e2:BW c s 0=abC t.data.toList c.toUInt8:=by rw[<-ht,Jc hc];exact e
 rw[run_callFunc_extern hf q1 hb q2 q3,Lib.run_indexByteString,jY,<-e2];exact this
section
open Go.RowKit
def Vh:cb:=fun _=>none
theorem GU {w:World} (h:∀b x,ρ.fix b=some x->w.heap[b]?=some (.cells x.1 x.2.1 x.2.2)):Ok ρ w Vh .nil :=
 ⟨fun k o h=>by simp[jR]at h,fun k k' o o' p p' h=>by simp[jR]at h,fun b x hb=>⟨h b x hb,fun⟨k,o,p,q,_⟩=>by simp[jR]at q⟩⟩
theorem Aw {M0:Hp} {σ0:cb} {w:World}
 (h:∀(o:Oper) (a:Act) (K:Act->World->Prop) (Q:Exit->Act->World->Prop),(∀v w',(∃r,R r/\cK ρ w σ0 M0 nx r v w')->K (a.put o.dst v) w')->o.upon P a K Q ((callFunc f vs.toArray).run P w))
 (h1:P.funcs[f]?=some fn) (h2:(fn.name == "runtime.NumGoroutine")=false) (h3:fn.body.isNone=false) :
 Calls P f vs.toArray w fun e w'=>∃v r,e = .returned v/\R r/\cK ρ w σ0 M0 nx r v w':=by
 have h:=h { (default:Oper) with dst:=some 0 } { tmps:=#[undef],defers:=[] } (fun a w'=>∃r,R r/\cK ρ w σ0 M0 nx r (a.tmps.getD 0 undef) w') (fun _ _ _=>False) (fun v w' hh=>by simpa [Act.put] using hh);have gy:(callFunc f vs.toArray).run P w = .ok (.enter f vs.toArray) w:=by simp only[callFunc,aav,run_program,aar,h1,h2,h3,aay,if_false,aaA]
 rw[gy]at h;refine Calls.mono h fun e w' he=>?_
 cases e with
 | returned v =>
   obtain⟨r,g1,g2⟩:=he;simp only[Act.put]at g2;exact⟨v,r,rfl,g1,by simpa using g2⟩
 | panicked ch=>exact he.elim
 | outgrown=>obtain⟨_,_,q⟩:=he;exact q.elim
theorem mV (h:(P.funcs.toList.all fun fn=>!(fn.name == "runtime.NumGoroutine"))=true):∀(g:Nat) (fn:Func),P.funcs[g]?=some fn->(fn.name == "runtime.NumGoroutine")=false:=fun g fn hf=>by have:=aa4.1 h fn (by rw[<-aaQ]at hf;exact aaH hf);simpa using this
theorem GX {σ:cb} {w w':World} (h:Below w.heap.size w w') (aQ:Ok ρ w σ M):Ok ρ w' σ M/\zN w σ M w' σ M:=by have e:zN w σ M w' σ M:=⟨h.os,h.tape,h.output,h.size,fun b hb _=>h.block b hb,fun _ q=>.inl q,fun _ _ q=>q,fun _ q=>.inl q⟩;refine Ok.mk' aQ e (fun k o hk=>?_) aQ.inj;obtain⟨p,hp,ho⟩:=aQ.obj k o hk;exact⟨p,hp,OR.mono (fun _ _ q=>q) (h.block _ ho.lt) ho⟩
theorem Bp {σ:cb} {w:World} {f:FuncId} {vs:Array Value} {u:Value} (aQ:Ok ρ w σ M) (h1:P.funcs[f]?=some fn) (h2:(fn.name == "runtime.NumGoroutine")=false) (h3:fn.body.isNone=false)
 (h:Calls P f vs w fun e w'=>e = .returned u/\Below w.heap.size w w') (hv:VR ρ σ v u) {o:Oper} {a:Act} {K:Act->World->Prop} {Q:Exit->Act->World->Prop} (hK:∀u w',VR ρ σ v u->Ok ρ w' σ M->zN w σ M w' σ M->K (a.put o.dst u) w') :
 o.upon P a K Q ((callFunc f vs).run P w):=by
 have gy:(callFunc f vs).run P w = .ok (.enter f vs) w:=by simp only[callFunc,aav,run_program,aar,h1,h2,h3,aay,if_false,aaA]
 rw[gy];refine Calls.mono h fun e w' he=>?_
 obtain⟨rfl,hb⟩:=he;obtain⟨q1,q2⟩:=GX hb aQ;exact hK u w' hv q1 q2
end
def lC (ops:List Oper) (i:Nat):Bool:=(aa7 ops.length).all fun j=>abc j i||(aa7 i).all fun k=>db (T_ ops j) k
theorem v8 (h:lC ops i=true) {j k:Nat} (hj:j<ops.length) (eS:i<=j) (hk:k<i):db (T_ ops j) k=true:=by
 have:=aa4.1 h j (ady.2 hj);rw[ab0]at this;rcases this with h | h
 ·rw[abD]at h;omega
 exact aa4.1 h k (ady.2 hk)
section
variable {P:Program} {a:Act} {w w' w0:World} {ρ:aK} {σ σ' σ0:cb} {M N M' M0:Hp} {Γ:cc} {call:fB} {env be:eX} {ds:List Deferred} {nx0 n:Nat} {fr:Option Nat}
def cnt (ops:List Oper) (listed:Array Bool):Nat:=((aa7 ops.length).filter fun i=>!dn listed i).length
theorem DU (hi:i<ops.length) (hd:dn listed i=false):0<cnt ops listed :=
 length_pos_of_mem (a:=i) (by simp[hi,hd])
theorem Dn (cJ:listed.size=ops.length) (hi:i<ops.length) (hd:dn listed i=false):cnt ops (listed.setIfInBounds i true)<cnt ops listed:=by
 have pF:dn (listed.setIfInBounds i true)=fun j=>dn listed j||decide (j=i):=funext fun j=>xM aa j
 exact rc (l:=aa7 ops.length) (p:=fun j=>!dn listed j) (q:=fun j=>!dn (listed.setIfInBounds i true) j) (fun j _ hj=>by rw[pF]at hj;simp at hj ⊢;exact hj.1) ⟨i,by simp[hi],by simp[hd],by rw[pF];simp⟩
theorem tW (he:jq ops=true) (cJ:listed.size=ops.length):abm .any ops.toArray listed=[]->∀i,i<ops.length->dn listed i=true:=by
 intro hr i
 induction i using adv with
 | _ i ih =>
   intro hi;cases hd:dn listed i with
   | true=>rfl
   | false =>
     have ho:ops[i]?=some ops[i]:=by simp[hi]
     have:i ∈ abm .any ops.toArray listed:=(gg cJ).2 ⟨_,ho,hd,fun e hm=>ih e (cg he ho e hm) (by have:=cg he ho e hm;omega)⟩;rw[hr]at this;cases this
theorem EK (hΓ:∀i op c b k,Γ i op c=some b->bj op k (ρ i) k c=some (.bool b)) (dW:i9 P ρ call) {base top i0 i1:Nat} {Q:Exit->Act->World->Prop} {xs:List iA} {s0:PS}
 (he:jq ops=true) (cw:ko ops=true) (yP:g_ ops (sI xs 0 [])=true) (ay:xs.length=i1) (hi1:i1<=ops.length) (Uc:i1=ops.length\/lC ops i1=true)
 (Zi:∀(j:Nat) (o:Oper) (x:iA),ops[j]?=some o->xs[j]?=some x->∀t,x.dst=some t->o.dst=some t)
 (qA:∀j o x,i0<=j->ops[j]?=some o->xs[j]?=some x->Gv P ρ Γ call ops o x (cI (fun _=>true) (xs.take j) 0 s0))
 (ef:fU base xs top) (V9:nx0<=base) (pF:∀x ∈ xs,∀t,x.dst=some t->t<n)
 (hQ:∀fuel listed a' w' σ',listed.size=ops.length->(∀j,dn listed j=decide (j<i1))->cnt ops listed<=fuel->Sd ds ρ w0 σ0 M0 nx0 n (cI (fun _=>true) xs 0 s0) a' w' σ'->(∀k,top<=k->σ' k=none)->wpAnyIn (FW fr) 0 P .any ops.toArray Q fuel listed a' w') :
 ∀(fuel:Nat) (listed:Array Bool) (a:Act) (w:World) (σ:cb),listed.size=ops.length->cnt ops listed<=fuel->(∀j,j<i0->dn listed j=true)->(∀j,i1<=j->dn listed j=false) ->
  lW ops (dn listed)->Sd ds ρ w0 σ0 M0 nx0 n (cI (dn listed) xs 0 s0) a w σ->(∀k,base<=k->(∀(i:Nat) (x:iA),xs[i]?=some x->dn listed i=true->¬ (x.lo<=k/\k<x.hi))->σ k=none) ->
  wpAnyIn (FW fr) 0 P .any ops.toArray Q fuel listed a w:=by
 intro fuel
 induction fuel with
 | zero =>
   intro listed a w σ cJ yH h0 h1 cF hs hf;have dy:∀j,dn listed j=decide (j<i1):=by
    intro j;by_cases hj:j<i1
    ·cases hd:dn listed j with
     | true=>simp[hj]
     | false=>have:=DU (ops:=ops) aa hd;omega
    rw[h1 j aa];simp[hj]
   refine hQ 0 listed a w σ cJ dy yH ?_ fun k hk=>hf k (by have:=ef.le;omega) fun i x hx _=>by have:=ef.get hx;omega
   rw[<-jI (S:=dn listed) xs 0 s0 (fun j hj=>by rw[aaU,dy];simp;omega)];exact hs
 | succ fuel ih =>
   intro listed a w σ cJ yH h0 h1 cF hs hf;by_cases Jv:∀j,j<i1->dn listed j=true
   ·have dy:∀j,dn listed j=decide (j<i1):=by
     intro j;by_cases hj:j<i1;·rw[Jv j hj];simp[hj]
     rw[h1 j aa];simp[hj]
    refine hQ _ listed a w σ cJ dy yH ?_ fun k hk=>hf k (by have:=ef.le;omega) fun i x hx _=>by have:=ef.get hx;omega
    rw[<-jI (S:=dn listed) xs 0 s0 (fun j hj=>by rw[aaU,dy];simp;omega)];exact hs
   refine⟨fun hr=>(Jv fun j hj=>tW he cJ hr j aa).elim,fun i hi=>?_⟩;obtain⟨o,ho,hd,uX⟩:=(gg cJ).1 hi;have uT:i<ops.length:=(aaq.1 ho).1;have dstOf:∀(j:Nat) (y:iA) (o':Oper),xs[j]?=some y->ops[j]?=some o'->∀t,y.dst=some t->o'.dst=some t:=fun j y o' h1 h2=>Zi j o' y h2 h1
   have opOf:∀(j:Nat) (y:iA),xs[j]?=some y->∃o',ops[j]?=some o':=fun j y h=>⟨ops[j]'(by have:=(aaq.1 h).1;omega),af⟩
   have ahead:∀j,db (T_ ops i) j=true->j=i\/dn listed j=true:=fun j hj=>ea cF (fun o' iP e hm=>by rw[ho]at iP;cases iP;exact uX e hm) hj
   have Uq:i<i1:=by
    refine Nat.lt_of_not_le fun jT=>Jv fun j hj=>?_
    rcases Uc with hb | hb
    ·omega
    rcases ahead j (v8 hb uT jT hj) with h | h
    ·omega
    exact h
   obtain⟨x,hx⟩:∃x,xs[i]?=some x:=⟨xs[i],by simp[ay,Uq]⟩;have AW:i0<=i:=adn fun h=>by rw[h0 i h]at hd;cases hd
   have behind:∀j,dn listed j=true->db (T_ ops j) i=true->j=i:=fun j hj hn=>by
    rcases ea (j:=j) cF (fun o' iP=>cF j o' iP hj) hn with h | h
    ·exact h.symm
    rw[hd]at h;cases h
   have clashed:∀(j:Nat) (y:iA) (o':Oper),xs[j]?=some y->ops[j]?=some o'->j≠i->(j<i->mF ops o' o=true)->(i<j->mF ops o o'=true)->dn listed j=decide (j<i):=by
    intro j y o' hj iP cf c1 c2;by_cases aL:j<i
    ·rcases ahead j (gp cw iP ho aL (c1 aL)) with h | h
     ·exact(cf h).elim
     rw[h];simp[aL]
    cases hS:dn listed j with
    | false=>simp[aL]
    | true=>exact(cf (behind j hS (gp cw ho iP aa (c2 aa)))).elim
   have keyed:∀(j:Nat) (y:iA),xs[j]?=some y->j≠i->¬ qM (if j<i then (i,x.rd,bM x.upd) else (j,y.rd,bM y.upd)) (if j<i then (j,y.rd,bM y.upd) else (i,x.rd,bM x.upd))->dn listed j=decide (j<i):=by
    intro j y hj cf dX;by_cases aL:j<i
    ·rw[if_pos aL,if_pos aL]at dX
     have:=lE xs 0 [] yP j i y x hj hx aL;simp only[aaU]at this;rcases this with h | h | h
     ·exact(dX h).elim
     ·have ZM:i<=j:=by
       obtain⟨o',iP⟩:=opOf j y hj;have hc:lW ops (fun e=>decide (e<j)):=fun i' o2 bJ h2 e hm=>by have:=cg he bJ e hm;simp at h2 ⊢;omega
       rcases ea (j:=j) hc (fun o2 bJ e hm=>by have:=cg he bJ e hm;simpa using this) h with h | h
       ·omega
       simp at h;omega
      omega
     rcases ahead j h with h | h
     ·exact(cf h).elim
     rw[h];simp[aL]
    rw[if_neg aL,if_neg aL]at dX;have:=lE xs 0 [] yP i j x y hx hj aa;simp only[aaU]at this;cases hS:dn listed j with
    | false=>simp[aL]
    | true =>
      rcases this with h | h | h
      ·exact(dX h).elim
      ·rcases ahead j h with h | h
       ·exact(cf h).elim
       have hc:lW ops (fun e=>decide (e<i)):=fun i' o2 bJ h2 e hm=>by have:=cg he bJ e hm;simp at h2 ⊢;omega
       rcases ea (j:=i) hc (fun o2 bJ e hm=>by have:=cg he bJ e hm;simpa using this) ‹_› with h | h
       ·omega
       simp at h;omega
      exact(cf (behind j hS h)).elim
   have bw:Gv P ρ Γ call ops o x (cI (dn listed) xs 0 s0):=by
    have h0:=qA i o x AW ho hx;rw[wW]at h0;refine h0.move (fun t ht=>?_) fun k hk=>?_
    ·refine lj xs 0 _ _ rfl fun j y hj hy=>?_
     rw[aaU];by_cases kX:j=i;·subst kX;rw[hd];simp
     obtain⟨o',iP⟩:=opOf j y hj;have hy:=dstOf j y o' hj iP t hy;exact clashed j y o' hj iP kX (fun _=>Vx hy ht) fun _=>wP hy ht
    refine xf xs 0 _ _ rfl fun j y hj hy=>?_
    rw[aaU];by_cases kX:j=i;·subst kX;rw[hd];simp
    refine keyed j y hj kX fun dX=>?_
    by_cases aL:j<i
    ·rw[if_pos aL,if_pos aL]at dX
     exact dX.2 k hy hk
    rw[if_neg aL,if_neg aL]at dX;exact(dX.1 k hy).1 hk
   have D_:=ef.get hx;refine Gv.run hΓ dW ho bw hs (pF x (aaH hx)) aa (fun k h1 h2=>?_) fun a' w' σ' lJ hσ=>?_
   ·refine hf k aa fun j y hj hS VD=>?_
    have:j=i:=by
     rcases Nat.lt_trichotomy j i with h | h | h
     ·have:=ef.apart hj hx h;omega
     ·exact h
     have:=ef.apart hx hj h;omega
    subst this;rw[hd]at hS;cases hS
   obtain⟨r1,r2⟩:=Ax (s:=s0) hx hd (fun j y hj eS hS t h1 h2=>by
    obtain⟨o',iP⟩:=opOf j y hj;have h2:=dstOf j y o' hj iP t h2;have h1:=dstOf i x o hx ho t h1;have:=behind j hS (gp cw ho iP eS (wF h1 h2));omega) fun j y hj eS hS k h1 h2=>by
     have:=keyed j y hj aa fun dX=>by rw[if_neg aa,if_neg aa]at dX;exact(dX.1 k h2).2 h1
     rw[hS]at this;simp at this;omega
   have pF:dn (listed.setIfInBounds i true)=fun j=>dn listed j||decide (j=i):=funext fun j=>xM aa j
   have vV:∀j,dn (listed.setIfInBounds i true) j=true ↔ (dn listed j=true\/j=i):=fun j=>by rw[pF];simp
   refine ih (listed.setIfInBounds i true) a' w' σ' (by simp[cJ]) ?_ ?_ ?_ ?_ ?_ ?_
   ·have:=Dn cJ uT hd
    omega
   ·intro j hj
    exact(vV j).2 (.inl (h0 j hj))
   ·intro j hj
    rw[pF];simp only[h1 j hj,Bool.false_or,decide_eq_false_iff_not];omega
   ·intro j o' iP hj e hm
    rcases(vV j).1 hj with h | rfl
    ·exact(vV e).2 (.inl (cF j o' iP h e hm))
    rw[ho]at iP;cases iP;exact(vV e).2 (.inl (uX e hm))
   ·rw[pF]
    exact lJ.congr r1 r2
   intro k hk sy;rcases hσ k with h | h
   ·rw[h]
    exact hf k hk fun j y hj Zz=>sy j y hj ((vV j).2 (.inl Zz))
   exact(sy i x hx ((vV i).2 (.inr rfl)) h).elim
end
def g0:cc:=fun _ _ _=>none
def nc:fB:=fun _ _ _ _=>none
theorem TK:i9 P ρ nc:=fun _ _ _ _ _ h=>by cases h
theorem Np:∀i op c b k,g0 i op c=some b->bj op k (ρ i) k c=some (.bool b):=fun _ _ _ _ _ h=>by cases h
def OX (P:Program) (ρ:aK) (env:eX) (M:Hp) (nx:Nat) (o:Op) (K:ew->Prop):Prop :=
 (∃e,cY P g0 env M nx o=some e/\K (e.val,aY M e.upd,nx+1)) \/
 (∃c g args R,o = .call c/\ca env c=some (g,args)/\ar P ρ g args M nx R/\∀r,R r->K r) \/
 (∃c g args e hi,o = .call c/\ca env c=some (g,args)/\bN P ρ g args M nx e hi/\K (e.val,aY M e.upd,hi)) \/
 (∃it L,ρ.det=false/\o = .next it false/\wE M (cG env it)=some L/\∀e ∈ L,K (e.val,aY M e.upd,nx+1))
def RN (P:Program) (ρ:aK) (n:Nat) (all:List Oper):List Oper->XS->(XS->Prop)->Prop
 | [],s,Q=>Q s
 | o::os,s,Q=>match a_ all s.env o.guard with
   | none=>False
   | some false=>∃env,cu n s.env o.dst .udf=some env/\RN P ρ n all os ⟨env,s.M,s.nx⟩ Q
   | some true=>OX P ρ s.env s.M s.nx o.op fun r=>∃env,cu n s.env o.dst r.1=some env/\RN P ρ n all os ⟨env,r.2.1,r.2.2⟩ Q
def RD (P:Program) (ρ:aK) (n:Nat) (all:List Oper):List Oper->Nat->XS->jg->(XS->jg->Prop)->Prop
 | [],_,s,log,F=>F s log
 | o::os,i,s,log,F=>match a_ all s.env o.guard with
   | none=>False
   | some false=>∃env,cu n s.env o.dst .udf=some env/\RD P ρ n all os (i+1) ⟨env,s.M,s.nx⟩ log F
   | some true=>(∃e hi env,(Bf P g0 nc s.env s.M s.nx o.op=some (e,hi)\/∃c g args,o.op = .call c/\ca s.env c=some (g,args)/\bN P ρ g args s.M s.nx e hi)/\s.nx<=hi /\
      cu n s.env o.dst e.val=some env/\RD P ρ n all os (i+1) ⟨env,aY s.M e.upd,hi⟩ (dM i e log) F) \/
     (lC all i=true/\lC all (i+1)=true/\g_ all log=true/\∃c g args R,o.op = .call c/\ca s.env c=some (g,args)/\ar P ρ g args s.M s.nx R /\
       ∀r,R r->∃env,cu n s.env o.dst r.1=some env/\RD P ρ n all os (i+1) ⟨env,r.2.1,r.2.2⟩ [] F)
def Qo (ops:List Oper) (Q:XS->Prop) (s:XS) (log:jg):Prop:=g_ ops log=true/\Q s
def Cj (id:Nat):bg->bg
 | .exit i=>match aaW i id with | true=>.normal | false=>.exit i
 | e=>e
def fx (f:XS->Prop) (K:bg->XS->Prop):bg->XS->Prop
 | .normal,s=>f s
 | e,s=>K e s
def w_ (I:Nat->XS->Prop) (k:Nat) (K:bg->XS->Prop):bg->XS->Prop
 | .normal,s=>∃j,j<k/\I j s
 | e,s=>K e s
def wx (P:Program) (ρ:aK) (n:Nat):Code->(bg->XS->Prop)->XS->Prop
 | .skip,K,s=>K .normal s
 | .ret,K,s=>K .ret s
 | .exit id,K,s=>K (.exit id) s
 | .seq a b,K,s=>wx P ρ n a (fx (wx P ρ n b K) K) s
 | .block id c,K,s=>wx P ρ n c (fun e s'=>K (Cj id e) s') s
 | .cond c a b,K,s=>∃v,cG s.env c = .bool v/\(v=true->wx P ρ n a K s)/\(v=false->wx P ρ n b K s)
 | .loop c,K,s=>∃I:Nat->XS->Prop,(∃k,I k s)/\∀k s',I k s'->wx P ρ n c (w_ I k K) s'
 | .region _ ops draw,K,s=>match draw with
   | false=>RN P ρ n ops.toList ops.toList s (K .normal)
   | true=>jq ops.toList=true/\ko ops.toList=true/\RD P ρ n ops.toList ops.toList 0 s [] (Qo ops.toList (K .normal))
 | _,_,_=>False
section
variable {P:Program} {a:Act} {w w' w0:World} {ρ:aK} {σ σ' σ0:cb} {M N M' M0:Hp} {env be:eX} {ds:List Deferred} {nx nx0 n:Nat}
theorem Ns {o:Oper} (aQ:Ok ρ w σ M) (bI:fX ρ σ env a.tmps) (ce:∀k,nx<=k->σ k=none) (h:OX P ρ env M nx o.op R)
 (K:Act->World->Prop) (Q:Exit->Act->World->Prop) (hK:∀v w',(∃r,R r/\cK ρ w σ M nx r v w')->K (a.put o.dst v) w'):o.wpIn (FW fr) 0 P a w K Q:=by
 rcases h with ⟨e,he,hr⟩ | ⟨c,g,args,R',df,hc,hF,hR⟩ | ⟨c,g,args,e,hi,df,hc,hF,hR⟩ | ⟨it,L,_,df,hL,hR⟩
 ·exact vq (Jb he) (BA Np aQ bI (ce nx (u7 _)) he K Q fun v w' hp=>hK v w' ⟨_,hr,.of ce hp⟩)
 ·obtain⟨vs,h1,h2⟩:=ik (P:=P) (w:=w) bI df hc
  refine vq (fun c' jY=>by rw[df]at jY;cases jY) ?_;unfold ads;rw[h2];exact hF.1 w σ vs aQ ce h1 o a K Q fun v w' ⟨r,hr,hp⟩=>hK v w' ⟨r,hR r hr,hp⟩
 ·obtain⟨vs,h1,h2⟩:=ik (P:=P) (w:=w) bI df hc
  refine vq (fun c' jY=>by rw[df]at jY;cases jY) ?_;unfold ads;rw[h2];exact hF.run aQ (fun k hk _=>ce k hk) h1 K Q fun v w' hp=>hK v w' ⟨_,hR,hp⟩
 obtain⟨e,he,r,w',h1,h2⟩:=DE (P:=P) (key:=nx) (ty:=o.type) aQ hL (bf bI it);refine vq (fun c' jY=>by rw[df]at jY;cases jY) ?_;exact gv.made (s:=Instr.next (a.eval it) false o.type) (by simp only[execOp,df]) h1 (⟨_,hR e he,.of ce h2⟩:∃r',R r'/\cK ρ w σ M nx r' r w') K Q hK
theorem HA {all:List Oper} {fr:Option Nat} {Q:Exit->Act->World->Prop} {F:XS->Prop} :
 ∀(os:List Oper) (s:XS) (a:Act) (w:World) (σ:cb),RN P ρ n all os s F->St ds ρ w0 σ0 M0 nx0 n s a w σ ->
  (∀s' a' w' σ',F s'->St ds ρ w0 σ0 M0 nx0 n s' a' w' σ'->Q .normal a' w')->wpListIn (FW fr) 0 P all.toArray Q os a w
 | [],s,a,w,σ,h,hs,hQ=>hQ s a w σ h hs
 | o::os,s,a,w,σ,h,hs,hQ=>by
   unfold RN at h;unfold wpListIn;split at h<;>rename_i hg
   ·exact h.elim
   ·rw[iL hs.envr hg]
    rw[if_neg af];obtain⟨be,he,h⟩:=h;exact⟨fun f _=>jh fr f,HA os _ _ w σ h (hs.skip he) hQ⟩
   rw[iL hs.envr hg,if_pos rfl];refine Ns hs.ok hs.envr hs.free h _ _ fun v w' ⟨r,⟨be,he,h'⟩,hp⟩=>?_
   obtain⟨σ',lJ⟩:=hs.step hp he;exact HA os _ _ w' σ' h' lJ hQ
theorem s8 (lo:Nat):∀(k:Nat) (xs:List iA) (i:Nat) (s:PS) (S:Nat->Bool),cI S (ab2 k ⟨none,.udf,[],[],lo,lo⟩++xs) i s=cI S xs (i+k) s
 | 0,_,_,_,_=>rfl
 | k+1,xs,i,s,S=>by simp only[adL,aa8,cI];rw[s8 lo k xs (i+1),show i+1+k=i+(k+1) by omega];congr 1;split<;>rfl
theorem C9 (lo:Nat):∀(k:Nat) (xs:List iA) (i:Nat) (l:jg),sI (ab2 k ⟨none,.udf,[],[],lo,lo⟩++xs) i l=sI xs (i+k) l
 | 0,_,_,_=>rfl
 | k+1,xs,i,l=>by simp only[adL,aa8,sI];rw[C9 lo k xs (i+1),show i+1+k=i+(k+1) by omega];rfl
theorem wA (lo:Nat) {xs:List iA} {hi:Nat} (h:fU lo xs hi):∀(k:Nat),fU lo (ab2 k ⟨none,.udf,[],[],lo,lo⟩++xs) hi
 | 0=>h
 | k+1=>⟨rfl,u7 _,wA lo h k⟩
theorem Dj {all:List Oper} {F:XS->jg->Prop}:∀(os:List Oper) (i:Nat) (s:XS) (log:jg),RD P ρ n all os i s log F ->
 ∃(s':XS) (log':jg) (xs:List iA),(s'.env,s'.M)=cI (fun _=>true) xs i (s.env,s.M)/\log'=sI xs i log/\fU s.nx xs s'.nx/\(∀x ∈ xs,∀t,x.dst=some t->t<n) /\
  (∀j o x,os[j]?=some o->xs[j]?=some x->Gv P ρ g0 nc all o x (cI (fun _=>true) (xs.take j) i (s.env,s.M))) /\
  ((xs.length=os.length/\F s' log')\/∃o os',os.drop xs.length=o::os'/\a_ all s'.env o.guard=some true/\lC all (i+xs.length)=true/\lC all (i+xs.length+1)=true/\g_ all log'=true /\
   ∃c g args R,o.op = .call c/\ca s'.env c=some (g,args)/\ar P ρ g args s'.M s'.nx R/\∀r,R r->∃env,cu n s'.env o.dst r.1=some env/\RD P ρ n all os' (i+xs.length+1) ⟨env,r.2.1,r.2.2⟩ [] F)
 | [],i,s,log,h=>⟨s,log,[],rfl,rfl,rfl,af,(fun j o x h=>by simp at h),.inl ⟨rfl,h⟩⟩
 | o::os,i,s,log,h=>by
   have mk:∀(x:iA) (s1:XS) (yS:jg),Gv P ρ g0 nc all o x (s.env,s.M)->(s1.env,s1.M)=x.app (s.env,s.M)->yS=dM i ⟨.un,x.rd,x.upd⟩ log->x.lo=s.nx->x.hi=s1.nx->x.lo<=x.hi->(∀t,x.dst=some t->t<n) ->
    RD P ρ n all os (i+1) s1 yS F ->
    ∃(s':XS) (log':jg) (xs:List iA),(s'.env,s'.M)=cI (fun _=>true) xs i (s.env,s.M)/\log'=sI xs i log/\fU s.nx xs s'.nx/\(∀x ∈ xs,∀t,x.dst=some t->t<n) /\
     (∀j o' x,(o::os)[j]?=some o'->xs[j]?=some x->Gv P ρ g0 nc all o' x (cI (fun _=>true) (xs.take j) i (s.env,s.M))) /\
     ((xs.length=(o::os).length/\F s' log')\/∃o' os',(o::os).drop xs.length=o'::os'/\a_ all s'.env o'.guard=some true/\lC all (i+xs.length)=true/\lC all (i+xs.length+1)=true/\g_ all log'=true /\
      ∃c g args R,o'.op = .call c/\ca s'.env c=some (g,args)/\ar P ρ g args s'.M s'.nx R/\∀r,R r->∃env,cu n s'.env o'.dst r.1=some env/\RD P ρ n all os' (i+xs.length+1) ⟨env,r.2.1,r.2.2⟩ [] F):=by
    intro x s1 yS bw h1 h2 h3 h4 h5 h6 h7;obtain⟨s',log',xs,g3,g4,g5,g6,g7,gF⟩:=Dj os (i+1) s1 yS h7;refine⟨s',log',x::xs,?_,?_,⟨h3,h5,by rw[h4];exact g5⟩,fun y hy=>?_,fun j o' x' hj hx=>?_,?_⟩;·rw[g3,h1];rfl
    ·rw[g4,h2];rfl
    ·rcases aaK.1 hy with rfl | hy
     ·exact h6
     exact g6 y hy
    ·cases j with
     | zero =>
       simp only[aaI,aat]at hj hx;subst hj hx;exact bw
     | succ j =>
       simp only[aa1]at hj hx;have:=g7 j o' x' hj hx;rw[h1]at this;exact this
    rcases gF with ⟨q1,q2⟩ | ⟨o',os',q1,q2,q3,q4,q5⟩
    ·exact .inl ⟨by simp[q1],q2⟩
    rw[show i+1+xs.length=i+(xs.length+1) by omega]at q3 q4 q5;exact .inr ⟨o',os',by simpa using q1,q2,q3,q4,q5⟩
   unfold RD at h;split at h<;>rename_i hg
   ·exact h.elim
   ·obtain⟨be,he,h⟩:=h
    obtain⟨rfl,e2⟩:=tc he;exact mk ⟨o.dst,.udf,[],[],s.nx,s.nx⟩ ⟨sM s.env o.dst .udf,s.M,s.nx⟩ log ⟨rfl,.inr ⟨hg,rfl,rfl,rfl,rfl⟩⟩ rfl rfl rfl rfl (u7 _) e2 h
   rcases h with ⟨e,hi,be,df,jT,he,h⟩ | ⟨b1,b2,b3,h⟩
   ·obtain⟨rfl,e2⟩:=tc he
    exact mk ⟨o.dst,e.val,e.rd,e.upd,s.nx,hi⟩ ⟨sM s.env o.dst e.val,aY s.M e.upd,hi⟩ (dM i e log) ⟨rfl,.inl ⟨hg,e,df,rfl,rfl,rfl⟩⟩ rfl rfl rfl rfl jT e2 h
   exact⟨s,log,[],rfl,rfl,rfl,af,(fun j o x _ h=>by simp at h),.inr ⟨o,os,rfl,hg,b1,b2,b3,h⟩⟩
theorem Sb {all:List Oper} {F:XS->Prop} {Q:Exit->Act->World->Prop} (he:jq all=true) (cw:ko all=true) :
 ∀(m:Nat) (os:List Oper) (i:Nat) (s:XS),os.length<=m->all.drop i=os->i<=all.length->(i=0\/lC all i=true)->RD P ρ n all os i s [] (Qo all F) ->
  ∀(fuel:Nat) (listed:Array Bool) (a:Act) (w:World) (σ:cb),listed.size=all.length->(∀j,dn listed j=decide (j<i))->cnt all listed<=fuel->St ds ρ w0 σ0 M0 nx0 n s a w σ ->
   (∀s' a' w' σ',F s'->St ds ρ w0 σ0 M0 nx0 n s' a' w' σ'->Q .normal a' w')->wpAnyIn (FW fr) 0 P .any all.toArray Q fuel listed a w:=by
 intro m
 induction m with
 | zero =>
   intro os i s hm UE uT _ h fuel listed a w σ cJ pF yH hs hQ;have hi:i=all.length:=by
    have:(all.drop i).length=0:=by rw[UE];omega
    rw[acz]at this;omega
   have h0:os=[]:=length_eq_zero_iff.1 aa;subst h0;obtain⟨_,hF⟩:=h;have hr:abm .any all.toArray listed=[]:=by
    cases hr:abm .any all.toArray listed with
    | nil=>rfl
    | cons k l =>
      have:k ∈ abm .any all.toArray listed:=by rw[hr];exact aaC
      obtain⟨o,ho,h1,_⟩:=(gg cJ).1 this;have:=(aaq.1 ho).1;rw[pF,decide_eq_false_iff_not]at h1;omega
   have hn:Q .normal a w:=hQ s a w σ hF hs;cases fuel with
   | zero=>exact⟨hr,hn⟩
   | succ fuel=>exact⟨fun _=>hn,fun k hk=>by rw[hr]at hk;cases hk⟩
 | succ m ih =>
   intro os i s hm UE uT Uc h fuel listed a w σ cJ pF yH hs hQ;obtain⟨s',log,xs,gy,yP,ef,hdt,qA,qy⟩:=Dj os i s [] h;have JY:os.length=all.length - i:=by rw[<-UE,acz]
   have hxl:xs.length<=os.length:=by
    rcases qy with ⟨q,_⟩ | ⟨o,os',q,_⟩
    ·omega
    refine adn fun aL=>?_
    rw[drop_eq_nil_of_le aa]at q;cases q
   have aQ:g_ all log=true:=by
    rcases qy with ⟨_,q⟩ | ⟨o,os',_,_,_,_,q,_⟩
    ·exact q.1
    exact q
   have Oi:∀(j:Nat) (x:iA),(ab2 i (⟨none,.udf,[],[],s.nx,s.nx⟩:iA)++xs)[j]?=some x->(j<i/\x=⟨none,.udf,[],[],s.nx,s.nx⟩)\/(i<=j/\xs[j - i]?=some x):=by
    intro j x hj;by_cases kX:j<i
    ·rw[getElem?_append_left (by simpa using kX)]at hj
     rw[getElem?_replicate,if_pos kX]at hj;cases hj;exact .inl ⟨kX,rfl⟩
    rw[getElem?_append_right ak,length_replicate]at hj;exact .inr ⟨aa,hj⟩
   have Q1:∀j,all[i+j]?=os[j]?:=fun j=>by rw[<-UE,ab1]
   rw[yP]at aQ;have hQ':∀fuel listed a' w' σ',listed.size=all.length->(∀j,dn listed j=decide (j<i+xs.length))->cnt all listed<=fuel->Sd ds ρ w0 σ0 M0 nx0 n (cI (fun _=>true) (ab2 i ⟨none,.udf,[],[],s.nx,s.nx⟩++xs) 0 (s.env,s.M)) a' w' σ'->(∀k,s'.nx<=k->σ' k=none)->wpAnyIn (FW fr) 0 P .any all.toArray Q fuel listed a' w':=by
    intro fuel listed a' w' σ' cJ pF yH CQ h_;rw[s8,aaU,<-gy]at CQ;have bw:St ds ρ w0 σ0 M0 nx0 n s' a' w' σ':=⟨CQ.envr,CQ.size,CQ.ok,h_,CQ.ext,aaT hs.le ef.le,CQ.old,CQ.def0⟩;rcases qy with ⟨hl,hF⟩ | ⟨o,os',hd,hg,b1,b2,_,c,g,args,R,df,hc,hFk,hR⟩
    ·have hi:i+xs.length=all.length:=aa
     have hr:abm .any all.toArray listed=[]:=by
      cases hr:abm .any all.toArray listed with
      | nil=>rfl
      | cons k l =>
        have:k ∈ abm .any all.toArray listed:=by rw[hr];exact aaC
        obtain⟨o,ho,h1,_⟩:=(gg cJ).1 this;have:=(aaq.1 ho).1;rw[pF,decide_eq_false_iff_not]at h1;omega
     have hn:Q .normal a' w':=hQ s' a' w' σ' hF.2 bw;cases fuel with
     | zero=>exact⟨hr,hn⟩
     | succ fuel=>exact⟨fun _=>hn,fun k hk=>by rw[hr]at hk;cases hk⟩
    have aL:i+xs.length<all.length:=by
     have:(os.drop xs.length).length=os'.length+1:=by rw[hd];rfl
     rw[acz]at this;omega
    have hoi:all[i+xs.length]?=some o:=by
     rw[Q1];have:(os.drop xs.length)[0]?=some o:=by rw[hd];rfl
     rw[ab1]at this;exact this
    have xo:dn listed (i+xs.length)=false:=by rw[pF];simp
    cases fuel with
    | zero=>have:=DU aL xo;omega
    | succ fuel =>
      refine⟨fun hr=>?_,fun k hk=>?_⟩
      ·have:=tW he cJ hr _ aL
       rw[xo]at this;cases this
      obtain⟨o1,CO,bv,uX⟩:=(gg cJ).1 hk;have kA:=(aaq.1 CO).1;have cF:lW all (dn listed):=fun j o2 bJ h2 e hm=>by have:=cg he bJ e hm;rw[pF,decide_eq_true_eq]at h2 ⊢;omega
      have hki:k=i+xs.length:=by
       rw[pF,decide_eq_false_iff_not]at bv;refine Nat.le_antisymm (adn fun F1=>?_) aa;rcases ea cF (fun o2 bJ e hm=>by rw[CO]at bJ;cases bJ;exact uX e hm) (v8 b2 kA aa (lt_succ_self _)) with h | h
       ·omega
       rw[xo]at h;cases h
      subst hki;rw[hoi]at CO;cases CO;unfold wpOpIn;simp only[abf,hoi];rw[iL bw.envr hg,if_pos rfl];obtain⟨vs,h1,h2⟩:=ik (P:=P) (w:=w') bw.envr df hc;refine vq (fun c' jY=>by rw[df]at jY;cases jY) ?_;unfold ads;rw[h2];refine hFk.1 w' σ' vs bw.ok bw.free h1 _ _ _ _ fun v w2 ⟨r,hr,hp⟩=>?_
      obtain⟨be,kT,vR⟩:=hR r hr;obtain⟨σ2,Z_⟩:=bw.step hp kT;have Zh:dn (listed.setIfInBounds (i+xs.length) true)=fun j=>dn listed j||decide (j=i+xs.length):=funext fun j=>xM aa j
      refine ih os' (i+xs.length+1) ⟨be,r.2.1,r.2.2⟩ ?_ ?_ aa (.inr b2) vR fuel _ _ _ σ2 (by simp[cJ]) (fun j=>?_) ?_ Z_ hQ
      ·have:(os.drop xs.length).length=os'.length+1:=by rw[hd];rfl
       rw[acz]at this;omega
      ·rw[<-UE,abi]at hd
       rw[show i+xs.length+1=(i+xs.length)+1 from rfl,<-abi,hd];rfl
      ·rw[Zh]
       simp only[pF];rw[Bool.eq_iff_iff];simp;omega
      have:=Dn cJ aL xo;omega
   refine EK (i0:=i) (i1:=i+xs.length) (s0:=(s.env,s.M)) (xs:=ab2 i ⟨none,.udf,[],[],s.nx,s.nx⟩++xs) Np TK he cw (by rw[C9,aaU];exact aQ) af aa ?_ (fun j o x ho hx t ht=>?_) (fun j o x eS ho hx=>?_) (wA s.nx ef i) hs.le (fun x hx t ht=>?_) hQ'
    fuel listed a w σ cJ yH (fun j hj=>by rw[pF];simp[hj]) (fun j hj=>by rw[pF];simp;omega) (fun j o2 bJ h2 e hm=>by have:=cg he bJ e hm;rw[pF,decide_eq_true_eq]at h2 ⊢;omega) ?_ (fun k hk _=>hs.free k hk)
   ·rcases qy with ⟨q,_⟩ | ⟨o,os',_,_,q,_⟩
    ·left;omega
    right;exact q
   ·rcases Oi j x hx with ⟨_,rfl⟩ | ⟨eS,hx⟩
    ·cases ht
    have iP:os[j - i]?=some o:=by rw[<-Q1,show i+(j - i)=j by omega];exact ho
    have:=(qA (j - i) o x iP hx).1;rw[<-this];exact ht
   ·rcases Oi j x hx with ⟨h,_⟩ | ⟨eS,hx⟩
    ·omega
    have iP:os[j - i]?=some o:=by rw[<-Q1,show i+(j - i)=j by omega];exact ho
    have:=qA (j - i) o x iP hx;rw[take_append,length_replicate,take_replicate,Nat.min_eq_right aa,s8,aaU];exact this
   ·rcases mem_append.1 hx with hx | hx
    ·rw[eq_of_mem_replicate hx]at ht;cases ht
    exact hdt x hx t ht
   rw[s8,jC];·exact⟨hs.envr,hs.size,hs.ok,hs.ext,hs.old,hs.def0⟩
   intro j _;rw[pF];simp
theorem OS (hp:P.follows .mixedOrders=true) {ops:Array Oper} {id:Nat} {draw:Bool} {s:XS} {F:XS->Prop} {Qm:Exit->Act->World->Prop}
 (h:match draw with
   | false=>RN P ρ n ops.toList ops.toList s F
   | true=>jq ops.toList=true/\ko ops.toList=true/\RD P ρ n ops.toList ops.toList 0 s [] (Qo ops.toList F)) (hs:St ds ρ w0 σ0 M0 nx0 n s a w σ)
 (hQ:∀s' a' w' σ',F s'->St ds ρ w0 σ0 M0 nx0 n s' a' w' σ'->Qm .normal a' w'):(Code.region id ops draw).wpIn (FW fr) 0 P Qm a w:=by
 cases draw with
 | false =>
   refine wpIn_region_list ?_;have:=HA (fr:=fr) (Q:=Qm) ops.toList s a w σ h hs hQ;simpa using this
 | true =>
   obtain⟨he,cw,h⟩:=h;refine wpIn_region_any hp ?_;have R5:St ds ρ w0 σ0 M0 nx0 n s a { w with drawn:=w.drawn+1 } σ :=
    ⟨hs.envr,hs.size,Ok.heap (w:=w) (w1:={ w with drawn:=w.drawn+1 }) rfl hs.ok,hs.free,⟨hs.ext.os,hs.ext.tape,hs.ext.output,hs.ext.size,hs.ext.blk,hs.ext.own,hs.ext.sig,hs.ext.held⟩,hs.le,hs.old,hs.def0⟩
   have:=Sb (fr:=fr) (Q:=Qm) he cw ops.toList.length ops.toList 0 s (u7 _) rfl af (.inl rfl) h ops.size (adp ops.size false) a { w with drawn:=w.drawn+1 } σ af
    (fun j=>by simp[dn,abb,acw];split<;>rfl) (aaT (abh _ _) af) R5 hQ
   simpa using this
theorem Dh (hp:P.follows .mixedOrders=true) {B:Nat}:∀(c:Code) (K:bg->XS->Prop) (s:XS) (a:Act) (w:World) (σ:cb),wx P ρ n c K s->Sm ρ B w0 σ0 M0 nx0 n s a w σ ->
 ∀Qm:Exit->Act->World->Prop,(∀e s' a' w' σ',K e s'->Sm ρ B w0 σ0 M0 nx0 n s' a' w' σ'->Qm e.to a' w')->c.wpIn (FW fr) 0 P Qm a w:=by
 intro c
 induction c with
 | skip=>intro K s a w σ h hs Qm hQ;exact wpIn_skip (hQ .normal s a w σ h hs)
 | ret=>intro K s a w σ h hs Qm hQ;exact wpIn_ret (hQ .ret s a w σ h hs)
 | exit id=>intro K s a w σ h hs Qm hQ;exact wpIn_exit (hQ (.exit id) s a w σ h hs)
 | region id ops draw =>
   intro K s a w σ h ⟨ds,hs,hk⟩ Qm hQ;exact OS hp h hs.rebase fun s' a' w' σ' hF bw=>hQ .normal s' a' w' σ' hF ⟨ds,hs.join bw,hk.ext bw.ext⟩
 | seq x y ihx ihy =>
   intro K s a w σ h hs Qm hQ;refine wpIn_seq (ihx _ s a w σ h hs _ fun e s' a' w' σ' hK bw=>?_);cases e with
   | normal=>exact ihy K s' a' w' σ' hK bw Qm hQ
   | exit id=>exact hQ (.exit id) s' a' w' σ' hK bw
   | ret=>exact hQ .ret s' a' w' σ' hK bw
 | cond c x y ihx ihy =>
   intro K s a w σ h hs Qm hQ;obtain⟨b,hb,h1,h2⟩:=h;have hv:VR ρ σ (cG s.env c) (a.eval c):=let ⟨_,bw,_⟩:=hs;bf bw.envr c
   rw[hb]at hv;simp only[VR]at hv;exact wpIn_cond_split hv (fun e=>ihx K s a w σ (h1 e) hs Qm hQ) fun e=>ihy K s a w σ (h2 e) hs Qm hQ
 | block id c ih =>
   intro K s a w σ h hs Qm hQ;refine wpIn_block (ih _ s a w σ h hs _ fun e s' a' w' σ' hK bw=>?_);have:=hQ (Cj id e) s' a' w' σ' hK bw;cases e with
   | normal=>exact this
   | ret=>exact this
   | exit i =>
     simp only[bg.to,Exit.inBlock];simp only[Cj]at this;cases hb:aaW i id with
     | true =>
       rw[hb]at this;rw[if_pos (aaB hb)];exact this
     | false =>
       rw[hb]at this;rw[if_neg (adk hb)];exact this
 | loop c ih =>
   intro K s a w σ h hs Qm hQ;obtain⟨I,⟨k0,h0⟩,hr⟩:=h;refine wpIn_loop_ghost (fun k a w=>∃s σ,I k s/\Sm ρ B w0 σ0 M0 nx0 n s a w σ) k0 ⟨s,σ,h0,hs⟩ ?_;rintro k a w ⟨s,σ,hi,bw⟩;refine ih _ s a w σ (hr k s hi) bw _ fun e s' a' w' σ' hK kU=>?_
   cases e with
   | normal =>
     obtain⟨j,hj,mS⟩:=hK;exact⟨j,hj,s',σ',mS,kU⟩
   | exit id=>exact hQ (.exit id) s' a' w' σ' hK kU
   | ret=>exact hQ .ret s' a' w' σ' hK kU
 | _=>intro K s a w σ h;exact h.elim
def vA (P:Program) (rs:List ResultVar) (R:ew->Prop):bg->XS->Prop
 | .exit _,_=>False
 | _,s=>∃vs,cB P s rs=some vs/\R (cR vs,s.M,s.nx)
theorem Dv {o:Op} {K K':ew->Prop} (h:OX P ρ env M nx o K) (hK:∀r,K r->K' r):OX P ρ env M nx o K':=by
 rcases h with ⟨e,h1,h2⟩ | ⟨c,g,args,R,h1,h2,h3,h4⟩ | ⟨c,g,args,e,hi,h1,h2,h3,h4⟩ | ⟨it,L,h0,h1,h2,h3⟩
 ·exact .inl ⟨e,h1,hK _ h2⟩
 ·exact .inr (.inl ⟨c,g,args,R,h1,h2,h3,fun r hr=>hK _ (h4 r hr)⟩)
 ·exact .inr (.inr (.inl ⟨c,g,args,e,hi,h1,h2,h3,hK _ h4⟩))
 exact .inr (.inr (.inr ⟨it,L,h0,h1,h2,fun e he=>hK _ (h3 e he)⟩))
theorem qh {all:List Oper} {Q Q':XS->Prop} (hQ:∀s,Q s->Q' s):∀(os:List Oper) (s:XS),RN P ρ n all os s Q->RN P ρ n all os s Q'
 | [],s,h=>hQ s h
 | o::os,s,h=>by
   unfold RN at h ⊢;split at h;·exact h.elim
   ·obtain⟨env,h1,h2⟩:=h
    exact⟨env,h1,qh hQ os _ h2⟩
   exact Dv h fun r ⟨env,h1,h2⟩=>⟨env,h1,qh hQ os _ h2⟩
theorem nU {all:List Oper} {Q Q':XS->jg->Prop} (hQ:∀s l,Q s l->Q' s l):∀(os:List Oper) (i:Nat) (s:XS) (l:jg),RD P ρ n all os i s l Q->RD P ρ n all os i s l Q'
 | [],_,s,l,h=>hQ s l h
 | o::os,i,s,l,h=>by
   unfold RD at h ⊢;split at h;·exact h.elim
   ·obtain⟨env,h1,h2⟩:=h
    exact⟨env,h1,nU hQ os _ _ _ h2⟩
   rcases h with ⟨e,hi,env,h1,h2,h3,h4⟩ | ⟨b1,b2,b3,c,g,args,R,h1,h2,h3,h4⟩
   ·exact .inl ⟨e,hi,env,h1,h2,h3,nU hQ os _ _ _ h4⟩
   exact .inr ⟨b1,b2,b3,c,g,args,R,h1,h2,h3,fun r hr=>let ⟨env,q1,q2⟩:=h4 r hr;⟨env,q1,nU hQ os _ _ _ q2⟩⟩
theorem cC:∀(c:Code) (K K':bg->XS->Prop) (s:XS),(∀e s,K e s->K' e s)->wx P ρ n c K s->wx P ρ n c K' s:=by
 intro c
 induction c with
 | skip=>intro K K' s hK h;exact hK _ _ h
 | ret=>intro K K' s hK h;exact hK _ _ h
 | exit id=>intro K K' s hK h;exact hK _ _ h
 | region id ops draw =>
   intro K K' s hK h;cases draw with
   | false=>exact qh (hK _) _ _ h
   | true=>exact⟨h.1,h.2.1,nU (fun s l q=>⟨q.1,hK _ _ q.2⟩) _ _ _ _ h.2.2⟩
 | seq x y ihx ihy =>
   intro K K' s hK h;refine ihx _ _ s (fun e s' q=>?_) h;cases e with
   | normal=>exact ihy _ _ s' hK q
   | exit id=>exact hK _ _ q
   | ret=>exact hK _ _ q
 | cond c x y ihx ihy =>
   intro K K' s hK h;obtain⟨v,hv,h1,h2⟩:=h;exact⟨v,hv,fun e=>ihx _ _ s hK (h1 e),fun e=>ihy _ _ s hK (h2 e)⟩
 | block id c ih =>
   intro K K' s hK h;exact ih _ _ s (fun e s' q=>hK _ _ q) h
 | loop c ih =>
   intro K K' s hK h;obtain⟨I,h0,h1⟩:=h;refine⟨I,h0,fun k s' hi=>ih _ _ s' (fun e s2 q=>?_) (h1 k s' hi)⟩;cases e with
   | normal=>exact q
   | exit id=>exact hK _ _ q
   | ret=>exact hK _ _ q
 | _=>intro K K' s hK h;exact h.elim
theorem ft.mono {g:Nat} {R':ew->Prop} (h:ft P ρ g args M nx R) (hR:∀r,R r->R' r):ft P ρ g args M nx R' :=
 fun w σ vs aQ ce aX o a K Q hK=>h w σ vs aQ ce aX o a K Q fun v w' ⟨r,hr,hp⟩=>hK v w' ⟨r,hR r hr,hp⟩
theorem ar.one {g:Nat} (hd:ρ.det=true) (h:ar P ρ g args M nx R):∃o:Option ew,(∀r,o=some r->R r)/\ar P ρ g args M nx fun r=>o=some r:=by
 by_cases hR:∃r,R r
 ·obtain⟨r,h1,h2⟩:=h.2 hd hR
  exact⟨some r,(fun r' e=>by cases e;exact h1),h2.mono fun x e=>by rw[e],fun _ _=>⟨r,rfl,h2⟩⟩
 exact⟨none,(fun r e=>by cases e),h.1.mono fun r hr=>(hR ⟨r,hr⟩).elim,fun _ ⟨r,e⟩=>by cases e⟩
theorem Cw {all:List Oper} {Q:XS->Prop} (hd:ρ.det=true):∀(os:List Oper) (s:XS),RN P ρ n all os s Q->∃o:Option XS,(∀s,o=some s->Q s)/\RN P ρ n all os s fun s=>o=some s
 | [],s,h=>⟨some s,(fun s' e=>by cases e;exact h),rfl⟩
 | o::os,s,h=>by
   unfold RN at h;split at h<;>rename_i hg
   ·exact h.elim
   ·obtain⟨env,h1,h2⟩:=h
    obtain⟨x,q1,q2⟩:=Cw hd os _ h2;refine⟨x,q1,?_⟩;unfold RN;rw[hg];exact⟨env,h1,q2⟩
   have go:∀(r:ew),(∃env,cu n s.env o.dst r.1=some env/\RN P ρ n all os ⟨env,r.2.1,r.2.2⟩ Q)->∃x:Option XS,(∀s,x=some s->Q s)/\∃env,cu n s.env o.dst r.1=some env/\RN P ρ n all os ⟨env,r.2.1,r.2.2⟩ fun s=>x=some s:=by rintro r ⟨env,h1,h2⟩;obtain⟨x,q1,q2⟩:=Cw hd os _ h2;exact⟨x,q1,env,h1,q2⟩
   unfold RN;rw[hg];rcases h with ⟨e,h1,h2⟩ | ⟨c,g,args,R,h1,h2,h3,h4⟩ | ⟨c,g,args,e,hi,h1,h2,h3,h4⟩ | ⟨it,L,h0,_⟩
   ·obtain⟨x,q1,q2⟩:=go _ h2
    exact⟨x,q1,.inl ⟨e,h1,q2⟩⟩
   ·obtain⟨y,p1,p2⟩:=h3.one hd
    cases y with
    | none=>exact⟨none,(fun s e=>by cases e),.inr (.inl ⟨c,g,args,_,h1,h2,p2,fun r e=>by cases e⟩)⟩
    | some r =>
      obtain⟨x,q1,q2⟩:=go r (h4 r (p1 r rfl));exact⟨x,q1,.inr (.inl ⟨c,g,args,_,h1,h2,p2,fun r' e=>by cases e;exact q2⟩)⟩
   ·obtain⟨x,q1,q2⟩:=go _ h4
    exact⟨x,q1,.inr (.inr (.inl ⟨c,g,args,e,hi,h1,h2,h3,q2⟩))⟩
   rw[hd]at h0;cases h0
theorem xG {all:List Oper} {Q:XS->jg->Prop} (hd:ρ.det=true):∀(os:List Oper) (i:Nat) (s:XS) (l:jg),RD P ρ n all os i s l Q->∃o:Option (XS×jg),(∀s l,o=some (s,l)->Q s l)/\RD P ρ n all os i s l fun s l=>o=some (s,l)
 | [],_,s,l,h=>⟨some (s,l),(fun s' l' e=>by cases e;exact h),rfl⟩
 | o::os,i,s,l,h=>by
   unfold RD at h;split at h<;>rename_i hg
   ·exact h.elim
   ·obtain⟨env,h1,h2⟩:=h
    obtain⟨x,q1,q2⟩:=xG hd os _ _ _ h2;refine⟨x,q1,?_⟩;unfold RD;rw[hg];exact⟨env,h1,q2⟩
   unfold RD;rw[hg];rcases h with ⟨e,hi,env,h1,h2,h3,h4⟩ | ⟨b1,b2,b3,c,g,args,R,h1,h2,h3,h4⟩
   ·obtain⟨x,q1,q2⟩:=xG hd os _ _ _ h4
    exact⟨x,q1,.inl ⟨e,hi,env,h1,h2,h3,q2⟩⟩
   obtain⟨y,p1,p2⟩:=h3.one hd;cases y with
   | none=>exact⟨none,(fun s l e=>by cases e),.inr ⟨b1,b2,b3,c,g,args,_,h1,h2,p2,fun r e=>by cases e⟩⟩
   | some r =>
     obtain⟨env,h5,h6⟩:=h4 r (p1 r rfl);obtain⟨x,q1,q2⟩:=xG hd os _ _ _ h6;exact⟨x,q1,.inr ⟨b1,b2,b3,c,g,args,_,h1,h2,p2,fun r' e=>by cases e;exact⟨env,h5,q2⟩⟩⟩
inductive LE (P:Program) (ρ:aK) (n:Nat) (c:Code):Nat->XS->Option (bg×XS)->Prop
 | die {k s}:wx P ρ n c (fun _ _=>False) s->LE P ρ n c k s none
 | stop {k s e s'}:wx P ρ n c (fun e1 s1=>e1=e/\s1=s') s->e ≠ .normal->LE P ρ n c k s (some (e,s'))
 | go {k j s s' o}:wx P ρ n c (fun e1 s1=>e1 = .normal/\s1=s') s->j<k->LE P ρ n c j s' o->LE P ρ n c k s o
theorem Py (hd:ρ.det=true):∀(c:Code) (K:bg->XS->Prop) (s:XS),wx P ρ n c K s->∃o:Option (bg×XS),(∀e s,o=some (e,s)->K e s)/\wx P ρ n c (fun e s=>o=some (e,s)) s:=by
 intro c
 induction c with
 | skip=>intro K s h;exact⟨some (.normal,s),(fun e s' q=>by cases q;exact h),rfl⟩
 | ret=>intro K s h;exact⟨some (.ret,s),(fun e s' q=>by cases q;exact h),rfl⟩
 | exit id=>intro K s h;exact⟨some (.exit id,s),(fun e s' q=>by cases q;exact h),rfl⟩
 | region id ops draw =>
   intro K s h;cases draw with
   | false =>
     obtain⟨o,h1,h2⟩:=Cw hd _ _ h;cases o with
     | none=>exact⟨none,(fun e s q=>by cases q),qh (fun s q=>by cases q) _ _ h2⟩
     | some s1=>exact⟨some (.normal,s1),(fun e s' q=>by cases q;exact h1 _ rfl),qh (fun s' q=>by cases q;rfl) _ _ h2⟩
   | true =>
     obtain⟨o,h1,h2⟩:=xG hd _ _ _ _ h.2.2;cases o with
     | none=>exact⟨none,(fun e s q=>by cases q),h.1,h.2.1,nU (fun s l q=>by cases q) _ _ _ _ h2⟩
     | some r =>
       obtain⟨s1,l1⟩:=r;have:=h1 s1 l1 rfl;exact⟨some (.normal,s1),(fun e s' q=>by cases q;exact this.2),h.1,h.2.1,nU (fun s' l' q=>by cases q;exact⟨this.1,rfl⟩) _ _ _ _ h2⟩
 | seq x y ihx ihy =>
   intro K s h;obtain⟨o,h1,h2⟩:=ihx _ s h;cases o with
   | none=>exact⟨none,(fun e s q=>by cases q),cC x _ _ s (fun e s q=>by cases q) h2⟩
   | some r =>
     obtain⟨e1,s1⟩:=r;have hk:=h1 e1 s1 rfl;cases e1 with
     | normal =>
       obtain⟨o2,g1,g2⟩:=ihy _ s1 hk;exact⟨o2,g1,cC x _ _ s (fun e s' q=>by cases q;exact g2) h2⟩
     | exit id=>exact⟨some (.exit id,s1),(fun e s' q=>by cases q;exact hk),cC x _ _ s (fun e s' q=>by cases q;rfl) h2⟩
     | ret=>exact⟨some (.ret,s1),(fun e s' q=>by cases q;exact hk),cC x _ _ s (fun e s' q=>by cases q;rfl) h2⟩
 | cond c x y ihx ihy =>
   intro K s h;obtain⟨v,hv,h1,h2⟩:=h;cases v with
   | true =>
     obtain⟨o,g1,g2⟩:=ihx _ s (h1 rfl);exact⟨o,g1,true,hv,fun _=>g2,fun e=>by cases e⟩
   | false =>
     obtain⟨o,g1,g2⟩:=ihy _ s (h2 rfl);exact⟨o,g1,false,hv,(fun e=>by cases e),fun _=>g2⟩
 | block id c ih =>
   intro K s h;obtain⟨o,h1,h2⟩:=ih _ s h;cases o with
   | none=>exact⟨none,(fun e s q=>by cases q),cC c _ _ s (fun e s q=>by cases q) h2⟩
   | some r =>
     obtain⟨e1,s1⟩:=r;exact⟨some (Cj id e1,s1),(fun e s' q=>by cases q;exact h1 _ _ rfl),cC c _ _ s (fun e s' q=>by cases q;rfl) h2⟩
 | loop c ih =>
   intro K s h;obtain⟨I,⟨k0,h0⟩,hr⟩:=h;have ends:∀(k:Nat) (s:XS),I k s->∃o:Option (bg×XS),(∀e s,o=some (e,s)->K e s)/\LE P ρ n c k s o:=by
    intro k
    induction k using adv with
    | _ k ihk =>
      intro s hi;obtain⟨o,h1,h2⟩:=ih _ s (hr k s hi);cases o with
      | none=>exact⟨none,(fun e s q=>by cases q),.die (cC c _ _ s (fun e s q=>by cases q) h2)⟩
      | some r =>
        obtain⟨e1,s1⟩:=r;have hk:=h1 e1 s1 rfl;have hx:wx P ρ n c (fun e s'=>e=e1/\s'=s1) s:=cC c _ _ s (fun e s' q=>by cases q;exact⟨rfl,rfl⟩) h2;cases e1 with
        | normal =>
          obtain⟨j,hj,hi'⟩:=hk;obtain⟨o,g1,g2⟩:=ihk j hj s1 hi';exact⟨o,g1,.go hx hj g2⟩
        | exit id=>exact⟨some (.exit id,s1),(fun e s' q=>by cases q;exact hk),.stop hx af⟩
        | ret=>exact⟨some (.ret,s1),(fun e s' q=>by cases q;exact hk),.stop hx af⟩
   obtain⟨o,g1,g2⟩:=ends k0 s h0;refine⟨o,g1,fun k s=>LE P ρ n c k s o,⟨k0,g2⟩,fun k s' hl=>?_⟩;cases hl with
   | die q=>exact cC c _ _ s' (fun e s q=>q.elim) q
   | stop q cf =>
     refine cC c _ _ s' (fun e2 s2 q=>?_) q;obtain⟨rfl,rfl⟩:=q;cases e2 with
     | normal=>exact(cf rfl).elim
     | exit id=>rfl
     | ret=>rfl
   | go q hj Ut =>
     refine cC c _ _ s' (fun e2 s2 q=>?_) q;obtain⟨rfl,rfl⟩:=q;exact⟨_,hj,Ut⟩
 | _=>intro K s h;exact h.elim
theorem ft.body (hp:P.follows .mixedOrders=true) {g:Nat} {c:Code} (hf:P.funcs[g]?=some fn) (hn:(fn.name == "runtime.NumGoroutine")=false) (hb:fn.body=some c)
 (h:wx P ρ (args.length+(fn.ntmps - args.length)) c (vA P fn.results.toList R) ⟨cz args 0 .nil,M,nx⟩):ft P ρ g args M nx R:=by
 intro w σ vs aQ ce aX o a K Q hK;have gy:(callFunc g vs.toArray).run P w = .ok (.enter g vs.toArray) w:=by simp only[callFunc,aav,run_program,aar,hf,hn,hb,isNone_some,aay,if_false,aaA]
 rw[gy];show Calls P g vs.toArray w _;refine(callsIn_wide (n:=0)).1 ?_;refine callsIn_of_wp_marks (F:=FW none) hf hb (jh none _) ?_;refine Dh hp c _ _ _ w σ h (qk aQ ce aX) _ fun e s' a' w' σ' Ml kU=>?_
 have fin:(∃vs,cB P s' fn.results.toList=some vs/\R (cR vs,s'.M,s'.nx))->LeavesInM (FW none) 0 P fn a'.tmps (fun
  | .returned v,w''=>K (a.put o.dst v) w''
  | .panicked chain,w''=>Q (.panic chain) a w''
  | .outgrown,_=>LetsOut Q) a'.defers .returning w':=by
  rintro⟨vs',CR,hR⟩;exact ue kU ce CR fun v w'' σ'' q1 q2 q3 q4 q5=>hK v w'' ⟨_,hR,σ'',q1,q2,q3,q4,q5⟩
 cases e with
 | normal=>exact fin Ml
 | ret=>exact fin Ml
 | exit id=>exact Ml.elim
theorem ar.body (hp:P.follows .mixedOrders=true) {g:Nat} {fn:Func} {c:Code} {args:List XV} {R:ew->Prop} (hf:P.funcs[g]?=some fn) (hn:(fn.name == "runtime.NumGoroutine")=false) (hb:fn.body=some c)
 (h:wx P ρ (args.length+(fn.ntmps - args.length)) c (vA P fn.results.toList R) ⟨cz args 0 .nil,M,nx⟩):ar P ρ g args M nx R:=by
 refine⟨ft.body hp hf hn hb h,fun hd ⟨r0,mP⟩=>?_⟩;obtain⟨o,h1,h2⟩:=Py hd _ _ _ h;have fin:∀(R':ew->Prop),(∀e s,o=some (e,s)->vA P fn.results.toList R' e s)->ft P ρ g args M nx R':=fun R' NN=>ft.body hp hf hn hb (cC c _ _ _ NN h2)
 cases o with
 | none=>exact⟨r0,mP,fin _ fun e s q=>by cases q⟩
 | some r =>
   obtain⟨e1,s1⟩:=r;have hk:=h1 e1 s1 rfl;cases e1 with
   | normal =>
     obtain⟨vs,q1,q2⟩:=hk;exact⟨_,q2,fin _ fun e s q=>by cases q;exact⟨vs,q1,rfl⟩⟩
   | ret =>
     obtain⟨vs,q1,q2⟩:=hk;exact⟨_,q2,fin _ fun e s q=>by cases q;exact⟨vs,q1,rfl⟩⟩
   | exit id=>exact hk.elim
end
section
inductive Fr where
 | sq (c:Code)
 | bk (id:Nat)
 | lp (I:Nat->XS->Prop) (k:Nat)
def pK (P:Program) (ρ:aK) (n:Nat):List Fr->(bg->XS->Prop)->bg->XS->Prop
 | [],Q=>Q
 | .sq b::fs,Q=>fx (wx P ρ n b (pK P ρ n fs Q)) (pK P ρ n fs Q)
 | .bk id::fs,Q=>fun e s=>pK P ρ n fs Q (Cj id e) s
 | .lp I k::fs,Q=>w_ I k (pK P ρ n fs Q)
def W (P:Program) (ρ:aK) (n:Nat) (c:Code) (fs:List Fr) (Q:bg->XS->Prop) (s:XS):Prop:=wx P ρ n c (pK P ρ n fs Q) s
def T (P:Program) (ρ:aK) (n:Nat) (fs:List Fr) (Q:bg->XS->Prop) (e:bg) (s:XS):Prop:=pK P ρ n fs Q e s
variable {P:Program} {ρ:aK} {n:Nat} {fs:List Fr} {Q:bg->XS->Prop} {s:XS} {a b c:Code} {env:eX} {M:Hp} {nx key i id:Nat} {Γ:cc} {all os:List Oper} {F:XS->Prop} {G:XS->jg->Prop} {log:jg}
theorem ND:W P ρ n (.seq a b) fs Q s=W P ρ n a (.sq b::fs) Q s:=rfl
theorem l9:W P ρ n (.block id c) fs Q s=W P ρ n c (.bk id::fs) Q s:=rfl
theorem PN:W P ρ n .skip fs Q s=T P ρ n fs Q .normal s:=rfl
theorem Tx:W P ρ n .ret fs Q s=T P ρ n fs Q .ret s:=rfl
theorem PI:W P ρ n (.exit id) fs Q s=T P ρ n fs Q (.exit id) s:=rfl
theorem Si (e:bg):T P ρ n [] Q e s=Q e s:=rfl
theorem WF:T P ρ n (.sq b::fs) Q .normal s=W P ρ n b fs Q s:=rfl
theorem IX:T P ρ n (.sq b::fs) Q .ret s=T P ρ n fs Q .ret s:=rfl
theorem EL:T P ρ n (.sq b::fs) Q (.exit i) s=T P ρ n fs Q (.exit i) s:=rfl
theorem WX:T P ρ n (.bk id::fs) Q .normal s=T P ρ n fs Q .normal s:=rfl
theorem G0:T P ρ n (.bk id::fs) Q .ret s=T P ρ n fs Q .ret s:=rfl
theorem Ep:T P ρ n (.bk id::fs) Q (.exit i) s=if i=id then T P ρ n fs Q .normal s else T P ρ n fs Q (.exit i) s:=by
 unfold T;simp only[pK,Cj];by_cases h:i=id;·subst h;simp
 rw[if_neg h];cases hb:aaW i id with
 | true=>exact(h (aaB hb)).elim
 | false=>rfl
theorem Yc {I:Nat->XS->Prop} {k:Nat}:T P ρ n (.lp I k::fs) Q .normal s = ∃j,j<k/\I j s:=rfl
theorem G_ {I:Nat->XS->Prop} {k:Nat}:T P ρ n (.lp I k::fs) Q .ret s=T P ρ n fs Q .ret s:=rfl
theorem FM {I:Nat->XS->Prop} {k:Nat}:T P ρ n (.lp I k::fs) Q (.exit i) s=T P ρ n fs Q (.exit i) s:=rfl
theorem aC (I:Nat->XS->Prop) (k:Nat) (h0:I k s) (h:∀k s',I k s'->W P ρ n c (.lp I k::fs) Q s'):W P ρ n (.loop c) fs Q s:=⟨I,⟨k,h0⟩,h⟩
def cW (P:Program) (ρ:aK) (n:Nat) (a b:Code) (fs:List Fr) (Q:bg->XS->Prop) (s:XS):XV->Prop
 | .bool v=>(v=true->W P ρ n a fs Q s)/\(v=false->W P ρ n b fs Q s)
 | _=>False
theorem Pu {x:Operand}:W P ρ n (.cond x a b) fs Q ⟨env,M,nx⟩=cW P ρ n a b fs Q ⟨env,M,nx⟩ (cG env x):=by
 refine propext ⟨fun⟨v,h,h1,h2⟩=>?_,fun h=>?_⟩
 ·simp only at h
  rw[h];exact⟨h1,h2⟩
 unfold cW at h;split at h
 ·rename_i v hv
  exact⟨v,hv,h⟩
 exact h.elim
theorem LP:cW P ρ n a b fs Q s (.bool true)=W P ρ n a fs Q s:=propext ⟨fun h=>h.1 rfl,fun h=>⟨fun _=>h,(fun e=>by cases e)⟩⟩
theorem Hh:cW P ρ n a b fs Q s (.bool false)=W P ρ n b fs Q s:=propext ⟨fun h=>h.2 rfl,fun h=>⟨(fun e=>by cases e),fun _=>h⟩⟩
theorem Qi {l:List Oper}:W P ρ n (.region id l.toArray false) fs Q s=RN P ρ n l l s (T P ρ n fs Q .normal):=rfl
def eD (l:List Oper) (F:XS->Prop) (s:XS) (log:jg):Prop:=g_ l log=true/\F s
theorem OH {l:List Oper} (h:(jq l&&ko l)=true):W P ρ n (.region id l.toArray true) fs Q s=RD P ρ n l l 0 s [] (eD l (T P ρ n fs Q .normal)):=by rw[aaF]at h;exact propext ⟨fun q=>q.2.2,fun q=>⟨h.1,h.2,q⟩⟩
def sN (P:Program) (ρ:aK) (n:Nat) (all os:List Oper) (env:eX) (M:Hp) (nx:Nat) (d:Option Nat) (F:XS->Prop):Option bZ->Prop
 | none=>False
 | some e=>∃be,cu n env d e.val=some be/\RN P ρ n all os ⟨be,aY M e.upd,nx+1⟩ F
theorem Sg {d:Nat} {rd:List Nat} (h:d<n):sN P ρ n all os env M nx (some d) F (some ⟨v,rd,us⟩)=RN P ρ n all os ⟨aG env d v,aY M us,nx+1⟩ F:=by
 have hb:abc d n=true:=by rw[abD];exact h
 refine propext ⟨fun⟨e,h1,h2⟩=>?_,fun h=>⟨_,by simp only[cu,hb],h⟩⟩;simp only[cu,hb,aat]at h1;subst h1;exact h2
theorem Kz {rd:List Nat}:sN P ρ n all os env M nx none F (some ⟨v,rd,us⟩)=RN P ρ n all os ⟨env,aY M us,nx+1⟩ F :=
 propext ⟨fun⟨e,h1,h2⟩=>by simp only[cu,aat]at h1;subst h1;exact h2,fun h=>⟨_,rfl,h⟩⟩
def eV:Op->Bool
 | .call c=>match c.callee with | .builtin _=>true | _=>false
 | .next _ _=>false
 | _=>true
theorem iI {c:Call} (h:eV (.call c)=true):ca env c=none:=by
 unfold eV at h;simp only at h;split at h;·rename_i hc;unfold ca;rw[hc]
 cases h
theorem Aq {o:Op} {K:ew->Prop} (h:eV o=true):OX P ρ env M nx o K ↔ ∃e,cY P g0 env M nx o=some e/\K (e.val,aY M e.upd,nx+1):=by
 refine⟨fun hh=>?_,fun hh=>.inl hh⟩;rcases hh with hh | ⟨c,g,args,R,df,hc,_⟩ | ⟨c,g,args,e,hi,df,hc,_⟩ | ⟨it,L,_,df,_⟩
 ·exact hh
 ·subst df;rw[iI h]at hc;cases hc
 ·subst df;rw[iI h]at hc;cases hc
 subst df;cases h
theorem IG {d:Option Nat} {o:Option bZ}:(∃e,o=some e/\∃be,cu n env d e.val=some be/\RN P ρ n all os ⟨be,aY M e.upd,nx+1⟩ F) ↔ sN P ρ n all os env M nx d F o:=by
 constructor
 ·rintro⟨e,rfl,h2⟩
  exact h2
 intro h;cases o with
 | none=>exact h.elim
 | some e=>exact⟨e,rfl,h⟩
theorem e_ {d:Option Nat} (h:eV op=true) :
 RN P ρ n all (⟨d,op,ty,pos,after,none⟩::os) ⟨env,M,nx⟩ F=sN P ρ n all os env M nx d F (cY P g0 env M nx op):=by
 refine propext ?_;unfold RN;simp only[a_];rw[Aq h];exact IG
theorem Qd:RN P ρ n all [] s F=F s:=rfl
def gN (P:Program) (ρ:aK) (n:Nat) (all os:List Oper) (env:eX) (M:Hp) (nx:Nat) (d:Option Nat) (op:Op) (F:XS->Prop):Option Bool->Prop
 | none=>False
 | some false=>∃be,cu n env d .udf=some be/\RN P ρ n all os ⟨be,M,nx⟩ F
 | some true=>sN P ρ n all os env M nx d F (cY P g0 env M nx op)
theorem mE {d:Option Nat} {g:Nat×Bool} (h:eV op=true) :
 RN P ρ n all (⟨d,op,ty,pos,after,some g⟩::os) ⟨env,M,nx⟩ F=gN P ρ n all os env M nx d op F (a_ all env (some g)):=by
 refine propext ?_;unfold RN gN;simp only;cases a_ all env (some g) with
 | none=>exact Iff.rfl
 | some b =>
   cases b with
   | false=>exact Iff.rfl
   | true =>
     simp only;rw[Aq h];exact IG
theorem Lm {d:Option Nat}:gN P ρ n all os env M nx d op F (some true)=sN P ρ n all os env M nx d F (cY P g0 env M nx op):=rfl
theorem Hu {d:Nat} (h:d<n):gN P ρ n all os env M nx (some d) op F (some false)=RN P ρ n all os ⟨aG env d .udf,M,nx⟩ F:=by
 have hb:abc d n=true:=by rw[abD];exact h
 refine propext ⟨fun⟨e,h1,h2⟩=>?_,fun h=>⟨_,by simp only[cu,hb],h⟩⟩;simp only[cu,hb,aat]at h1;subst h1;exact h2
def aN (P:Program) (ρ:aK) (n:Nat) (all os:List Oper) (env:eX) (d:Option Nat) (F:XS->Prop) (r:ew):Prop:=∃be,cu n env d r.1=some be/\RN P ρ n all os ⟨be,r.2.1,r.2.2⟩ F
theorem LT {d:Nat} (h:d<n):aN P ρ n all os env (some d) F (v,M,nx)=RN P ρ n all os ⟨aG env d v,M,nx⟩ F:=by
 have hb:abc d n=true:=by rw[abD];exact h
 refine propext ⟨fun⟨e,h1,h2⟩=>?_,fun h=>⟨_,by simp only[cu,hb],h⟩⟩;simp only[cu,hb,aat]at h1;subst h1;exact h2
def CN (P:Program) (ρ:aK) (n:Nat) (all os:List Oper) (env:eX) (M:Hp) (nx:Nat) (d:Option Nat) (F:XS->Prop):Option (Nat×List XV)->Prop
 | none=>False
 | some (g,args)=>(∃R,ar P ρ g args M nx R/\∀r,R r->aN P ρ n all os env d F r)\/(∃e hi,bN P ρ g args M nx e hi/\aN P ρ n all os env d F (e.val,aY M e.upd,hi))
theorem C6 {d:Option Nat} {c:Call} (h:eV (.call c)=false) :
 RN P ρ n all (⟨d,.call c,ty,pos,after,none⟩::os) ⟨env,M,nx⟩ F=CN P ρ n all os env M nx d F (ca env c):=by
 refine propext ?_;unfold RN;simp only[a_];have hx:cY P g0 env M nx (.call c)=none:=by
  unfold eV at h;simp only at h;split at h;·cases h
  rename_i hc;cases pw:c.callee with
  | builtin b=>exact(hc b pw).elim
  | _=>simp only[cY,pw]
 constructor
 ·rintro(⟨e,he,_⟩ | ⟨c',g,args,R,df,hc,hF,hR⟩ | ⟨c',g,args,e,hi,df,hc,hF,hR⟩ | ⟨it,L,_,df,_⟩)
  ·rw[hx]at he;cases he
  ·cases df;rw[hc];exact .inl ⟨R,hF,hR⟩
  ·cases df;rw[hc];exact .inr ⟨e,hi,hF,hR⟩
  cases df
 intro hh;unfold CN at hh;split at hh;·exact hh.elim
 rename_i g args hc;rcases hh with ⟨R,hF,hR⟩ | ⟨e,hi,hF,hR⟩
 ·exact .inr (.inl ⟨c,g,args,R,rfl,hc,hF,hR⟩)
 exact .inr (.inr (.inl ⟨c,g,args,e,hi,rfl,hc,hF,hR⟩))
def gC (P:Program) (ρ:aK) (n:Nat) (all os:List Oper) (env:eX) (M:Hp) (nx:Nat) (d:Option Nat) (c:Call) (F:XS->Prop):Option Bool->Prop
 | none=>False
 | some false=>∃be,cu n env d .udf=some be/\RN P ρ n all os ⟨be,M,nx⟩ F
 | some true=>CN P ρ n all os env M nx d F (ca env c)
theorem S0 {d:Option Nat} {c:Call} {g:Nat×Bool} (h:eV (.call c)=false) :
 RN P ρ n all (⟨d,.call c,ty,pos,after,some g⟩::os) ⟨env,M,nx⟩ F=gC P ρ n all os env M nx d c F (a_ all env (some g)):=by
 have h0:=C6 (P:=P) (ρ:=ρ) (n:=n) (all:=all) (os:=os) (env:=env) (M:=M) (nx:=nx) (F:=F) (d:=d) (ty:=ty) (pos:=pos) (after:=after) h;unfold RN at h0 ⊢;simp only[a_]at h0;unfold gC;cases hg:a_ all env (some g) with
 | none=>simp only[hg]
 | some b =>
   cases b with
   | false=>simp only[hg]
   | true=>simp only[hg];exact h0
theorem Ly {d:Option Nat} {c:Call}:gC P ρ n all os env M nx d c F (some true)=CN P ρ n all os env M nx d F (ca env c):=rfl
theorem IY {d:Nat} {c:Call} (h:d<n):gC P ρ n all os env M nx (some d) c F (some false)=RN P ρ n all os ⟨aG env d .udf,M,nx⟩ F:=by
 have hb:abc d n=true:=by rw[abD];exact h
 refine propext ⟨fun⟨e,h1,h2⟩=>?_,fun h=>⟨_,by simp only[cu,hb],h⟩⟩;simp only[cu,hb,aat]at h1;subst h1;exact h2
def WR:Option Oper->Option Nat
 | some o=>o.dst
 | none=>none
theorem HH (o:Oper):WR (some o)=o.dst:=rfl
theorem I6 (j:Nat):sm all j=WR all[j]?:=by unfold sm WR;rfl
def SG (want:Bool):Option XV->Option Bool
 | some (.bool b)=>some (b==want)
 | some .udf=>some false
 | _=>none
def XY (env:eX) (want:Bool):Option Nat->Option Bool
 | none=>none
 | some d=>SG want (gG env d)
theorem Iz (j:Nat) (want:Bool):a_ all env (some (j,want))=XY env want (sm all j):=by
 simp only[a_,XY,SG];cases sm all j with
 | none=>rfl
 | some d =>
   simp only;cases gG env d with
   | none=>rfl
   | some v=>cases v<;>rfl
theorem Jk (want:Bool) (d:Nat):XY env want (some d)=SG want (gG env d):=rfl
theorem GE (want b:Bool):SG want (some (.bool b))=some (b==want):=rfl
theorem SH (want:Bool):SG want (some .udf)=some false:=rfl
theorem P5:(true==true)=true:=rfl
theorem OG:(true==false)=false:=rfl
theorem Qk:(false==true)=false:=rfl
theorem PL:(false==false)=true:=rfl
theorem gQ {d:Option Nat} {g:Nat} (h:ar P ρ g args M nx R) (hR:∀r,R r->aN P ρ n all os env d F r):CN P ρ n all os env M nx d F (some (g,args)):=.inl ⟨R,h,hR⟩
def zJ (l:List Oper) (log:jg):Prop:=g_ l log=true
def sD (P:Program) (ρ:aK) (n:Nat) (all os:List Oper) (i:Nat) (env:eX) (M:Hp) (nx:Nat) (log:jg) (d:Option Nat) (G:XS->jg->Prop):Option bZ->Prop
 | none=>False
 | some e=>∃be,cu n env d e.val=some be/\RD P ρ n all os (i+1) ⟨be,aY M e.upd,nx+1⟩ (dM i e log) G
theorem L0 {d:Nat} {rd:List Nat} (h:d<n):sD P ρ n all os i env M nx log (some d) G (some ⟨v,rd,us⟩)=RD P ρ n all os (i+1) ⟨aG env d v,aY M us,nx+1⟩ (dM i ⟨v,rd,us⟩ log) G:=by
 have hb:abc d n=true:=by rw[abD];exact h
 refine propext ⟨fun⟨e,h1,h2⟩=>?_,fun h=>⟨_,by simp only[cu,hb],h⟩⟩;simp only[cu,hb,aat]at h1;subst h1;exact h2
theorem Kb {rd:List Nat}:sD P ρ n all os i env M nx log none G (some ⟨v,rd,us⟩)=RD P ρ n all os (i+1) ⟨env,aY M us,nx+1⟩ (dM i ⟨v,rd,us⟩ log) G :=
 propext ⟨fun⟨e,h1,h2⟩=>by simp only[cu,aat]at h1;subst h1;exact h2,fun h=>⟨_,rfl,h⟩⟩
theorem E1 {o:Op} (h:eV o=true):Bf P g0 nc env M nx o=match cY P g0 env M nx o with | some e=>some (e,nx+1) | none=>none:=by
 unfold Bf;cases hx:cY P g0 env M nx o with
 | some e=>rfl
 | none =>
   cases o with
   | call c=>simp only[iI h]
   | _=>rfl
theorem fd {d:Option Nat} (h:eV op=true) :
 RD P ρ n all (⟨d,op,ty,pos,after,none⟩::os) i ⟨env,M,nx⟩ log G=sD P ρ n all os i env M nx log d G (cY P g0 env M nx op):=by
 refine propext ?_;unfold RD;simp only[a_,E1 h];constructor
 ·rintro(⟨e,hi,be,(h1 | ⟨c,g,args,df,hc,_⟩),h2,h3,h4⟩ | ⟨_,_,_,c,g,args,_,df,hc,_⟩)
  rotate_right
  ·subst df
   rw[iI h]at hc;cases hc
  ·split at h1<;>(try (cases h1;done))
   rename_i e' he;cases h1;rw[he];exact⟨be,h3,h4⟩
  subst df;rw[iI h]at hc;cases hc
 intro hh;unfold sD at hh;split at hh;·exact hh.elim
 rename_i e he;obtain⟨be,h1,h2⟩:=hh;exact .inl ⟨e,nx+1,be,.inl (by rw[he]),le_succ _,h1,h2⟩
def gD (P:Program) (ρ:aK) (n:Nat) (all os:List Oper) (i:Nat) (env:eX) (M:Hp) (nx:Nat) (log:jg) (d:Option Nat) (op:Op) (G:XS->jg->Prop):Option Bool->Prop
 | none=>False
 | some false=>∃be,cu n env d .udf=some be/\RD P ρ n all os (i+1) ⟨be,M,nx⟩ log G
 | some true=>sD P ρ n all os i env M nx log d G (cY P g0 env M nx op)
theorem rJ {d:Option Nat} {g:Nat×Bool} (h:eV op=true) :
 RD P ρ n all (⟨d,op,ty,pos,after,some g⟩::os) i ⟨env,M,nx⟩ log G=gD P ρ n all os i env M nx log d op G (a_ all env (some g)):=by
 have h0:=fd (P:=P) (ρ:=ρ) (n:=n) (all:=all) (os:=os) (i:=i) (env:=env) (M:=M) (nx:=nx) (log:=log) (G:=G) (d:=d) (ty:=ty) (pos:=pos) (after:=after) h;unfold RD at h0 ⊢;simp only[a_]at h0;unfold gD;cases hg:a_ all env (some g) with
 | none=>simp only[hg]
 | some b =>
   cases b with
   | false=>simp only[hg]
   | true=>simp only[hg];exact h0
theorem Lr {d:Option Nat}:gD P ρ n all os i env M nx log d op G (some true)=sD P ρ n all os i env M nx log d G (cY P g0 env M nx op):=rfl
theorem Jj {d:Nat} (h:d<n):gD P ρ n all os i env M nx log (some d) op G (some false)=RD P ρ n all os (i+1) ⟨aG env d .udf,M,nx⟩ log G:=by
 have hb:abc d n=true:=by rw[abD];exact h
 refine propext ⟨fun⟨e,h1,h2⟩=>?_,fun h=>⟨_,by simp only[cu,hb],h⟩⟩;simp only[cu,hb,aat]at h1;subst h1;exact h2
theorem OY:RD P ρ n all [] i s log G=G s log:=rfl
def CD (P:Program) (ρ:aK) (n:Nat) (all os:List Oper) (i:Nat) (env:eX) (M:Hp) (nx:Nat) (log:jg) (d:Option Nat) (G:XS->jg->Prop):Option (Nat×List XV)->Prop
 | none=>False
 | some (g,args)=>(∃e hi,bN P ρ g args M nx e hi/\∃be,cu n env d e.val=some be/\RD P ρ n all os (i+1) ⟨be,aY M e.upd,hi⟩ (dM i e log) G) \/
   (lC all i=true/\lC all (i+1)=true/\zJ all log/\∃R,ar P ρ g args M nx R/\∀r,R r->∃be,cu n env d r.1=some be/\RD P ρ n all os (i+1) ⟨be,r.2.1,r.2.2⟩ [] G)
theorem Dd {d:Option Nat} {c:Call} (h:eV (.call c)=false) :
 RD P ρ n all (⟨d,.call c,ty,pos,after,none⟩::os) i ⟨env,M,nx⟩ log G=CD P ρ n all os i env M nx log d G (ca env c):=by
 refine propext ?_;have hx:cY P g0 env M nx (.call c)=none:=by
  unfold eV at h;simp only at h;split at h;·cases h
  rename_i hc;cases pw:c.callee with
  | builtin b=>exact(hc b pw).elim
  | _=>simp only[cY,pw]
 unfold RD;simp only[a_,Bf,hx,nc];constructor
 ·rintro(⟨e,hi,be,(h1 | ⟨c',g,args,df,hc,hS⟩),h2,h3,h4⟩ | ⟨b1,b2,b3,c',g,args,R,df,hc,hF,hR⟩)
  ·split at h1
   ·simp at h1
   cases h1
  ·cases df
   rw[hc];exact .inl ⟨e,hi,hS,be,h3,h4⟩
  cases df;rw[hc];exact .inr ⟨b1,b2,b3,R,hF,hR⟩
 intro hh;unfold CD at hh;split at hh;·exact hh.elim
 rename_i g args hc;rcases hh with ⟨e,hi,hS,be,h1,h2⟩ | ⟨b1,b2,b3,R,hF,hR⟩
 ·exact .inl ⟨e,hi,be,.inr ⟨c,g,args,rfl,hc,hS⟩,hS.2.2.2.1,h1,h2⟩
 exact .inr ⟨b1,b2,b3,c,g,args,R,rfl,hc,hF,hR⟩
theorem aT {d g:Nat} {rd:List Nat} (h:bN P ρ g args M nx ⟨v,rd,us⟩ hi) (hd:d<n) (hR:RD P ρ n all os (i+1) ⟨aG env d v,aY M us,hi⟩ (dM i ⟨v,rd,us⟩ log) G):CD P ρ n all os i env M nx log (some d) G (some (g,args)):=by
 have hb:abc d n=true:=by rw[abD];exact hd
 exact .inl ⟨_,hi,h,_,by simp only[cu,hb],hR⟩
def aD (P:Program) (ρ:aK) (n:Nat) (all os:List Oper) (i:Nat) (env:eX) (d:Option Nat) (G:XS->jg->Prop) (r:ew):Prop:=∃be,cu n env d r.1=some be/\RD P ρ n all os (i+1) ⟨be,r.2.1,r.2.2⟩ [] G
theorem K8 {d:Nat} (h:d<n):aD P ρ n all os i env (some d) G (v,M,nx)=RD P ρ n all os (i+1) ⟨aG env d v,M,nx⟩ [] G:=by
 have hb:abc d n=true:=by rw[abD];exact h
 refine propext ⟨fun⟨e,h1,h2⟩=>?_,fun h=>⟨_,by simp only[cu,hb],h⟩⟩;simp only[cu,hb,aat]at h1;subst h1;exact h2
theorem lL {d:Option Nat} {g:Nat} (h:ar P ρ g args M nx R) (hb:(lC all i&&lC all (i+1))=true) (hl:zJ all log) (hR:∀r,R r->aD P ρ n all os i env d G r):CD P ρ n all os i env M nx log d G (some (g,args)):=by rw[aaF]at hb;exact .inr ⟨hb.1,hb.2,hl,R,h,hR⟩
theorem ar.walk (hp:P.follows .mixedOrders=true) {g:Nat} {c:Code} {rs:List ResultVar} (hf:P.funcs[g]?=some fn) (hn:(fn.name == "runtime.NumGoroutine")=false) (hb:fn.body=some c) (hm:args.length+(fn.ntmps - args.length)=m) (hr:fn.results.toList=rs)
 (h:W P ρ m c [] (vA P rs R) ⟨cz args 0 .nil,M,nx⟩):ar P ρ g args M nx R:=by
 subst hm hr;exact ar.body hp hf hn hb h
end
section
variable {P:Program} {ρ:aK} {n:Nat} {env:eX} {M:Hp} {key:Nat} {Γ:cc}
def vP:Option XV->Option bZ
 | some v=>some ⟨v,[],[]⟩
 | none=>none
theorem EM (v:XV):vP (some v)=some ⟨v,[],[]⟩:=rfl
def PU:Option XV->XV
 | some v=>v
 | none=>.un
theorem FN (v:XV):PU (some v)=v:=rfl
theorem Kr (t:Nat):cG env (.tmp t)=PU (gG env t):=by unfold cG PU;rfl
theorem ZJ (v:Value):cG env (.const v)=fN v:=rfl
theorem GN (f:Nat):cG env (.func f) = .fn (.func f) [] []:=rfl
theorem GZ (k:IntKind) (n:Int):fN (.int k n) = .int k n:=rfl
theorem FG (b:Bool):fN (.bool b) = .bool b:=rfl
theorem Eg:fN (.slice none 0 0) = .nils:=rfl
theorem E3:fN (.pointer none) = .nilp:=rfl
theorem FO:fN .nilFunc = .nilf:=rfl
theorem EH:fN (.map none) = .nilm:=rfl
theorem IM (b:ByteArray):fN (.string b) = .str (b.data.toList.map fun c=>c.toNat):=rfl
theorem G1:lX env []=[]:=rfl
theorem Ew (x:Operand) (l:List Operand):lX env (x::l)=cG env x::lX env l:=rfl
theorem FJ:fk env []=[]:=rfl
theorem Bl (i:Nat) (x:Operand) (l:List (Nat×Operand)):fk env ((i,x)::l)=(i,cG env x)::fk env l:=rfl
theorem omap_none:rN env none=none:=rfl
theorem YV (x:Operand):rN env (some x)=some (cG env x):=rfl
theorem oX (M:Hp):aY M []=M:=rfl
theorem pg (M:Hp) (k:Nat) (o:bx) (us:List (Nat×Option bx)):aY M ((k,some o)::us)=aY (aG M k o) us:=rfl
theorem yi (M:Hp) (k:Nat) (us:List (Nat×Option bx)):aY M ((k,none)::us)=aY (vO M k) us:=rfl
theorem SB (i:Nat) (v:XV) (l:jg):dM i ⟨v,[],[]⟩ l=l:=rfl
theorem R8 (i:Nat) (v:XV) (k:Nat) (ks:List Nat) (us:List (Nat×Option bx)) (l:jg):dM i ⟨v,k::ks,us⟩ l=(i,k::ks,bM us)::l:=rfl
theorem Sl (i:Nat) (v:XV) (rd:List Nat) (u:Nat×Option bx) (us:List (Nat×Option bx)) (l:jg):dM i ⟨v,rd,u::us⟩ l=(i,rd,bM (u::us))::l:=by cases rd<;>rfl
theorem LQ:bM []=[]:=rfl
theorem Ks (k:Nat) (o:Option bx) (us:List (Nat×Option bx)):bM ((k,o)::us)=k::bM us:=rfl
def sa (P:Program) (t:Nat):Option (Nat×Bool):=match sB P t,cE P t with | some b,some n=>some (n,b) | _,_=>none
def Ru:Option (Nat×Bool)->List XV->Option XV
 | some (n,true),cs=>match aaP n cs.length with | true=>some (.agg (cs.take n)) | false=>none
 | some (_,false),v::_=>some v
 | _,_=>none
theorem ma (t:Nat) (cs:List XV):dR P t cs=Ru (sa P t) cs:=by
 unfold dR sa;cases sB P t with
 | none=>rfl
 | some b=>cases cE P t with
   | none=>cases b<;>rfl
   | some n=>cases b with
     | true=>rfl
     | false=>cases cs<;>rfl
theorem TA (n:Nat) (v:XV) (cs:List XV):Ru (some (n,false)) (v::cs)=some v:=rfl
theorem HJ (n:Nat) (cs:List XV) (h:n<=cs.length):Ru (some (n,true)) cs=some (.agg (cs.take n)):=by simp only[Ru,aaL h]
def fz (P:Program) (s:Nat):List (Nat×Nat×Nat):=match P.underlying s with
 | some (.struct fs)=>fs.toList.map fun g=>(g.offset,(cE P g.type).getD 0,g.type)
 | _=>[]
def Vf (n off:Nat):Option (Nat×Nat×Nat)->Option XV
 | some (o,_+1,_)=>some (.mp n (off+o))
 | _=>none
theorem xC (s f n off:Nat):ig P s f (.mp n off)=Vf n off ((fz P s)[f]?):=by
 unfold ig fz;cases P.underlying s with
 | none=>simp[Vf]
 | some d =>
   cases d with
   | struct fs =>
     simp only[acg,aaQ];cases fs[f]? with
     | none=>rfl
     | some g =>
       simp only[adb];cases cE P g.type with
       | none=>rfl
       | some m=>cases m<;>rfl
   | _=>simp[Vf]
theorem Hy (n off o m t:Nat):Vf n off (some (o,m+1,t))=some (.mp n (off+o)):=rfl
def fvC (P:Program) (cs:List XV):Option (Nat×Nat×Nat)->Option XV
 | some (o,_,t)=>dR P t (cs.drop o)
 | none=>none
def es (P:Program) (t:Nat):Option Nat:=match P.underlying t with | some (.slice el)=>cE P el | _=>none
def Va (n esz off len:Nat) (i:Int):Option Nat->Option XV
 | some z=>match eW i len,aaW z esz with | true,true=>some (.mp n (off+i.toNat*esz)) | _,_=>none
 | none=>none
theorem cy (t n esz off len cap:Nat) (k:IntKind) (i:Int):br P t (.sl n esz off len cap) (.int k i)=Va n esz off len i (es P t):=by
 unfold br es Va;cases P.underlying t with
 | none=>rfl
 | some d =>
   cases d with
   | slice el =>
     simp only;cases cE P el with
     | none=>cases eW i len<;>rfl
     | some z=>cases eW i len<;>cases hb:aaW z esz<;>simp[hb]
   | _=>rfl
theorem oY {i:Int} {len:Nat} (h0:0<=i) (h1:i<len):eW i len=true:=by
 cases i with
 | ofNat k =>
   simp only[eW,abD];have:(k:Int)<len:=h1;omega
 | negSucc k=>omega
theorem ev (n esz off len:Nat) (i:Int) (h0:0<=i) (h1:i<len):Va n esz off len i (some esz)=some (.mp n (off+i.toNat*esz)):=by simp only[Va,oY h0 h1,acZ]
def PT (P:Program) (t:Nat):Option (Nat×Nat×Nat):=match P.underlying t with
 | some (.array len el)=>match cE P el with | some sz=>some (len,sz,el) | none=>none
 | _=>none
def U_ (P:Program) (cs:List XV) (i:Int):Option (Nat×Nat×Nat)->Option XV
 | some (len,sz,el)=>match eW i len with | true=>dR P el (cs.drop (i.toNat*sz)) | false=>none
 | none=>none
theorem Ez (t:Nat) (cs:List XV) (k:IntKind) (i:Int):nf P t (.agg cs) (.int k i)=U_ P cs i (PT P t):=by
 unfold nf U_ PT;cases P.underlying t with
 | none=>rfl
 | some d =>
   cases d with
   | array len el =>
     simp only;cases cE P el with
     | none=>cases eW i len<;>simp
     | some z=>cases h:eW i len<;>simp[h]
   | _=>rfl
theorem II (cs:List XV) (i:Int) (len sz el:Nat) (h0:0<=i) (h1:i<len):U_ P cs i (some (len,sz,el))=dR P el (cs.drop (i.toNat*sz)):=by simp only[U_,oY h0 h1]
def Vc (len sz:Nat) (i:Nat):Option (Nat×Nat):=some (i*sz,sz)
theorem OD (len sz i:Nat):Vc len sz i=some (i*sz,sz):=rfl
theorem OW (x:Operand):cY P Γ env M key (.move x)=some ⟨cG env x,[],[]⟩:=rfl
theorem GM (x:Operand):cY P Γ env M key (.assign x)=some ⟨cG env x,[],[]⟩:=rfl
def CW (a b:XV):XV->Option bZ
 | .bool true=>some ⟨a,[],[]⟩
 | .bool false=>some ⟨b,[],[]⟩
 | _=>none
theorem OP (c a b:Operand):cY P Γ env M key (.pick c a b)=CW (cG env a) (cG env b) (cG env c):=by
 simp only[cY,CW];cases cG env c with
 | bool b=>cases b<;>rfl
 | _=>rfl
theorem Lv (a b:XV):CW a b (.bool true)=some ⟨a,[],[]⟩:=rfl
theorem Sr (a b:XV):CW a b (.bool false)=some ⟨b,[],[]⟩:=rfl
def Td (v:XV):Bool->Option bZ
 | true=>some ⟨v,[],[]⟩
 | false=>none
theorem BX (x:Operand):cY P Γ env M key (.nilCheck x)=Td (cG env x) (zU (cG env x)):=rfl
theorem P8 (n o:Nat) (v:XV):Td v (zU (.mp n o))=some ⟨v,[],[]⟩:=rfl
theorem Pz (t:Nat) (a:Operand):cY P Γ env M key (.load t a)=b_ P M t (cG env a):=rfl
def Vg (n:Nat):Option XV->Option bZ
 | some v=>some ⟨v,[n],[]⟩
 | none=>none
theorem GO (n:Nat) (v:XV):Vg n (some v)=some ⟨v,[n],[]⟩:=rfl
def Wy (P:Program) (t n off:Nat):Option bx->Option bZ
 | some (.row cs) | some (.cst cs)=>Vg n (dR P t (cs.drop off))
 | _=>none
theorem KL (t n off:Nat) (cs:List XV):Wy P t n off (some (.row cs))=Vg n (dR P t (cs.drop off)):=rfl
theorem Ke (t n off:Nat):b_ P M t (.mp n off)=Wy P t n off (gG M n):=by
 simp only[b_,vR,Wy,Vg];cases gG M n with
 | none=>rfl
 | some o=>cases o<;>rfl
theorem Li (t:Nat) (a x:Operand):cY P Γ env M key (.store t a x)=jG P M t (cG env x) (cG env a):=rfl
def U3 (n off:Nat) (x:XV) (sz:Option Nat):Option bx->Option bZ
 | some (.row cs)=>match sz with
   | some sz=>match aaW (cellsOf x).length sz,aaP (off+sz) cs.length,(cellsOf x).all ax with
     | true,true,true=>some ⟨.udf,[n],[(n,some (.row (bp cs off (cellsOf x))))]⟩
     | _,_,_=>none
   | none=>none
 | _=>none
theorem uq (t n off:Nat) (x:XV):jG P M t x (.mp n off)=U3 n off x (cE P t) (gG M n):=by
 simp only[jG,bA,U3];cases gG M n with
 | none=>rfl
 | some o =>
   cases o with
   | row cs=>cases cE P t<;>rfl
   | _=>rfl
theorem xr (n off sz:Nat) (x:XV) (cs:List XV) (h1:(cellsOf x).length=sz) (h2:off+sz<=cs.length) (h3:(cellsOf x).all ax=true):U3 n off x (some sz) (some (.row cs))=some ⟨.udf,[n],[(n,some (.row (bp cs off (cellsOf x))))]⟩:=by subst h1;simp only[U3,acZ,aaL h2,h3]
theorem wu (cs:List XV):cellsOf (.agg cs)=cs:=rfl
theorem Xg (k:IntKind) (i:Int):cellsOf (.int k i)=[.int k i]:=rfl
theorem tK (b:Bool):cellsOf (.bool b)=[.bool b]:=rfl
theorem zn (a b:Nat):cellsOf (.mp a b)=[.mp a b]:=rfl
theorem zx (n e o l c:Nat):cellsOf (.sl n e o l c)=[.sl n e o l c]:=rfl
theorem Ae (a:Nat):cellsOf (.mm a)=[.mm a]:=rfl
theorem tV:cellsOf .nils=[.nils]:=rfl
theorem Bk:cellsOf .nilp=[.nilp]:=rfl
theorem BY:cellsOf .nilm=[.nilm]:=rfl
theorem BH:cellsOf .nilf=[.nilf]:=rfl
theorem zE (f:Fn) (a b:List XV):cellsOf (.fn f a b)=[.fn f a b]:=rfl
theorem xh (s:List Nat):cellsOf (.str s)=[.str s]:=rfl
theorem wc (k:IntKind) (i:Int):ax (.int k i)=true:=rfl
theorem uc (b:Bool):ax (.bool b)=true:=rfl
theorem AC (a b:Nat):ax (.mp a b)=true:=rfl
theorem AJ (n e o l c:Nat):ax (.sl n e o l c)=true:=rfl
theorem Aj (a:Nat):ax (.mm a)=true:=rfl
theorem tl:ax .nils=true:=rfl
theorem Bs:ax .nilp=true:=rfl
theorem Bq:ax .nilm=true:=rfl
theorem tm:ax .nilf=true:=rfl
theorem UV (f:Fn) (a b:List XV):ax (.fn f a b)=true:=rfl
theorem wd (s:List Nat):ax (.str s)=true:=rfl
theorem ze (s f:Nat) (x:Operand):cY P Γ env M key (.fieldAddr s x f)=vP (ig P s f (cG env x)):=rfl
theorem zw (t:Nat) (x i:Operand):cY P Γ env M key (.indexAddr t x i)=vP (br P t (cG env x) (cG env i)):=rfl
theorem KT (t:Nat) (x i:Operand):cY P Γ env M key (.index t x i)=vP (nf P t (cG env x) (cG env i)):=rfl
theorem IA (t:Nat) (x i:Operand) (ok:Bool):cY P Γ env M key (.lookup t x i ok)=cT P M t (cG env x) (cG env i) ok:=rfl
theorem Al (t:Nat) (m k x:Operand):cY P Γ env M key (.mapUpdate t m k x)=dP P M t (cG env m) (cG env k) (cG env x):=rfl
theorem KI (op:BinOp) (t:Nat) (x y:Operand) (g:_):cY P Γ env M key (.binOp op t x y g)=vP (io P Γ t op (SX y) (cG env x) (cG env y)):=rfl
theorem O6 (op:UnOp) (t:Nat) (x:Operand):cY P Γ env M key (.unOp op t x)=vP (S_ op (cG env x)):=rfl
theorem EF (s d:Nat) (x:Operand):cY P Γ env M key (.convert s d x)=li P key M s d (cG env x):=rfl
def alC (key:Nat):Option (List XV)->Option bZ
 | some zs=>some ⟨.mp key 0,[],[(key,some (.row zs))]⟩
 | none=>none
theorem KS (t:Nat):cY P Γ env M key (.alloc t)=alC key (aJ P t):=rfl
theorem GR (zs:List XV):alC key (some zs)=some ⟨.mp key 0,[],[(key,some (.row zs))]⟩:=rfl
def bxC (key:Nat) (cs:List XV):Bool->Option bZ
 | true=>some ⟨.mp key 0,[],[(key,some (.row cs))]⟩
 | false=>none
theorem Sq (t:Nat) (x:Operand):cY P Γ env M key (.box t x)=bxC key (cellsOf (cG env x)) ((cellsOf (cG env x)).all ax):=rfl
theorem Ie (cs:List XV):bxC key cs true=some ⟨.mp key 0,[],[(key,some (.row cs))]⟩:=rfl
theorem EW (t:Nat):cY P Γ env M key (.makeMap t none)=some ⟨.mm key,[],[(key,some (.map [] 0))]⟩:=rfl
theorem Bu (f:Fn) (first caps:Array Operand):cY P Γ env M key (.makeFunc f first caps)=some ⟨.fn f (lX env first.toList) (lX env caps.toList),[],[]⟩:=rfl
def WS (i:Nat):XV->Option bZ
 | .tup vs=>vP vs[i]?
 | _=>none
theorem EC (x:Operand) (i:Nat):cY P Γ env M key (.extract x i)=WS i (cG env x):=by
 simp only[cY,WS,vP,bZ.pure];cases cG env x with
 | tup vs=>simp only;cases vs[i]? <;> rfl
 | _=>rfl
theorem Km (i:Nat) (vs:List XV):WS i (.tup vs)=vP vs[i]?:=rfl
def DV (place:Nat->Option (Nat×Nat)) (cs:List XV) (v:XV) (rest:List (Nat×XV)):Option (Nat×Nat)->Option (List XV)
 | some (off,sz)=>match aaW (cellsOf v).length sz,(cellsOf v).all ax,aaP (off+sz) cs.length with
   | true,true,true=>gl place (bp cs off (cellsOf v)) rest
   | _,_,_=>none
 | none=>none
theorem BB (place:Nat->Option (Nat×Nat)) (cs:List XV) (i:Nat) (v:XV) (rest:List (Nat×XV)):gl place cs ((i,v)::rest)=DV place cs v rest (place i):=by
 unfold gl DV;cases place i with
 | none=>rfl
 | some p=>rfl
theorem Fd (place:Nat->Option (Nat×Nat)) (cs:List XV):gl place cs []=some cs:=rfl
theorem BJ (place:Nat->Option (Nat×Nat)) (cs:List XV) (v:XV) (rest:List (Nat×XV)) (off sz:Nat) (h1:(cellsOf v).length=sz) (h2:(cellsOf v).all ax=true) (h3:off+sz<=cs.length):DV place cs v rest (some (off,sz))=gl place (bp cs off (cellsOf v)) rest:=by subst h1;simp only[DV,acZ,h2,aaL h3]
theorem KQ (cs vs:List XV):bp cs 0 vs=bp.over cs vs:=by unfold bp;rfl
theorem Kq (c:XV) (cs vs:List XV) (n:Nat):bp (c::cs) (n+1) vs=c::bp cs n vs:=rfl
theorem Pd (cs:List XV):bp.over cs []=cs:=by cases cs<;>rfl
theorem P1 (c v:XV) (cs vs:List XV):bp.over (c::cs) (v::vs)=v::bp.over cs vs:=rfl
def oj (pl:List (Nat×Nat×Nat)) (i:Nat):Option (Nat×Nat):=pl[i]?.map fun g=>(g.1,g.2.1)
def Nj:Option (List XV)->Option XV
 | some cs=>some (.agg cs)
 | none=>none
theorem Ji (cs:List XV):Nj (some cs)=some (.agg cs):=rfl
theorem BM {fs:List Field}:∀{pl:List (Nat×Nat)},jo P fs=some pl->pl=fs.map fun g=>(g.offset,(cE P g.type).getD 0):=by
 induction fs with
 | nil=>intro pl h;cases h;rfl
 | cons f fs ih =>
   intro pl h;unfold jo at h;split at h<;>(try (cases h;done))
   rename_i n l h1 h2;cases h;rw[ih h2,aa3,h1];rfl
def mQ (P:Program) (t:Nat):Bool:=match P.underlying t with
 | some (.struct fs)=>(jo P fs.toList).isSome
 | _=>false
theorem xY (t:Nat) (ps:List (Nat×XV)) (zs:List XV) (hz:aJ P t=some zs) (hs:mQ P t=true):kP P t ps=Nj (gl (oj (fz P t)) zs ps):=by
 unfold kP mQ at *;rw[hz];split at hs
 ·rename_i fs hfs
  rw[hfs];simp only;cases hp:jo P fs.toList with
  | none=>rw[hp]at hs;cases hs
  | some pl =>
    have:=BM hp;have gE:(fun i=>pl[i]?)=oj (fz P t):=by funext i;simp only[oj,fz,hfs,this,acg,adr];rfl
    simp only[gE,Nj];rfl
 cases hs
theorem FC (t:Nat) (ps:List (Nat×XV)) (zs:List XV) (len sz el:Nat) (hz:aJ P t=some zs) (ha:PT P t=some (len,sz,el)):kP P t ps=Nj (gl (Vc len sz) zs ps):=by
 unfold PT at ha;unfold kP;rw[hz];split at ha
 ·rename_i len' el' hu
  rw[hu];simp only;split at ha
  ·rename_i z Rb
   cases ha;rw[Rb];rfl
  cases ha
 cases ha
def U2 (P:Program) (t:Nat) (ps:List (Nat×XV)):Option (List XV)->Bool->Option (Nat×Nat×Nat)->Option XV
 | some zs,true,_=>Nj (gl (oj (fz P t)) zs ps)
 | some zs,false,some (len,sz,_)=>Nj (gl (Vc len sz) zs ps)
 | _,_,_=>kP P t ps
theorem Hd (t:Nat) (ps:List (Nat×XV)):kP P t ps=U2 P t ps (aJ P t) (mQ P t) (PT P t):=by
 unfold U2;split
 ·rename_i zs h1 h2
  exact xY t ps zs h1 h2
 ·rename_i zs len sz el h1 h2 h3
  exact FC t ps zs len sz el h1 h3
 rfl
theorem SY (t:Nat) (ps:List (Nat×XV)) (zs:List XV) (a:Option (Nat×Nat×Nat)):U2 P t ps (some zs) true a=Nj (gl (oj (fz P t)) zs ps):=rfl
theorem SL (t:Nat) (ps:List (Nat×XV)) (zs:List XV) (len sz el:Nat):U2 P t ps (some zs) false (some (len,sz,el))=Nj (gl (Vc len sz) zs ps):=rfl
theorem Ka (t:Nat) (ps:Array (Nat×Operand)):cY P Γ env M key (.build t ps)=vP (kP P t (fk env ps.toList)):=rfl
theorem yx (t len:Nat) (ps:Array (Nat×Operand)):cY P Γ env M key (.buildSlice t len ps)=fi P key t len (fk env ps.toList):=rfl
def ez (P:Program) (t:Nat):Option (Nat×Nat×List XV):=match P.underlying t with
 | some (.slice el)=>match cE P el,pq P el,aJ P el with | some a,some b,some c=>some (a,b,c) | _,_,_=>none
 | _=>none
def W9 (key sz len:Nat):Option (List XV)->Option bZ
 | some cs=>some ⟨.sl key sz 0 len len,[],[(key,some (.row cs))]⟩
 | none=>none
theorem H6 (key sz len:Nat) (cs:List XV):W9 key sz len (some cs)=some ⟨.sl key sz 0 len len,[],[(key,some (.row cs))]⟩:=rfl
def XX (sz i:Nat):Option (Nat×Nat):=some (i*sz,sz)
def U7 (P:Program) (key t len:Nat) (ps:List (Nat×XV)):Option (Nat×Nat×List XV)->Option bZ
 | some (sz,_,zs)=>match aaP (len*sz) 16777216,aaW zs.length sz,aaP 1 sz with
   | true,true,true=>W9 key sz len (gl (XX sz) (lQ zs len) ps)
   | _,_,_=>none
 | none=>fi P key t len ps
theorem Nx (t len:Nat) (ps:List (Nat×XV)):fi P key t len ps=U7 P key t len ps (ez P t):=by
 unfold U7 ez;cases hu:P.underlying t with
 | none=>rfl
 | some d =>
   cases d with
   | slice el =>
     simp only;cases h1:cE P el with
     | none=>rfl
     | some a=>cases h2:pq P el with
       | none=>rfl
       | some b=>cases h3:aJ P el with
         | none=>rfl
         | some c =>
           simp only[fi,hu,h1,h3];cases aaP (len*a) 16777216<;>cases aaW c.length a<;>cases aaP 1 a<;>rfl
   | _=>rfl
theorem HD (key t len sz b:Nat) (ps:List (Nat×XV)) (zs:List XV) (h1:len*sz<=16777216) (h2:zs.length=sz) (h3:1<=sz):U7 P key t len ps (some (sz,b,zs))=W9 key sz len (gl (XX sz) (lQ zs len) ps):=by subst h2;simp only[U7,aaL h1,acZ,aaL h3]
theorem Qp (sz i:Nat):XX sz i=some (i*sz,sz):=rfl
theorem PR (zs:List XV):lQ zs 0=[]:=rfl
theorem Qh (zs:List XV) (n:Nat):lQ zs (n+1)=zs++lQ zs n:=rfl
theorem KJ (t:Nat) (op:BinOp) (yc:Bool) (k k':IntKind) (a b:Int):io P Γ t op yc (.int k a) (.int k' b)=bj op k a k' b:=rfl
theorem Ql (k:IntKind) (a b:Int):bj .add k a k b=some (.int k (k.wrap (a+b))):=by simp[bj]
theorem Qa (k:IntKind) (a b:Int):bj .sub k a k b=some (.int k (k.wrap (a - b))):=by simp[bj]
theorem PE (k:IntKind) (a b:Int):bj .mul k a k b=some (.int k (k.wrap (a*b))):=by simp[bj]
theorem Ou (k:IntKind) (a b:Int):bj .eql k a k b=some (.bool (decide (a=b))):=by simp only[bj,decide_true];rfl
theorem Qf (k:IntKind) (a b:Int):bj .neq k a k b=some (.bool (!(decide (a=b)))):=by simp only[bj,decide_true];rfl
theorem ON (k:IntKind) (a b:Int):bj .lss k a k b=some (.bool (decide (a<b))):=by simp[bj]
theorem PO (k:IntKind) (a b:Int):bj .leq k a k b=some (.bool (decide (a<=b))):=by simp[bj]
theorem PX (k:IntKind) (a b:Int):bj .gtr k a k b=some (.bool (decide (b<a))):=by simp[bj]
theorem Qb (k:IntKind) (a b:Int):bj .geq k a k b=some (.bool (decide (b<=a))):=by simp[bj]
theorem Om (b:Bool):S_ .not (.bool b)=some (.bool (!b)):=rfl
def Ge (P:Program) (t:Nat):Option IntKind:=match P.underlying t with | some (.int k)=>some k | _=>none
def X3 (P:Program) (key:Nat) (M:Hp) (s d:Nat) (k0:IntKind) (n:Int):Option IntKind->Option IntKind->Option bZ
 | some _,some k=>some ⟨.int k (k.wrap n),[],[]⟩
 | _,_=>li P key M s d (.int k0 n)
theorem Ib (s d:Nat) (k0:IntKind) (n:Int):li P key M s d (.int k0 n)=X3 P key M s d k0 n (Ge P s) (Ge P d):=by
 unfold X3;split
 ·rename_i k k' h1 h2
  unfold Ge at h1 h2;cases e1:P.underlying s with
  | none=>rw[e1]at h1;cases h1
  | some d1 =>
    cases e2:P.underlying d with
    | none=>rw[e2]at h2;cases h2
    | some d2 =>
      rw[e2]at h2;cases d2<;>(try (cases h2;done))
      cases h2;simp only[li,e1,e2];rfl
 rfl
theorem H8 (s d:Nat) (k0 k k':IntKind) (n:Int):X3 P key M s d k0 n (some k) (some k')=some ⟨.int k' (k'.wrap n),[],[]⟩:=rfl
inductive NT where
 | pt | sl | mp | fn | no
def nt (P:Program) (t:Nat):NT:=match P.underlying t with
 | some (.pointer _)=>.pt | some (.slice _)=>.sl | some (.map ..)=>.mp | some (.func ..)=>.fn | _=>.no
def Er (P:Program) (Γ:cc) (t:Nat) (op:BinOp) (yc b:Bool) (x y:XV):Bool->Option XV
 | true=>match op with | .eql=>some (.bool b) | .neq=>some (.bool (!b)) | _=>none
 | false=>io P Γ t op yc x y
def If:NT->Bool | .pt=>true | _=>false
def uf:NT->Bool | .sl=>true | _=>false
def IW:NT->Bool | .mp=>true | _=>false
theorem On (t:Nat) (op:BinOp) (yc:Bool) (n o:Nat):io P Γ t op yc (.mp n o) .nilp=Er P Γ t op yc false (.mp n o) .nilp (If (nt P t)):=by
 unfold Er If nt;cases hu:P.underlying t with
 | none=>rfl
 | some d =>
   cases d<;>first | rfl | skip
   simp only[io,vQ,hu,lT];cases op<;>rfl
theorem I_ (t:Nat) (op:BinOp) (yc:Bool):io P Γ t op yc .nilp .nilp=Er P Γ t op yc true .nilp .nilp (If (nt P t)):=by
 unfold Er If nt;cases hu:P.underlying t with
 | none=>rfl
 | some d =>
   cases d<;>first | rfl | skip
   simp only[io,vQ,hu,lT];cases op<;>rfl
theorem Cy (t:Nat) (op:BinOp) (yc:Bool) (n e o l c:Nat):io P Γ t op yc (.sl n e o l c) .nils=Er P Γ t op yc false (.sl n e o l c) .nils (uf (nt P t)):=by
 unfold Er uf nt;cases hu:P.underlying t with
 | none=>rfl
 | some d =>
   cases d<;>first | rfl | skip
   simp only[io,vQ,hu,lT];cases op<;>rfl
theorem IP (t:Nat) (op:BinOp) (yc:Bool):io P Γ t op yc .nils .nils=Er P Γ t op yc true .nils .nils (uf (nt P t)):=by
 unfold Er uf nt;cases hu:P.underlying t with
 | none=>rfl
 | some d =>
   cases d<;>first | rfl | skip
   simp only[io,vQ,hu,lT];cases op<;>rfl
theorem OB (t:Nat) (op:BinOp) (yc:Bool) (n:Nat):io P Γ t op yc (.mm n) .nilm=Er P Γ t op yc false (.mm n) .nilm (IW (nt P t)):=by
 unfold Er IW nt;cases hu:P.underlying t with
 | none=>rfl
 | some d =>
   cases d<;>first | rfl | skip
   simp only[io,vQ,hu,lT];cases op<;>rfl
theorem Hs (t:Nat) (op:BinOp) (yc:Bool):io P Γ t op yc .nilm .nilm=Er P Γ t op yc true .nilm .nilm (IW (nt P t)):=by
 unfold Er IW nt;cases hu:P.underlying t with
 | none=>rfl
 | some d =>
   cases d<;>first | rfl | skip
   simp only[io,vQ,hu,lT];cases op<;>rfl
theorem Me (t:Nat) (yc b:Bool) (x y:XV):Er P Γ t .eql yc b x y true=some (.bool b):=rfl
theorem LV:If .pt=true:=rfl
theorem KV:uf .sl=true:=rfl
theorem Kw:IW .mp=true:=rfl
theorem E8 (b:Builtin) (args:Array Operand) (ats:Array TypeId):cY P Γ env M key (.call ⟨.builtin b,args,ats⟩)=fO P M key b ats.toList (lX env args.toList):=rfl
theorem TM (t:Nat) (ts:List Nat) (x:XV):fO P M key .len (t::ts) [x]=kZ P M t x:=rfl
def TL (P:Program) (M:Hp) (t:Nat) (x:XV) (n:Nat):Bool->Option bZ
 | true=>some ⟨.int .i64 n,[],[]⟩
 | false=>kZ P M t x
theorem Cb (t n e o l c:Nat):kZ P M t (.sl n e o l c)=TL P M t (.sl n e o l c) l (uf (nt P t)):=by
 unfold TL uf nt;cases hu:P.underlying t with
 | none=>rfl
 | some d =>
   cases d<;>first | rfl | skip
   simp only[kZ,hu];rfl
theorem VU (t:Nat):kZ P M t .nils=TL P M t .nils 0 (uf (nt P t)):=by
 unfold TL uf nt;cases hu:P.underlying t with
 | none=>rfl
 | some d =>
   cases d<;>first | rfl | skip
   simp only[kZ,hu];rfl
theorem Ic (t:Nat) (x:XV) (n:Nat):TL P M t x n true=some ⟨.int .i64 n,[],[]⟩:=rfl
def FS (P:Program) (M:Hp) (key t:Nat) (s x:XV):Option (Nat×Nat×List XV)->Option (List XV×Nat×List Nat)->Option bZ
 | some (sz,eb,zs),some (ys,n,r)=>match aaP eb 128,aaP 1 sz,aaW zs.length sz,aaP n fE,ys.all ax with
   | true,true,true,true,true=>match s with
     | .nils=>match n with
       | 0=>some ⟨.nils,r,[]⟩
       | m+1=>some ⟨.sl key sz 0 (m+1) (m+1),r,[(key,some (.row ys))]⟩
     | .sl k esz off len cap=>match bA M k,aaW esz sz with
       | some cs,true=>match aaP (len+n) cap with
         | true=>match aaP (off+(len+n)*esz) cs.length with
           | true=>some ⟨.sl k esz off (len+n) cap,k::r,[(k,some (.row (bp cs (off+len*esz) ys)))]⟩
           | false=>none
         | false=>match aaW off 0,aaP (len*esz) cs.length,aaP (len+n) fE,db r k with
           | true,true,true,false=>some ⟨.sl key esz 0 (len+n) (len+n),k::r,[(k,none),(key,some (.row (cs.take (len*esz)++ys)))]⟩
           | _,_,_,_=>none
       | _,_=>none
     | _=>none
   | _,_,_,_,_=>none
 | _,_=>none
def Vb (P:Program) (M:Hp) (t:Nat) (x:XV):Option (List XV×Nat×List Nat):=match es P t with | some sz=>ij M sz x | none=>none
theorem I4 (t t':Nat) (s x:XV):fO P M key .append [t,t'] [s,x]=match P.underlying t' with
 | some (.slice _) | some .string=>gK P M key t s x
 | _=>none:=rfl
def WW (P:Program) (M:Hp) (key t t':Nat) (s x:XV):Bool->Option bZ
 | true=>gK P M key t s x
 | false=>fO P M key .append [t,t'] [s,x]
theorem Et (t t':Nat) (s x:XV):fO P M key .append [t,t'] [s,x]=WW P M key t t' s x (uf (nt P t')):=by
 unfold WW uf nt;cases hu:P.underlying t' with
 | none=>rfl
 | some d =>
   cases d<;>first | rfl | skip
   simp only[I4,hu]
theorem GG (t t':Nat) (s x:XV):WW P M key t t' s x true=gK P M key t s x:=rfl
theorem Fh (t:Nat) (s x:XV):gK P M key t s x=FS P M key t s x (ez P t) (Vb P M t x):=by
 unfold gK FS ez Vb es;cases hu:P.underlying t with
 | none=>rfl
 | some d =>
   cases d with
   | slice el =>
     simp only;cases h1:cE P el with
     | none=>rfl
     | some a=>cases h2:pq P el with
       | none=>rfl
       | some b=>cases h3:aJ P el with
         | none=>rfl
         | some c =>
           simp only;cases h4:ij M a x with
           | none=>cases aaP b 128<;>cases aaP 1 a<;>cases aaW c.length a<;>rfl
           | some y =>
             obtain⟨ys,m,r⟩:=y;simp only;cases aaP b 128<;>cases aaP 1 a<;>cases aaW c.length a<;>(try rfl)
             simp only;cases aaP m fE<;>cases ys.all ax<;>cases s<;>rfl
   | _=>rfl
theorem pO (t sz eb m:Nat) (zs ys:List XV) (r:List Nat) (x:XV) (h1:eb<=128) (h2:1<=sz) (h3:zs.length=sz) (h4:m+1<=fE) (h5:ys.all ax=true):FS P M key t .nils x (some (sz,eb,zs)) (some (ys,m+1,r))=some ⟨.sl key sz 0 (m+1) (m+1),r,[(key,some (.row ys))]⟩:=by simp only[FS,aaL h1,aaL h2,h3,acZ,aaL h4,h5]
def Pk (M:Hp) (key k sz len n:Nat) (ys:List XV) (r:List Nat):Option bx->Option bZ
 | some (.row cs)=>match aaP (len*sz) cs.length,db r k with
   | true,false=>some ⟨.sl key sz 0 (len+n) (len+n),k::r,[(k,none),(key,some (.row (cs.take (len*sz)++ys)))]⟩
   | _,_=>none
 | _=>none
theorem p0 (t sz eb k len n:Nat) (zs ys:List XV) (r:List Nat) (x:XV) (h1:eb<=128) (h2:1<=sz) (h3:zs.length=sz) (h4:1<=n) (h6:len+n<=fE) (h5:ys.all ax=true):FS P M key t (.sl k sz 0 len len) x (some (sz,eb,zs)) (some (ys,n,r))=Pk M key k sz len n ys r (gG M k):=by
 have h7:aaP (len+n) len=false:=by
  cases h:aaP (len+n) len with
  | false=>rfl
  | true=>have:=le_of_ble_eq_true h;omega
 have h8:n<=fE:=aa;simp only[FS,aaL h1,aaL h2,h3,acZ,aaL h8,h5,bA,Pk,h7,aaL h6];cases gG M k with
 | none=>rfl
 | some o =>
   cases o<;>first | rfl | skip
   simp only;cases aaP (len*sz) _<;>cases db r k<;>rfl
theorem KF (key k sz len n:Nat) (cs ys:List XV) (r:List Nat) (h1:len*sz<=cs.length) (h2:k ∉ r):Pk M key k sz len n ys r (some (.row cs))=some ⟨.sl key sz 0 (len+n) (len+n),k::r,[(k,none),(key,some (.row (cs.take (len*sz)++ys)))]⟩:=by
 have h3:db r k=false:=by
  cases h:db r k with
  | false=>rfl
  | true=>exact(h2 ((eg _ _).1 h)).elim
 simp only[Pk,aaL h1,h3]
def Rv (M:Hp) (n sz off len:Nat):Option bx->Option (List XV×Nat×List Nat)
 | some (.row cs) | some (.cst cs)=>match aaP (off+len*sz) cs.length with
   | true=>some ((cs.drop off).take (len*sz),len,[n])
   | false=>none
 | _=>none
def el2 (M:Hp) (x:XV):Option Nat->Option (List XV×Nat×List Nat)
 | some sz=>ij M sz x
 | none=>none
theorem SI (t:Nat) (x:XV):Vb P M t x=el2 M x (es P t):=by unfold Vb el2;cases es P t<;>rfl
theorem Ih (n sz off len cap:Nat):el2 M (.sl n sz off len cap) (some sz)=Rv M n sz off len (gG M n):=by
 simp only[el2,ij,vR,Rv,acZ];cases gG M n with
 | none=>rfl
 | some o=>cases o<;>rfl
theorem GF (sz:Nat):el2 M .nils (some sz)=some ([],0,[]):=rfl
theorem Dl (n sz off len:Nat) (cs:List XV) (h:off+len*sz<=cs.length):Rv M n sz off len (some (.row cs))=some ((cs.drop off).take (len*sz),len,[n]):=by simp only[Rv,aaL h]
theorem LS (n sz off len:Nat) (cs:List XV) (h:off+len*sz<=cs.length):Rv M n sz off len (some (.cst cs))=some ((cs.drop off).take (len*sz),len,[n]):=by simp only[Rv,aaL h]
def Wu (as:List XV):XV->Option (Nat×List XV)
 | .fn (.func g) first caps=>some (g,first++as++caps)
 | _=>none
theorem Fp (f:Operand) (args:Array Operand) (ats:Array TypeId):ca env ⟨.value f,args,ats⟩=Wu (lX env args.toList) (cG env f):=by
 unfold ca Wu;simp only;cases cG env f with
 | fn g a b=>cases g<;>rfl
 | _=>rfl
theorem Ps (as:List XV) (g:Nat) (a b:List XV):Wu as (.fn (.func g) a b)=some (g,a++as++b):=rfl
theorem HZ (rs:List ResultVar) (R:ew->Prop) (s:XS):vA P rs R .ret s = ∃vs,cB P s rs=some vs/\R (cR vs,s.M,s.nx):=rfl
theorem AL (rs:List ResultVar) (R:ew->Prop) (s:XS):vA P rs R .normal s = ∃vs,cB P s rs=some vs/\R (cR vs,s.M,s.nx):=rfl
end
section
variable {P:Program} {Γ:cc} {M:Hp} {key:Nat}
inductive CK where
 | i (k:IntKind)
 | b
def Lp (P:Program) (t:Nat):Bool:=match P.underlying t with | some (.struct _)=>true | _=>false
def Ku (P:Program) (f:Nat->Option (List CK)):List Field->Nat->Option (List CK)
 | [],_=>some []
 | g::fs,o=>match g.name == "_",aaW g.offset o,sa P g.type,f g.type with
   | false,true,some (n,ag),some l=>match aaW l.length n,(ag==Lp P g.type),(ag||aaW n 1),Ku P f fs (o+n) with
     | true,true,true,some l'=>some (l++l')
     | _,_,_,_=>none
   | _,_,_,_=>none
def u0 (P:Program):Nat->Nat->Option (List CK)
 | 0,_=>none
 | d+1,t=>match P.underlying t with
   | some (.int k)=>some [.i k]
   | some .bool=>some [.b]
   | some (.struct fs)=>match P.stoodInHeld t,P.eqGuardType P.depth t with
     | false,false=>Ku P (u0 P d) fs.toList 0
     | _,_=>none
   | _=>none
def gU:List CK->List XV->Bool
 | [],[]=>true
 | .i k::l,.int k' _::xs=>decide (k=k')&&gU l xs
 | .b::l,.bool _::xs=>gU l xs
 | _,_=>false
def dU:List XV->List XV->Bool
 | .int _ a::xs,.int _ b::ys=>decide (a=b)&&dU xs ys
 | .bool a::xs,.bool b::ys=>decide (a=b)&&dU xs ys
 | _,_=>true
theorem l_:∀{l:List CK} {xs:List XV},gU l xs=true->xs.length=l.length
 | [],[],_=>rfl
 | [],_::_,h=>by simp[gU]at h
 | .i k::l,[],h=>by simp[gU]at h
 | .b::l,[],h=>by simp[gU]at h
 | .i k::l,x::xs,h=>by
   cases x<;>simp only[gU,aaF,aay]at h
   simp[l_ h.2]
 | .b::l,x::xs,h=>by
   cases x<;>simp only[gU,aay]at h
   simp[l_ h]
theorem th:∀{l l':List CK} {xs:List XV},gU (l++l') xs=true->gU l (xs.take l.length)=true/\gU l' (xs.drop l.length)=true
 | [],_,_,h=>⟨rfl,h⟩
 | .i k::l,l',xs,h=>by
   cases xs with
   | nil=>simp[gU]at h
   | cons x xs =>
     cases x<;>simp only[aa8,gU,aaF,aay]at h
     have:=th h.2;simp only[aaw,abt,acs,gU,h.1,adj];exact this
 | .b::l,l',xs,h=>by
   cases xs with
   | nil=>simp[gU]at h
   | cons x xs =>
     cases x<;>simp only[aa8,gU,aay]at h
     have:=th h;simp only[aaw,abt,acs,gU];exact this
theorem rh:∀{l:List CK} {xs ys:List XV},gU l (xs.take l.length)=true->gU l (ys.take l.length)=true->dU xs ys=(dU (xs.take l.length) (ys.take l.length)&&dU (xs.drop l.length) (ys.drop l.length))
 | [],xs,ys,_,_=>by simp[dU]
 | .i k::l,xs,ys,h1,h2=>by
   cases xs with
   | nil=>simp[gU]at h1
   | cons x xs =>
     cases ys with
     | nil=>simp[gU]at h2
     | cons y ys =>
       cases x<;>simp only[aaw,abt,gU,aaF,aay]at h1
       cases y<;>simp only[aaw,abt,gU,aaF,aay]at h2
       simp only[aaw,abt,acs,dU,rh h1.2 h2.2,Bool.and_assoc]
 | .b::l,xs,ys,h1,h2=>by
   cases xs with
   | nil=>simp[gU]at h1
   | cons x xs =>
     cases ys with
     | nil=>simp[gU]at h2
     | cons y ys =>
       cases x<;>simp only[aaw,abt,gU,aay]at h1
       cases y<;>simp only[aaw,abt,gU,aay]at h2
       simp only[aaw,abt,acs,dU,rh h1 h2,Bool.and_assoc]
def nB (P:Program) (t:Nat) (cs:List XV):XV:=match Lp P t with | true=>.agg cs | false=>match cs with | v::_=>v | []=>.un
theorem eqG {f:Nat->Option (List CK)} {eq:Nat->XV->XV->Option Bool} (hf:∀t l xs ys,f t=some l->gU l xs=true->gU l ys=true->eq t (nB P t xs) (nB P t ys)=some (dU xs ys)) :
 ∀(fs:List Field) (o:Nat) (l:List CK) (xs ys:List XV),Ku P f fs o=some l->gU l (xs.drop o)=true->gU l (ys.drop o)=true->se P eq fs xs ys=some (dU (xs.drop o) (ys.drop o))
 | [],o,l,xs,ys,h,h1,h2=>by
   cases h;have e1:xs.drop o=[]:=by cases hx:xs.drop o with | nil=>rfl | cons a b=>rw[hx]at h1;simp[gU]at h1
   rw[e1];simp only[se,dU]
 | g::fs,o,l,xs,ys,h,h1,h2=>by
   unfold Ku at h;split at h<;>(try (cases h;done))
   rename_i n ag l1 hn ho hs hl;split at h<;>(try (cases h;done))
   rename_i l2 CL CE bT hr;cases h;have ho:=aaB ho;have CL:=aaB CL;subst ho CL;obtain⟨a1,a2⟩:=th h1;obtain⟨b1,b2⟩:=th h2;rw[abi]at a2 b2;have CE:ag=Lp P g.type:=by simpa using CE
   have one:∀(zs:List XV),gU l1 ((zs.drop g.offset).take l1.length)=true->dR P g.type (zs.drop g.offset)=some (nB P g.type ((zs.drop g.offset).take l1.length)):=by
    intro zs hz;have ay:=l_ hz;rw[ma,hs];unfold nB;rw[<-CE];cases ag with
    | true =>
      refine HJ _ _ ?_;simp at ay ⊢;omega
    | false =>
      have u9:l1.length=1:=by simpa using bT
      rw[u9]at ay ⊢;cases hzz:zs.drop g.offset with
      | nil=>rw[hzz]at ay;simp at ay
      | cons v vs=>rfl
   unfold se;rw[hn,one xs a1,one ys b1];simp only[hf _ _ _ _ hl a1 b1];rw[rh a1 b1,abi,abi];cases dU ((xs.drop g.offset).take l1.length) ((ys.drop g.offset).take l1.length) with
   | false=>rfl
   | true =>
     simp only[adj];exact eqG hf fs _ _ xs ys hr a2 b2
theorem xP:∀(d t:Nat) (l:List CK) (xs ys:List XV),u0 P d t=some l->gU l xs=true->gU l ys=true->vQ P Γ d t (nB P t xs) (nB P t ys)=some (dU xs ys)
 | 0,t,l,xs,ys,h,_,_=>by cases h
 | d+1,t,l,xs,ys,h,h1,h2=>by
   unfold u0 at h;cases hu:P.underlying t with
   | none=>rw[hu]at h;cases h
   | some td =>
     rw[hu]at h;cases td<;>(try (cases h;done))
     ·cases h
      have l1:=l_ h1;have l2:=l_ h2
      match xs,ys,h1,h2,l1,l2 with
      | [x],[y],h1,h2,_,_ =>
        cases x<;>simp only[gU,aaF,aay]at h1
        cases y<;>simp only[gU,aaF,aay]at h2
        simp only[nB,Lp,hu,vQ,dU,Bool.and_true,Bool.beq_eq_decide_eq]
     ·rename_i k
      cases h;have l1:=l_ h1;have l2:=l_ h2
      match xs,ys,h1,h2,l1,l2 with
      | [x],[y],h1,h2,_,_ =>
        cases x<;>simp only[gU,aaF,aay,decide_eq_true_eq]at h1
        cases y<;>simp only[gU,aaF,aay,decide_eq_true_eq]at h2
        obtain⟨rfl,_⟩:=h1;obtain⟨rfl,_⟩:=h2;simp only[nB,Lp,hu,vQ,dU,Bool.and_true,decide_true];rfl
     rename_i fs;simp only at h;split at h<;>(try (cases h;done))
     rename_i g1 g2;simp only[nB,Lp,hu,vQ,g1,g2];exact eqG (fun t l xs ys=>xP d t l xs ys) fs.toList 0 l xs ys h h1 h2
def Rn (P:Program) (Γ:cc) (t:Nat) (op:BinOp) (yc:Bool) (xs ys:List XV):Option (List CK)->Bool->Option XV
 | some l,true=>match gU l xs,gU l ys with
   | true,true=>match op with
     | .eql=>some (.bool (dU xs ys))
     | .neq=>some (.bool (!(dU xs ys)))
     | _=>none
   | _,_=>io P Γ t op yc (.agg xs) (.agg ys)
 | _,_=>io P Γ t op yc (.agg xs) (.agg ys)
theorem KH (t:Nat) (op:BinOp) (yc:Bool) (xs ys:List XV):io P Γ t op yc (.agg xs) (.agg ys)=Rn P Γ t op yc xs ys (u0 P 40 t) (Lp P t):=by
 unfold Rn;split
 ·rename_i l h1 h2
  split
  ·rename_i g1 g2
   have:=xP (Γ:=Γ) 40 t l xs ys h1 g1 g2;simp only[nB,h2]at this;simp only[io,this];cases op<;>rfl
  rfl
 rfl
theorem L3 (t:Nat) (yc:Bool) (xs ys:List XV) (l:List CK) (h1:gU l xs=true) (h2:gU l ys=true):Rn P Γ t .eql yc xs ys (some l) true=some (.bool (dU xs ys)):=by simp only[Rn,h1,h2]
theorem LI (t:Nat) (yc:Bool) (xs ys:List XV) (l:List CK) (h1:gU l xs=true) (h2:gU l ys=true):Rn P Γ t .neq yc xs ys (some l) true=some (.bool (!(dU xs ys))):=by simp only[Rn,h1,h2]
theorem FP (k k':IntKind) (a b:Int) (xs ys:List XV):dU (.int k a::xs) (.int k' b::ys)=(decide (a=b)&&dU xs ys):=rfl
theorem BI (a b:Bool) (xs ys:List XV):dU (.bool a::xs) (.bool b::ys)=(decide (a=b)&&dU xs ys):=rfl
theorem FE:dU [] []=true:=rfl
theorem Du:gU [] []=true:=rfl
theorem DB (k:IntKind) (l:List CK) (a:Int) (xs:List XV):gU (.i k::l) (.int k a::xs)=gU l xs:=by simp[gU]
theorem Ac (l:List CK) (a:Bool) (xs:List XV):gU (.b::l) (.bool a::xs)=gU l xs:=rfl
end
section
def R9 (l:List Oper) (i j:Nat):Bool:=db (T_ l j) i||db (T_ l i) j
def Nr (l:List Oper) (x y:Nat×List Nat×List Nat):Prop:=nH l x y=true
def tL (l:List Oper) (x:Nat×List Nat×List Nat) (log:jg):Prop:=log.all (nH l x)=true
variable {P:Program} {ρ:aK} {n:Nat} {F:XS->Prop} {s:XS} {l:List Oper} {log:jg}
theorem R_:eD l F s log=(zJ l log/\F s):=rfl
theorem GQ:zJ l []=True:=by simp[zJ,g_]
theorem Fz (x:Nat×List Nat×List Nat):zJ l (x::log)=(tL l x log/\zJ l log):=by simp[zJ,g_,tL]
theorem EP (x:Nat×List Nat×List Nat):tL l x []=True:=by simp[tL]
theorem Cx (x y:Nat×List Nat×List Nat):tL l x (y::log)=(Nr l x y/\tL l x log):=by simp[tL,Nr]
theorem KR (i j:Nat) (rd rd':List Nat):Nr l (i,rd,[]) (j,rd',[])=True:=by simp only[Nr,nH,yb,Bool.and_self,acW]
theorem H0 (i j:Nat) (a b:List Nat×List Nat) (h:R9 l i j=true):Nr l (i,a) (j,b)=True:=by
 simp only[R9,ab0]at h;simp only[Nr,nH,ab0,eq_iff_iff,iff_true];rcases h with h | h
 ·exact .inl (.inr h)
 exact .inr h
theorem yE {k l:List Nat} (h:∀x ∈ k,x ∉ l):yb k l=true:=by
 induction k with
 | nil=>rfl
 | cons a k ih =>
   have h1:db l a=false:=by
    cases hh:db l a with
    | false=>rfl
    | true=>exact(h a aaC ((eg _ _).1 hh)).elim
   simp only[yb,h1];exact ih fun x hx=>h x (aaJ _ hx)
theorem bn (i j:Nat) (rd us rd' us':List Nat) (h1:∀x ∈ us,x ∉ rd') (h2:∀x ∈ us,x ∉ us') (h3:∀x ∈ us',x ∉ rd):Nr l (i,rd,us) (j,rd',us'):=by simp only[Nr,nH,yE h1,yE h2,yE h3,Bool.and_self,acW]
theorem yj {j:Nat} {rd us rd2 us2:List Nat} (h1:∀x ∈ us,x ∉ rd2:=by intro x hx hy;first | (simp only[mem_cons,not_mem_nil,or_false]at hx hy;done) | (simp only[mem_cons,not_mem_nil,or_false]at hx hy;omega)) (h2:∀x ∈ us,x ∉ us2:=by intro x hx hy;first | (simp only[mem_cons,not_mem_nil,or_false]at hx hy;done) | (simp only[mem_cons,not_mem_nil,or_false]at hx hy;omega)) (h3:∀x ∈ us2,x ∉ rd:=by intro x hx hy;first | (simp only[mem_cons,not_mem_nil,or_false]at hx hy;done) | (simp only[mem_cons,not_mem_nil,or_false]at hx hy;omega)):Nr l (i,rd,us) (j,rd2,us2):=bn _ _ _ _ _ _ h1 h2 h3
end
section
variable {P:Program} {Γ:cc} {M:Hp} {key:Nat} {β:Type}
def cx (vf:β->XV) (l:List (Nat×Int×β)):List (Nat×XV×XV):=l.map fun e=>(e.1,.int .u64 e.2.1,vf e.2.2)
def ry (ks:List Int):XV:=.agg (ks.map fun k=>.int .u64 k)
def eY (vf:β->XV) (l:List (Nat×List Int×β)):List (Nat×XV×XV):=l.map fun e=>(e.1,ry e.2.1,vf e.2.2)
def vI (k:IntKind) (i:Int):XV:=.int k i
def vB (b:Bool):XV:=.bool b
def vX (x:XV):XV:=x
variable {κ:Type} [DecidableEq κ]
def aH:List (Nat×κ×β)->κ->Option β
 | [],_=>none
 | (_,k',v)::l,k=>if k=k' then some v else aH l k
def nI:List (Nat×κ×β)->κ->Nat->Option (Nat×β)
 | [],_,_=>none
 | (_,k',v)::l,k,i=>if k=k' then some (i,v) else nI l k (i+1)
def dD:List (Nat×κ×β)->Nat->κ->β->List (Nat×κ×β)
 | [],c,k,v=>[(c,k,v)]
 | (b,k',u)::l,c,k,v=>if k=k' then (b,k',v)::l else (b,k',u)::dD l c k v
def vc (l:List (Nat×κ×β)) (c:Nat) (k:κ):Nat:=if (aH l k).isSome then c else c+1
theorem jD:∀(l:List (Nat×κ×β)) (k:κ) (i:Nat),(nI l k i).map (·.2)=aH l k
 | [],_,_=>rfl
 | (b,k',v)::l,k,i=>by
   simp only[nI,aH];split;·rfl
   exact jD l k (i+1)
theorem nE:∀(l:List (Nat×κ×β)) (c:Nat) (k:κ) (v:β),aH (dD l c k v) k=some v
 | [],c,k,v=>by simp[dD,aH]
 | (b,k',u)::l,c,k,v=>by
   simp only[dD];split;·rename_i h;simp[aH,h]
   rename_i h;simp only[aH,if_neg h];exact nE l c k v
theorem qd:∀(l:List (Nat×κ×β)) (c:Nat) (k j:κ) (v:β),j≠k->aH (dD l c k v) j=aH l j
 | [],c,k,j,v,h=>by simp[dD,aH,h]
 | (b,k',u)::l,c,k,j,v,h=>by
   simp only[dD];split;·rename_i e;subst e;simp[aH,h]
   simp only[aH];split;·rfl
   exact qd l c k j v h
theorem cQ (l:List (Nat×κ×β)) (c:Nat) (k j:κ) (v:β):aH (dD l c k v) j=if j=k then some v else aH l j:=by
 by_cases h:j=k;·subst h;rw[if_pos rfl];exact nE l c j v
 rw[if_neg h];exact qd l c k j v h
def IE (v:β):List (Nat×κ×β)->Nat->List (Nat×κ×β)
 | [],_=>[]
 | (b,k,_)::l,0=>(b,k,v)::l
 | e::l,i+1=>e::IE v l i
omit [DecidableEq κ] in
theorem pm {kf:κ->XV} {vf:β->XV}:∀(l:List (Nat×κ×β)) (i:Nat) (v:β),gJ (vf v) (l.map fun e=>(e.1,kf e.2.1,vf e.2.2)) i=(IE v l i).map fun e=>(e.1,kf e.2.1,vf e.2.2)
 | [],_,_=>rfl
 | (b,k,u)::l,0,v=>rfl
 | (b,k,u)::l,i+1,v=>by simp only[aa3,gJ,IE,pm l i v]
theorem oT:∀(l:List (Nat×κ×β)) (c:Nat) (k:κ) (v:β) (i j:Nat) (u:β),nI l k i=some (i+j,u)->IE v l j=dD l c k v
 | [],_,_,_,_,_,_,h=>by cases h
 | (b,k',u')::l,c,k,v,i,j,u,h=>by
   simp only[nI]at h;simp only[dD];split at h
   ·rename_i e
    have:j=0:=by simp at h;omega
    subst this;rw[if_pos e];rfl
   rename_i e;rw[if_neg e];have jT:∀(l:List (Nat×κ×β)) (i n:Nat) (u:β),nI l k i=some (n,u)->i<=n:=by
    intro l
    induction l with
    | nil=>intro i n u h;cases h
    | cons x l ih =>
      obtain⟨b,k',w⟩:=x;intro i n u h;simp only[nI]at h;split at h;·simp at h;omega
      have:=ih (i+1) n u h;omega
   have h1:=jT _ _ _ _ h;obtain⟨j',rfl⟩:∃j',j=j'+1:=⟨j - 1,aa⟩;simp only[IE];rw[oT l c k v (i+1) j' u (by rw[h];congr 2;omega)]
theorem qo:∀(l:List (Nat×κ×β)) (c:Nat) (k:κ) (v:β),aH l k=none->dD l c k v=l++[(c,k,v)]
 | [],_,_,_,_=>rfl
 | (b,k',u)::l,c,k,v,h=>by
   simp only[aH]at h;split at h;·cases h
   rename_i e;simp only[dD,if_neg e,aa8,qo l c k v h]
theorem ur {kf:κ->XV} {vf:β->XV} {kt:Nat} (hk:∀a b,Dy P kt (kf a) (kf b)=some (decide (a=b))):∀(l:List (Nat×κ×β)) (k:κ) (i:Nat),
 eu P kt (kf k) (l.map fun e=>(e.1,kf e.2.1,vf e.2.2)) i=some ((nI l k i).map fun r=>(r.1,vf r.2))
 | [],_,_=>rfl
 | (b,k',v)::l,k,i=>by
   simp only[aa3,eu,hk,nI];by_cases e:k=k';·rw[if_pos e,decide_eq_true e];rfl
   rw[if_neg e,decide_eq_false e];exact ur hk l k (i+1)
inductive MQ where
 | i (kt:Nat) (z:XV)
 | a (kt:Nat) (z:XV) (m:Nat)
 | no
def Eu:List CK->Bool
 | []=>true
 | .i .u64::l=>Eu l
 | _=>false
def mq (P:Program) (t:Nat):MQ:=match P.underlying t with
 | some (.map kt el)=>match wI P el,P.underlying kt with
   | some z,some (.int .u64)=>.i kt z
   | some z,some (.struct _)=>match u0 P 40 kt with
     | some l=>match Eu l,i8 P 20 kt l.length,Lp P kt with
       | true,true,true=>.a kt z l.length
       | _,_,_=>.no
     | none=>.no
   | _,_=>.no
 | _=>.no
theorem Nu (kt:Nat) (a b:Int):Dy P kt (.int .u64 a) (.int .u64 b)=some (decide (a=b)):=by simp only[Dy,dr,decide_true];rfl
theorem uk:∀{l:List CK} {ks:List Int},Eu l=true->ks.length=l.length->gU l (ks.map fun k=>XV.int .u64 k)=true
 | [],[],_,_=>rfl
 | [],_::_,_,h=>by simp at h
 | c::l,[],_,h=>by simp at h
 | c::l,k::ks,h,hl=>by
   unfold Eu at h;split at h;·rename_i e;cases e
   ·rename_i l' e
    cases e;simp only[aa3,gU,decide_true,adj];exact uk h (by simpa using hl)
   cases h
theorem ug:∀{as bs:List Int},as.length=bs.length->dU (as.map fun k=>XV.int .u64 k) (bs.map fun k=>XV.int .u64 k)=decide (as=bs)
 | [],[],_=>by simp[dU]
 | [],_::_,h=>by simp at h
 | _::_,[],h=>by simp at h
 | a::as,b::bs,h=>by simp only[aa3,dU,ug (as:=as) (bs:=bs) (by simpa using h),abI,Bool.decide_and]
theorem oV:∀{as bs:List Int},as.length=bs.length->dr.go (as.map fun k=>XV.int .u64 k) (bs.map fun k=>XV.int .u64 k)=some (decide (as=bs))
 | [],[],_=>by simp[dr.go]
 | [],_::_,h=>by simp at h
 | _::_,[],h=>by simp at h
 | a::as,b::bs,h=>by
   simp only[aa3,dr.go,decide_true];by_cases e:a=b
   ·subst e
    simp only[beq_self_eq_true,oV (as:=as) (bs:=bs) (by simpa using h),abI,true_and]
   have:(a==b)=false:=by simpa using e
   simp only[this,abI,e,false_and,decide_false]
theorem Se {l:List CK} (h1:u0 P 40 kt=some l) (h2:Eu l=true) (h3:Lp P kt=true) (hm:l.length=m) {as bs:List Int} (ha:as.length=m) (hb:bs.length=m):Dy P kt (ry as) (ry bs)=some (decide (as=bs)):=by subst hm;have e1:=xP (P:=P) (Γ:=fun _ _ _=>none) 40 kt l _ _ h1 (uk h2 ha) (uk h2 hb);simp only[nB,h3]at e1;rw[ug aa]at e1;have e2:=oV (as:=as) (bs:=bs) aa;simp only[Dy,ry,dr,e2,e1];by_cases e:as=bs<;>simp[e]
def jL (m:Nat) (l:List (Nat×List Int×β)):Prop:=∀e ∈ l,e.2.1.length=m
def tF (ok:Bool) (z:XV) (o:Option XV):XV:=match ok with | true=>.tup [o.getD z,.bool o.isSome] | false=>o.getD z
theorem Oz (z:XV) (o:Option XV):tF false z o=o.getD z:=rfl
theorem Pm (z:XV) (o:Option XV):tF true z o = .tup [o.getD z,.bool o.isSome]:=rfl
theorem Lg (k:IntKind) (o:Option Int) (z:Int):(o.map (vI k)).getD (.int k z) = .int k (o.getD z):=by cases o<;>rfl
theorem LJ (o:Option Bool) (z:Bool):(o.map vB).getD (.bool z) = .bool (o.getD z):=by cases o<;>rfl
theorem BV (f:β->XV) (o:Option β):(o.map f).isSome=o.isSome:=by cases o<;>rfl
def Tc (P:Program) (M:Hp) (t n:Nat) (ix:XV) (ok:Bool):MQ->Option bZ
 | .i kt z=>match ix,gG M n with
   | .int .u64 k,some (.map es _)=>match eu P kt (.int .u64 k) es 0 with
     | some o=>some ⟨tF ok z (o.map (·.2)),[n],[]⟩
     | none=>none
   | _,_=>none
 | .a kt z _=>match ix,gG M n with
   | .agg xs,some (.map es _)=>match jl P kt (.agg xs),eu P kt (.agg xs) es 0 with
     | true,some o=>some ⟨tF ok z (o.map (·.2)),[n],[]⟩
     | _,_=>none
   | _,_=>none
 | .no=>none
theorem wn {ix:XV} {ok:Bool} {e:bZ} (h:Tc P M t n ix ok (mq P t)=some e):cT P M t (.mm n) ix ok=some e:=by
 unfold mq at h;unfold cT;split at h
 ·rename_i kt el hu
  rw[hu];simp only;split at h
  ·rename_i z hz hk
   unfold Tc at h;simp only at h;split at h<;>(try (cases h;done))
   rename_i k es c hM;split at h<;>(try (cases h;done))
   rename_i o ho;cases h;simp only[jl,hk,hz,i6,hM,ho];cases o with
   | none=>cases ok<;>rfl
   | some r=>obtain⟨i,v⟩:=r;cases ok<;>rfl
  ·rename_i z _ hz hk
   split at h
   ·rename_i l hl
    split at h
    ·unfold Tc at h
     simp only at h;split at h<;>(try (cases h;done))
     rename_i xs es c hM;split at h<;>(try (cases h;done))
     rename_i o hko ho;cases h;simp only[hko,hz,i6,hM,ho];cases o with
     | none=>cases ok<;>rfl
     | some r=>obtain⟨i,v⟩:=r;cases ok<;>rfl
    cases h
   cases h
  cases h
 cases h
theorem O4 (h:mq P t = .a kt z m):∃c,u0 P 40 kt=some c/\Eu c=true/\Lp P kt=true/\c.length=m/\i8 P 20 kt m=true/\(∃el,P.underlying t=some (.map kt el))/\∃fs,P.underlying kt=some (.struct fs):=by
 unfold mq at h;split at h
 ·rename_i kt' el hu
  split at h;·cases h
  ·rename_i z' fs hz hk
   split at h
   ·rename_i l hl
    split at h
    ·rename_i g1 g2 g3
     cases h;exact⟨l,hl,g1,g3,rfl,g2,⟨el,hu⟩,fs,hk⟩
    cases h
   cases h
  cases h
 cases h
theorem KX (h:mq P t = .a kt z m) {ks:List Int} (hk:ks.length=m):jl P kt (ry ks)=true:=by obtain⟨c,_,_,_,_,h5,_,fs,h7⟩:=O4 h;have e:=oV (as:=ks) (bs:=ks) rfl;simp only[decide_true]at e;simp only[jl,h7,ry,dr,e,length_map,hk,h5]
theorem s9 (kt kt':Nat) (k:Int):∀(es:List (Nat×XV×XV)) (i:Nat),eu P kt (.int .u64 k) es i=eu P kt' (.int .u64 k) es i
 | [],_=>rfl
 | (b,x,v)::es,i=>by
   simp only[eu,Dy];cases dr (.int .u64 k) x with
   | none=>rfl
   | some b=>cases b<;>simp only[s9 kt kt' k es]
def U5 (P:Program) (M:Hp) (t n:Nat) (k:Int) (ok:Bool) (q:MQ) (o:Option bx):Option bZ:=match q,o with
 | .i _ z,some (.map es _)=>match eu P 0 (.int .u64 k) es 0 with
   | some r=>some ⟨tF ok z (r.map (·.2)),[n],[]⟩
   | none=>cT P M t (.mm n) (.int .u64 k) ok
 | _,_=>cT P M t (.mm n) (.int .u64 k) ok
theorem Ij (t n:Nat) (k:Int) (ok:Bool):cT P M t (.mm n) (.int .u64 k) ok=U5 P M t n k ok (mq P t) (gG M n):=by
 unfold U5;split
 ·rename_i kt z es c h1 h2
  split
  ·rename_i r hr
   refine wn ?_;rw[h1];simp only[Tc,h2];rw[s9 kt 0,hr]
  rfl
 rfl
theorem HI {vf:β->XV} (t n kt c:Nat) (k:Int) (ok:Bool) (z:XV) (l:List (Nat×Int×β)):U5 P M t n k ok (.i kt z) (some (.map (cx vf l) c))=some ⟨tF ok z ((aH l k).map vf),[n],[]⟩:=by have:=ur (P:=P) (kf:=fun k=>XV.int .u64 k) (vf:=vf) (kt:=0) (fun a b=>Nu 0 a b) l k 0;simp only[U5,cx,this,adr];rw[<-jD l k 0];cases nI l k 0<;>rfl
def ov:List XV->List Int
 | .int _ k::xs=>k::ov xs
 | _=>[]
def xR:List XV->Bool
 | []=>true
 | .int .u64 _::xs=>xR xs
 | _=>false
theorem pZ:∀{xs:List XV},xR xs=true->xs=(ov xs).map fun k=>XV.int .u64 k
 | [],_=>rfl
 | x::xs,h=>by
   unfold xR at h;split at h;·rename_i e;cases e
   ·rename_i k xs' e
    cases e;simp only[ov,aa3];rw[<-pZ h]
   cases h
theorem CX:xR []=true:=rfl
theorem Di (k:Int) (xs:List XV):xR (.int .u64 k::xs)=xR xs:=rfl
theorem KW:ov []=[]:=rfl
theorem So (kk:IntKind) (k:Int) (xs:List XV):ov (.int kk k::xs)=k::ov xs:=rfl
def Nt (P:Program) (M:Hp) (t n:Nat) (k:Int) (v:XV) (q:MQ) (o:Option bx):Option bZ:=match q,o with
 | .i _ _,some (.map es c)=>match eu P 0 (.int .u64 k) es 0 with
   | some (some (i,_))=>some ⟨.udf,[n],[(n,some (.map (gJ v es i) c))]⟩
   | some none=>some ⟨.udf,[n],[(n,some (.map (es++[(c,.int .u64 k,v)]) (c+1)))]⟩
   | none=>dP P M t (.mm n) (.int .u64 k) v
 | _,_=>dP P M t (.mm n) (.int .u64 k) v
theorem Ln (t n:Nat) (k:Int) (v:XV):dP P M t (.mm n) (.int .u64 k) v=Nt P M t n k v (mq P t) (gG M n):=by
 unfold Nt;split
 ·rename_i kt z es c h1 h2
  have hx:∃el,P.underlying t=some (.map kt el)/\P.underlying kt=some (.int .u64):=by
   unfold mq at h1;split at h1
   ·rename_i kt' el hu
    split at h1
    ·rename_i z' hz hk
     cases h1;exact⟨el,hu,hk⟩
    ·split at h1
     ·split at h1<;>cases h1
     cases h1
    cases h1
   cases h1
  obtain⟨el,hu,hk⟩:=hx;split
  ·rename_i i u hr
   unfold dP;simp only[hu,jl,hk,h2];rw[s9 kt 0,hr]
  ·rename_i hr
   unfold dP;simp only[hu,jl,hk,h2];rw[s9 kt 0,hr]
  rfl
 rfl
theorem xV {vf:β->XV} (t n kt c:Nat) (k:Int) (z:XV) (v:β) (l:List (Nat×Int×β)):Nt P M t n k (vf v) (.i kt z) (some (.map (cx vf l) c))=some ⟨.udf,[n],[(n,some (.map (cx vf (dD l c k v)) (vc l c k)))]⟩:=by
 have hf:=ur (P:=P) (kf:=fun k=>XV.int .u64 k) (vf:=vf) (kt:=0) (fun a b=>Nu 0 a b) l k 0;have hl:=jD l k 0;simp only[Nt,cx,hf];cases ha:nI l k 0 with
 | none =>
   rw[ha]at hl;simp only[map_none,vc,<-hl,adM,aay,if_false];rw[qo l c k v hl.symm];simp only[abV,aa3,map_nil]
 | some r =>
   obtain⟨j,u⟩:=r;rw[ha]at hl;simp only[adb,vc,<-hl,isSome_some,if_true];rw[pm,oT l c k v 0 j u (by rw[ha];congr 2;omega)]
theorem SJ (t n kt c:Nat) (k b:Int) (kk:IntKind) (z:XV) (l:List (Nat×Int×Int)):Nt P M t n k (.int kk b) (.i kt z) (some (.map (cx (vI kk) l) c))=some ⟨.udf,[n],[(n,some (.map (cx (vI kk) (dD l c k b)) (vc l c k)))]⟩:=xV (vf:=vI kk) t n kt c k z b l
theorem MZ (t n kt c:Nat) (k:Int) (b:Bool) (z:XV) (l:List (Nat×Int×Bool)):Nt P M t n k (.bool b) (.i kt z) (some (.map (cx vB l) c))=some ⟨.udf,[n],[(n,some (.map (cx vB (dD l c k b)) (vc l c k)))]⟩:=xV (vf:=vB) t n kt c k z b l
theorem S8 (t n kt c:Nat) (k:Int) (b z:XV) (l:List (Nat×Int×XV)):Nt P M t n k b (.i kt z) (some (.map (cx vX l) c))=some ⟨.udf,[n],[(n,some (.map (cx vX (dD l c k b)) (vc l c k)))]⟩:=xV (vf:=vX) t n kt c k z b l
def yg:XV->List Int
 | .agg xs=>ov xs
 | _=>[]
theorem yy:∀(ks:List Int),ov (ks.map fun k=>XV.int .u64 k)=ks
 | []=>rfl
 | k::ks=>by simp only[aa3,ov,yy ks]
theorem yD (ks:List Int):yg (ry ks)=ks:=yy ks
def rO (ks:List Int):List (Nat×XV×XV)->Nat->Option (Nat×XV)
 | [],_=>none
 | (_,k,v)::es,i=>if ks=yg k then some (i,v) else rO ks es (i+1)
def DL (m:Nat) (es:List (Nat×XV×XV)):Prop:=∀e ∈ es,∃ks:List Int,ks.length=m/\e.2.1=ry ks
theorem nV {vf:β->XV}:∀(l:List (Nat×List Int×β)) (ks:List Int) (i:Nat),rO ks (eY vf l) i=(nI l ks i).map fun r=>(r.1,vf r.2)
 | [],_,_=>rfl
 | (b,k,v)::l,ks,i=>by
   simp only[eY,aa3,rO,yD,nI];split;·rfl
   exact nV l ks (i+1)
theorem Dq {vf:β->XV} {l:List (Nat×List Int×β)} (h:jL m l):DL m (eY vf l):=by intro e he;simp only[eY,ab6]at he;obtain⟨x,hx,rfl⟩:=he;exact⟨x.2.1,h x hx,rfl⟩
theorem te {t kt m:Nat} {z:XV} (hq:mq P t = .a kt z m) {xs:List XV} (h1:xR xs=true) (h2:xs.length=m):∀(es:List (Nat×XV×XV)) (i:Nat),DL m es->eu P kt (.agg xs) es i=some (rO (ov xs) es i)
 | [],_,_=>rfl
 | (b,k,v)::es,i,h=>by
   obtain⟨ks,hk,e⟩:=h (b,k,v) aaC;simp only at e;subst e;obtain⟨c,g1,g2,g3,g4,_⟩:=O4 hq;have e:=pZ h1;have hl:(ov xs).length=m:=by rw[<-h2];conv=>rhs;rw[e];simp
   have nP:=Se g1 g2 g3 g4 hl hk;simp only[ry]at nP;rw[<-e]at nP;simp only[eu,ry,nP,rO,yg,yy];by_cases e2:ov xs=ks;·rw[if_pos e2,decide_eq_true e2]
   rw[if_neg e2,decide_eq_false e2];exact te hq h1 h2 es (i+1) fun x hx=>h x (aaJ _ hx)
open Classical in
def U4 (P:Program) (M:Hp) (t n:Nat) (xs:List XV) (ok:Bool) (q:MQ) (o:Option bx):Option bZ:=match q,o with
 | .a _ z m,some (.map es _)=>if xR xs=true/\xs.length=m/\DL m es then some ⟨tF ok z ((rO (ov xs) es 0).map (·.2)),[n],[]⟩ else cT P M t (.mm n) (.agg xs) ok
 | _,_=>cT P M t (.mm n) (.agg xs) ok
theorem pJ (hq:mq P t = .a kt z m) {xs:List XV} (h1:xR xs=true) (h2:xs.length=m):jl P kt (.agg xs)=true:=by
 have e:=pZ h1;have hl:(ov xs).length=m:=by rw[<-h2];conv=>rhs;rw[e];simp
 have:=KX hq hl;simp only[ry]at this;rw[<-e]at this;exact this
theorem In (t n:Nat) (xs:List XV) (ok:Bool):cT P M t (.mm n) (.agg xs) ok=U4 P M t n xs ok (mq P t) (gG M n):=by
 unfold U4;split
 ·rename_i kt z m es c h1 h2
  split
  ·rename_i h
   obtain⟨g1,g2,g3⟩:=h;refine wn ?_;rw[h1];simp only[Tc,h2,pJ h1 g1 g2,te h1 g1 g2 es 0 g3]
  rfl
 rfl
theorem Gu {vf:β->XV} (t n kt c m:Nat) (xs:List XV) (ok:Bool) (z:XV) (l:List (Nat×List Int×β)) (h1:xR xs=true) (h2:xs.length=m) (h3:jL m l):U4 P M t n xs ok (.a kt z m) (some (.map (eY vf l) c))=some ⟨tF ok z ((aH l (ov xs)).map vf),[n],[]⟩:=by simp only[U4];rw[if_pos ⟨h1,h2,Dq h3⟩,nV];simp only[adr];rw[<-jD l (ov xs) 0];cases nI l (ov xs) 0<;>rfl
open Classical in
def Tj (P:Program) (M:Hp) (t n:Nat) (xs:List XV) (v:XV) (q:MQ) (o:Option bx):Option bZ:=match q,o with
 | .a _ _ m,some (.map es c)=>if xR xs=true/\xs.length=m/\DL m es then (match rO (ov xs) es 0 with
    | some (i,_)=>some ⟨.udf,[n],[(n,some (.map (gJ v es i) c))]⟩
    | none=>some ⟨.udf,[n],[(n,some (.map (es++[(c,.agg xs,v)]) (c+1)))]⟩) else dP P M t (.mm n) (.agg xs) v
 | _,_=>dP P M t (.mm n) (.agg xs) v
theorem LY (t n:Nat) (xs:List XV) (v:XV):dP P M t (.mm n) (.agg xs) v=Tj P M t n xs v (mq P t) (gG M n):=by
 unfold Tj;split
 ·rename_i kt z m es c h1 h2
  split
  ·rename_i h
   obtain⟨g1,g2,g3⟩:=h;obtain⟨_,_,_,_,_,_,⟨el,hu⟩,_⟩:=O4 h1;unfold dP;simp only[hu,pJ h1 g1 g2,h2,te h1 g1 g2 es 0 g3];cases rO (ov xs) es 0 with
   | none=>rfl
   | some r=>rfl
  rfl
 rfl
theorem Lq {vf:β->XV} (t n kt c m:Nat) (xs:List XV) (v:β) (z:XV) (l:List (Nat×List Int×β)) (h1:xR xs=true) (h2:xs.length=m) (h3:jL m l):Tj P M t n xs (vf v) (.a kt z m) (some (.map (eY vf l) c))=some ⟨.udf,[n],[(n,some (.map (eY vf (dD l c (ov xs) v)) (vc l c (ov xs))))]⟩:=by
 simp only[Tj];rw[if_pos ⟨h1,h2,Dq h3⟩,nV];have hl:=jD l (ov xs) 0;cases ha:nI l (ov xs) 0 with
 | none =>
   rw[ha]at hl;simp only[map_none,vc,<-hl,adM,aay,if_false];rw[qo l c (ov xs) v hl.symm];simp only[eY,abV,aa3,map_nil,ry];rw[<-pZ h1]
 | some r =>
   obtain⟨j,u⟩:=r;rw[ha]at hl;simp only[adb,vc,<-hl,isSome_some,if_true];simp only[eY];rw[pm,oT l c (ov xs) v 0 j u (by rw[ha];congr 2;omega)]
theorem R0 (t n kt c m:Nat) (xs:List XV) (kk:IntKind) (b:Int) (z:XV) (l:List (Nat×List Int×Int)) (h1:xR xs=true) (h2:xs.length=m) (h3:jL m l):Tj P M t n xs (.int kk b) (.a kt z m) (some (.map (eY (vI kk) l) c))=some ⟨.udf,[n],[(n,some (.map (eY (vI kk) (dD l c (ov xs) b)) (vc l c (ov xs))))]⟩:=Lq (vf:=vI kk) t n kt c m xs b z l h1 h2 h3
theorem wZ {m c:Nat} {k:List Int} {v:β}:∀{l:List (Nat×List Int×β)},jL m l->k.length=m->jL m (dD l c k v)
 | [],_,hk=>by intro e he;simp only[dD,aaE]at he;subst he;exact hk
 | (b,k',u)::l,h,hk=>by
   intro e he;simp only[dD]at he;split at he
   ·rcases aaK.1 he with rfl | he
    ·exact h (b,k',u) aaC
    exact h e (aaJ _ he)
   rcases aaK.1 he with rfl | he
   ·exact h (b,k',u) aaC
   exact wZ (l:=l) (fun x hx=>h x (aaJ _ hx)) hk e he
end
section
variable {P:Program} {ρ:aK} {n:Nat} {env:eX} {M:Hp} {nx i:Nat} {all os:List Oper} {F:XS->Prop} {G:XS->jg->Prop} {log:jg} {d:Option Nat} {ty:TypeId} {pos:String} {after:Array Edge} {g:Nat×Bool}
theorem TI (t:Tr XV) (k n:Nat) (v:XV):gG (aG t k v) n=if k=n then some v else gG t n:=ap t k n v
def aw (a b:Nat):Prop:=a=b
instance (a b:Nat):Decidable (aw a b):=inferInstanceAs (Decidable (a=b))
theorem Te (t:Tr bx) (k n:Nat) (v:bx):gG (aG t k v) n=if aw k n then some v else gG t n:=ap t k n v
theorem TC (t:Tr bx) (k n:Nat):gG (vO t k) n=if aw k n then none else gG t n:=cV t k n
theorem HU (a:Nat):aw a a=True:=by simp[aw]
theorem O5 (a b:Nat) (h:a≠b):aw a b=False:=by simp[aw,h]
theorem TG (ts:List Nat) (k:IntKind) (a b:Int):fO P M nx .max ts [.int k a,.int k b]=some ⟨.int k (max a b),[],[]⟩:=by simp[fO,er,bZ.pure]
theorem Qg (k:IntKind) (a b:Int) (h:b≠0):bj .quo k a k b=some (.int k (k.wrap (a.tdiv b))):=by simp[bj,h]
theorem PD (k:IntKind) (a b:Int) (h:b≠0):bj .rem k a k b=some (.int k (a.tmod b)):=by simp[bj,h]
def WJ (P:Program) (M:Hp) (t:Nat) (k:Int) (ok:Bool):MQ->Option bZ
 | .i _ z=>some ⟨tF ok z none,[],[]⟩
 | _=>cT P M t .nilm (.int .u64 k) ok
theorem H7 (t:Nat) (k:Int) (ok:Bool):cT P M t .nilm (.int .u64 k) ok=WJ P M t k ok (mq P t):=by
 unfold WJ;split
 ·rename_i kt z h
  unfold mq at h;unfold cT;split at h
  ·rename_i kt' el hu
   rw[hu];simp only;split at h
   ·rename_i z' hz hk
    cases h;simp only[jl,hk,hz,i6];cases ok<;>rfl
   ·split at h
    ·split at h<;>cases h
    cases h
   cases h
  cases h
 rfl
theorem TE (t kt:Nat) (k:Int) (ok:Bool) (z:XV):WJ P M t k ok (.i kt z)=some ⟨tF ok z none,[],[]⟩:=rfl
theorem Ww {d:Nat} {rd:List Nat}:sN P ρ n all os env M nx (some d) F (some ⟨v,rd,us⟩)=if d<n then RN P ρ n all os ⟨aG env d v,aY M us,nx+1⟩ F else False:=by
 split;·rename_i h;exact Sg h
 rename_i h;have hb:abc d n=false:=by cases hb:abc d n with | false=>rfl | true=>rw[abD]at hb;exact(h hb).elim
 simp only[sN,cu,hb];simp
theorem Xv {d:Nat} {rd:List Nat}:sD P ρ n all os i env M nx log (some d) G (some ⟨v,rd,us⟩)=if d<n then RD P ρ n all os (i+1) ⟨aG env d v,aY M us,nx+1⟩ (dM i ⟨v,rd,us⟩ log) G else False:=by
 split;·rename_i h;exact L0 h
 rename_i h;have hb:abc d n=false:=by cases hb:abc d n with | false=>rfl | true=>rw[abD]at hb;exact(h hb).elim
 simp only[sD,cu,hb];simp
theorem Xh {d:Nat}:aN P ρ n all os env (some d) F (v,M,nx)=if d<n then RN P ρ n all os ⟨aG env d v,M,nx⟩ F else False:=by
 split;·rename_i h;exact LT h
 rename_i h;have hb:abc d n=false:=by cases hb:abc d n with | false=>rfl | true=>rw[abD]at hb;exact(h hb).elim
 simp only[aN,cu,hb];simp
theorem Wv {d:Nat}:aD P ρ n all os i env (some d) G (v,M,nx)=if d<n then RD P ρ n all os (i+1) ⟨aG env d v,M,nx⟩ [] G else False:=by
 split;·rename_i h;exact K8 h
 rename_i h;have hb:abc d n=false:=by cases hb:abc d n with | false=>rfl | true=>rw[abD]at hb;exact(h hb).elim
 simp only[aD,cu,hb];simp
theorem XZ {d:Nat}:gN P ρ n all os env M nx (some d) op F (some false)=if d<n then RN P ρ n all os ⟨aG env d .udf,M,nx⟩ F else False:=by
 split;·rename_i h;exact Hu h
 rename_i h;have hb:abc d n=false:=by cases hb:abc d n with | false=>rfl | true=>rw[abD]at hb;exact(h hb).elim
 simp only[gN,cu,hb];simp
theorem X6 {d:Nat} {c:Call}:gC P ρ n all os env M nx (some d) c F (some false)=if d<n then RN P ρ n all os ⟨aG env d .udf,M,nx⟩ F else False:=by
 split;·rename_i h;exact IY h
 rename_i h;have hb:abc d n=false:=by cases hb:abc d n with | false=>rfl | true=>rw[abD]at hb;exact(h hb).elim
 simp only[gC,cu,hb];simp
theorem WD {d:Nat}:gD P ρ n all os i env M nx log (some d) op G (some false)=if d<n then RD P ρ n all os (i+1) ⟨aG env d .udf,M,nx⟩ log G else False:=by
 split;·rename_i h;exact Jj h
 rename_i h;have hb:abc d n=false:=by cases hb:abc d n with | false=>rfl | true=>rw[abD]at hb;exact(h hb).elim
 simp only[gD,cu,hb];simp
theorem L6 (x:Operand):RN P ρ n all (⟨d,.move x,ty,pos,after,none⟩::os) ⟨env,M,nx⟩ F=sN P ρ n all os env M nx d F (cY P g0 env M nx (.move x)):=e_ rfl
theorem Mg (x:Operand):RN P ρ n all (⟨d,.move x,ty,pos,after,some g⟩::os) ⟨env,M,nx⟩ F=gN P ρ n all os env M nx d (.move x) F (a_ all env (some g)):=mE rfl
theorem LF (x:Operand):RD P ρ n all (⟨d,.move x,ty,pos,after,none⟩::os) i ⟨env,M,nx⟩ log G=sD P ρ n all os i env M nx log d G (cY P g0 env M nx (.move x)):=fd rfl
theorem Ls (x:Operand):RD P ρ n all (⟨d,.move x,ty,pos,after,some g⟩::os) i ⟨env,M,nx⟩ log G=gD P ρ n all os i env M nx log d (.move x) G (a_ all env (some g)):=rJ rfl
theorem Fk (x:Operand):RN P ρ n all (⟨d,.assign x,ty,pos,after,none⟩::os) ⟨env,M,nx⟩ F=sN P ρ n all os env M nx d F (cY P g0 env M nx (.assign x)):=e_ rfl
theorem EY (x:Operand):RD P ρ n all (⟨d,.assign x,ty,pos,after,none⟩::os) i ⟨env,M,nx⟩ log G=sD P ρ n all os i env M nx log d G (cY P g0 env M nx (.assign x)):=fd rfl
theorem Lu (c a b:Operand):RN P ρ n all (⟨d,.pick c a b,ty,pos,after,none⟩::os) ⟨env,M,nx⟩ F=sN P ρ n all os env M nx d F (cY P g0 env M nx (.pick c a b)):=e_ rfl
theorem KP (c a b:Operand):RN P ρ n all (⟨d,.pick c a b,ty,pos,after,some g⟩::os) ⟨env,M,nx⟩ F=gN P ρ n all os env M nx d (.pick c a b) F (a_ all env (some g)):=mE rfl
theorem Lx (c a b:Operand):RD P ρ n all (⟨d,.pick c a b,ty,pos,after,none⟩::os) i ⟨env,M,nx⟩ log G=sD P ρ n all os i env M nx log d G (cY P g0 env M nx (.pick c a b)):=fd rfl
theorem Lh (c a b:Operand):RD P ρ n all (⟨d,.pick c a b,ty,pos,after,some g⟩::os) i ⟨env,M,nx⟩ log G=gD P ρ n all os i env M nx log d (.pick c a b) G (a_ all env (some g)):=rJ rfl
theorem HC (t:TypeId):RN P ρ n all (⟨d,.alloc t,ty,pos,after,none⟩::os) ⟨env,M,nx⟩ F=sN P ρ n all os env M nx d F (cY P g0 env M nx (.alloc t)):=e_ rfl
theorem HP (t:TypeId):RD P ρ n all (⟨d,.alloc t,ty,pos,after,none⟩::os) i ⟨env,M,nx⟩ log G=sD P ρ n all os i env M nx log d G (cY P g0 env M nx (.alloc t)):=fd rfl
theorem PW (t:TypeId) (v:Operand):RN P ρ n all (⟨d,.box t v,ty,pos,after,none⟩::os) ⟨env,M,nx⟩ F=sN P ρ n all os env M nx d F (cY P g0 env M nx (.box t v)):=e_ rfl
theorem O3 (t:TypeId) (v:Operand):RD P ρ n all (⟨d,.box t v,ty,pos,after,none⟩::os) i ⟨env,M,nx⟩ log G=sD P ρ n all os i env M nx log d G (cY P g0 env M nx (.box t v)):=fd rfl
theorem HQ (t:TypeId) (ps:Array (Nat×Operand)):RN P ρ n all (⟨d,.build t ps,ty,pos,after,none⟩::os) ⟨env,M,nx⟩ F=sN P ρ n all os env M nx d F (cY P g0 env M nx (.build t ps)):=e_ rfl
theorem Iu (t:TypeId) (ps:Array (Nat×Operand)):RD P ρ n all (⟨d,.build t ps,ty,pos,after,none⟩::os) i ⟨env,M,nx⟩ log G=sD P ρ n all os i env M nx log d G (cY P g0 env M nx (.build t ps)):=fd rfl
theorem vK (t:TypeId) (len:Nat) (ps:Array (Nat×Operand)):RN P ρ n all (⟨d,.buildSlice t len ps,ty,pos,after,none⟩::os) ⟨env,M,nx⟩ F=sN P ρ n all os env M nx d F (cY P g0 env M nx (.buildSlice t len ps)):=e_ rfl
theorem vz (t:TypeId) (len:Nat) (ps:Array (Nat×Operand)):RD P ρ n all (⟨d,.buildSlice t len ps,ty,pos,after,none⟩::os) i ⟨env,M,nx⟩ log G=sD P ρ n all os i env M nx log d G (cY P g0 env M nx (.buildSlice t len ps)):=fd rfl
theorem KG (t:TypeId) (a:Operand):RN P ρ n all (⟨d,.load t a,ty,pos,after,none⟩::os) ⟨env,M,nx⟩ F=sN P ρ n all os env M nx d F (cY P g0 env M nx (.load t a)):=e_ rfl
theorem Mh (t:TypeId) (a:Operand):RN P ρ n all (⟨d,.load t a,ty,pos,after,some g⟩::os) ⟨env,M,nx⟩ F=gN P ρ n all os env M nx d (.load t a) F (a_ all env (some g)):=mE rfl
theorem Lw (t:TypeId) (a:Operand):RD P ρ n all (⟨d,.load t a,ty,pos,after,none⟩::os) i ⟨env,M,nx⟩ log G=sD P ρ n all os i env M nx log d G (cY P g0 env M nx (.load t a)):=fd rfl
theorem KN (t:TypeId) (a:Operand):RD P ρ n all (⟨d,.load t a,ty,pos,after,some g⟩::os) i ⟨env,M,nx⟩ log G=gD P ρ n all os i env M nx log d (.load t a) G (a_ all env (some g)):=rJ rfl
theorem IL (t:TypeId) (a v:Operand):RN P ρ n all (⟨d,.store t a v,ty,pos,after,none⟩::os) ⟨env,M,nx⟩ F=sN P ρ n all os env M nx d F (cY P g0 env M nx (.store t a v)):=e_ rfl
theorem Ja (t:TypeId) (a v:Operand):RD P ρ n all (⟨d,.store t a v,ty,pos,after,none⟩::os) i ⟨env,M,nx⟩ log G=sD P ρ n all os i env M nx log d G (cY P g0 env M nx (.store t a v)):=fd rfl
theorem zR (x:Operand):RN P ρ n all (⟨d,.nilCheck x,ty,pos,after,none⟩::os) ⟨env,M,nx⟩ F=sN P ρ n all os env M nx d F (cY P g0 env M nx (.nilCheck x)):=e_ rfl
theorem Af (x:Operand):RN P ρ n all (⟨d,.nilCheck x,ty,pos,after,some g⟩::os) ⟨env,M,nx⟩ F=gN P ρ n all os env M nx d (.nilCheck x) F (a_ all env (some g)):=mE rfl
theorem zY (x:Operand):RD P ρ n all (⟨d,.nilCheck x,ty,pos,after,none⟩::os) i ⟨env,M,nx⟩ log G=sD P ρ n all os i env M nx log d G (cY P g0 env M nx (.nilCheck x)):=fd rfl
theorem H_ (op:BinOp) (t:TypeId) (x y:Operand) (u:TypeId):RN P ρ n all (⟨d,.binOp op t x y u,ty,pos,after,none⟩::os) ⟨env,M,nx⟩ F=sN P ρ n all os env M nx d F (cY P g0 env M nx (.binOp op t x y u)):=e_ rfl
theorem I3 (op:BinOp) (t:TypeId) (x y:Operand) (u:TypeId):RN P ρ n all (⟨d,.binOp op t x y u,ty,pos,after,some g⟩::os) ⟨env,M,nx⟩ F=gN P ρ n all os env M nx d (.binOp op t x y u) F (a_ all env (some g)):=mE rfl
theorem Hq (op:BinOp) (t:TypeId) (x y:Operand) (u:TypeId):RD P ρ n all (⟨d,.binOp op t x y u,ty,pos,after,none⟩::os) i ⟨env,M,nx⟩ log G=sD P ρ n all os i env M nx log d G (cY P g0 env M nx (.binOp op t x y u)):=fd rfl
theorem G6 (op:BinOp) (t:TypeId) (x y:Operand) (u:TypeId):RD P ρ n all (⟨d,.binOp op t x y u,ty,pos,after,some g⟩::os) i ⟨env,M,nx⟩ log G=gD P ρ n all os i env M nx log d (.binOp op t x y u) G (a_ all env (some g)):=rJ rfl
theorem L8 (op:UnOp) (t:TypeId) (x:Operand):RN P ρ n all (⟨d,.unOp op t x,ty,pos,after,none⟩::os) ⟨env,M,nx⟩ F=sN P ρ n all os env M nx d F (cY P g0 env M nx (.unOp op t x)):=e_ rfl
theorem Lf (op:UnOp) (t:TypeId) (x:Operand):RN P ρ n all (⟨d,.unOp op t x,ty,pos,after,some g⟩::os) ⟨env,M,nx⟩ F=gN P ρ n all os env M nx d (.unOp op t x) F (a_ all env (some g)):=mE rfl
theorem LO (op:UnOp) (t:TypeId) (x:Operand):RD P ρ n all (⟨d,.unOp op t x,ty,pos,after,none⟩::os) i ⟨env,M,nx⟩ log G=sD P ρ n all os i env M nx log d G (cY P g0 env M nx (.unOp op t x)):=fd rfl
theorem Lo (op:UnOp) (t:TypeId) (x:Operand):RD P ρ n all (⟨d,.unOp op t x,ty,pos,after,some g⟩::os) i ⟨env,M,nx⟩ log G=gD P ρ n all os i env M nx log d (.unOp op t x) G (a_ all env (some g)):=rJ rfl
theorem Cg (s t:TypeId) (x:Operand):RN P ρ n all (⟨d,.convert s t x,ty,pos,after,none⟩::os) ⟨env,M,nx⟩ F=sN P ρ n all os env M nx d F (cY P g0 env M nx (.convert s t x)):=e_ rfl
theorem BQ (s t:TypeId) (x:Operand):RN P ρ n all (⟨d,.convert s t x,ty,pos,after,some g⟩::os) ⟨env,M,nx⟩ F=gN P ρ n all os env M nx d (.convert s t x) F (a_ all env (some g)):=mE rfl
theorem BE (s t:TypeId) (x:Operand):RD P ρ n all (⟨d,.convert s t x,ty,pos,after,none⟩::os) i ⟨env,M,nx⟩ log G=sD P ρ n all os i env M nx log d G (cY P g0 env M nx (.convert s t x)):=fd rfl
theorem zS (q:Fn) (xs ys:Array Operand):RN P ρ n all (⟨d,.makeFunc q xs ys,ty,pos,after,none⟩::os) ⟨env,M,nx⟩ F=sN P ρ n all os env M nx d F (cY P g0 env M nx (.makeFunc q xs ys)):=e_ rfl
theorem B1 (t:TypeId) (r:Option Operand):RN P ρ n all (⟨d,.makeMap t r,ty,pos,after,none⟩::os) ⟨env,M,nx⟩ F=sN P ρ n all os env M nx d F (cY P g0 env M nx (.makeMap t r)):=e_ rfl
theorem Bn (t:TypeId) (r:Option Operand):RD P ρ n all (⟨d,.makeMap t r,ty,pos,after,none⟩::os) i ⟨env,M,nx⟩ log G=sD P ρ n all os i env M nx log d G (cY P g0 env M nx (.makeMap t r)):=fd rfl
theorem RN_slice (t:TypeId) (x:Operand) (lo hi mx:Option Operand):RN P ρ n all (⟨d,.slice t x lo hi mx,ty,pos,after,none⟩::os) ⟨env,M,nx⟩ F=sN P ρ n all os env M nx d F (cY P g0 env M nx (.slice t x lo hi mx)):=e_ rfl
theorem RD_slice (t:TypeId) (x:Operand) (lo hi mx:Option Operand):RD P ρ n all (⟨d,.slice t x lo hi mx,ty,pos,after,none⟩::os) i ⟨env,M,nx⟩ log G=sD P ρ n all os i env M nx log d G (cY P g0 env M nx (.slice t x lo hi mx)):=fd rfl
theorem xL (t:TypeId) (x:Operand) (k:Nat):RN P ρ n all (⟨d,.fieldAddr t x k,ty,pos,after,none⟩::os) ⟨env,M,nx⟩ F=sN P ρ n all os env M nx d F (cY P g0 env M nx (.fieldAddr t x k)):=e_ rfl
theorem ym (t:TypeId) (x:Operand) (k:Nat):RN P ρ n all (⟨d,.fieldAddr t x k,ty,pos,after,some g⟩::os) ⟨env,M,nx⟩ F=gN P ρ n all os env M nx d (.fieldAddr t x k) F (a_ all env (some g)):=mE rfl
theorem Tb (t:TypeId) (x:Operand) (k:Nat):RD P ρ n all (⟨d,.fieldAddr t x k,ty,pos,after,none⟩::os) i ⟨env,M,nx⟩ log G=sD P ρ n all os i env M nx log d G (cY P g0 env M nx (.fieldAddr t x k)):=fd rfl
theorem xO (t:TypeId) (x:Operand) (k:Nat):RD P ρ n all (⟨d,.fieldAddr t x k,ty,pos,after,some g⟩::os) i ⟨env,M,nx⟩ log G=gD P ρ n all os i env M nx log d (.fieldAddr t x k) G (a_ all env (some g)):=rJ rfl
theorem xZ (t:TypeId) (x y:Operand):RN P ρ n all (⟨d,.indexAddr t x y,ty,pos,after,none⟩::os) ⟨env,M,nx⟩ F=sN P ρ n all os env M nx d F (cY P g0 env M nx (.indexAddr t x y)):=e_ rfl
theorem xI (t:TypeId) (x y:Operand):RN P ρ n all (⟨d,.indexAddr t x y,ty,pos,after,some g⟩::os) ⟨env,M,nx⟩ F=gN P ρ n all os env M nx d (.indexAddr t x y) F (a_ all env (some g)):=mE rfl
theorem xF (t:TypeId) (x y:Operand):RD P ρ n all (⟨d,.indexAddr t x y,ty,pos,after,none⟩::os) i ⟨env,M,nx⟩ log G=sD P ρ n all os i env M nx log d G (cY P g0 env M nx (.indexAddr t x y)):=fd rfl
theorem xq (t:TypeId) (x y:Operand):RD P ρ n all (⟨d,.indexAddr t x y,ty,pos,after,some g⟩::os) i ⟨env,M,nx⟩ log G=gD P ρ n all os i env M nx log d (.indexAddr t x y) G (a_ all env (some g)):=rJ rfl
theorem Hf (t:TypeId) (x y:Operand):RN P ρ n all (⟨d,.index t x y,ty,pos,after,none⟩::os) ⟨env,M,nx⟩ F=sN P ρ n all os env M nx d F (cY P g0 env M nx (.index t x y)):=e_ rfl
theorem Fb (t:TypeId) (x y:Operand) (ok:Bool):RN P ρ n all (⟨d,.lookup t x y ok,ty,pos,after,none⟩::os) ⟨env,M,nx⟩ F=sN P ρ n all os env M nx d F (cY P g0 env M nx (.lookup t x y ok)):=e_ rfl
theorem FK (t:TypeId) (x y:Operand) (ok:Bool):RN P ρ n all (⟨d,.lookup t x y ok,ty,pos,after,some g⟩::os) ⟨env,M,nx⟩ F=gN P ρ n all os env M nx d (.lookup t x y ok) F (a_ all env (some g)):=mE rfl
theorem EO (t:TypeId) (x y:Operand) (ok:Bool):RD P ρ n all (⟨d,.lookup t x y ok,ty,pos,after,none⟩::os) i ⟨env,M,nx⟩ log G=sD P ρ n all os i env M nx log d G (cY P g0 env M nx (.lookup t x y ok)):=fd rfl
theorem xJ (t:TypeId) (m k v:Operand):RD P ρ n all (⟨d,.mapUpdate t m k v,ty,pos,after,none⟩::os) i ⟨env,M,nx⟩ log G=sD P ρ n all os i env M nx log d G (cY P g0 env M nx (.mapUpdate t m k v)):=fd rfl
theorem zI (t:TypeId) (m k:Operand):RD P ρ n all (⟨d,.mapEntry t m k,ty,pos,after,none⟩::os) i ⟨env,M,nx⟩ log G=sD P ρ n all os i env M nx log d G (cY P g0 env M nx (.mapEntry t m k)):=fd rfl
theorem vt (t:TypeId) (m k v:Operand):RD P ρ n all (⟨d,.entryStore t m k v,ty,pos,after,none⟩::os) i ⟨env,M,nx⟩ log G=sD P ρ n all os i env M nx log d G (cY P g0 env M nx (.entryStore t m k v)):=fd rfl
theorem GT (t:TypeId) (x:Operand):RN P ρ n all (⟨d,.range t x,ty,pos,after,none⟩::os) ⟨env,M,nx⟩ F=sN P ρ n all os env M nx d F (cY P g0 env M nx (.range t x)):=e_ rfl
theorem Ig (x:Operand):RN P ρ n all (⟨d,.entry x,ty,pos,after,none⟩::os) ⟨env,M,nx⟩ F=sN P ρ n all os env M nx d F (cY P g0 env M nx (.entry x)):=e_ rfl
theorem B9 (x:Operand) (k:Nat):RN P ρ n all (⟨d,.extract x k,ty,pos,after,none⟩::os) ⟨env,M,nx⟩ F=sN P ρ n all os env M nx d F (cY P g0 env M nx (.extract x k)):=e_ rfl
theorem Cs (x:Operand) (k:Nat):RD P ρ n all (⟨d,.extract x k,ty,pos,after,none⟩::os) i ⟨env,M,nx⟩ log G=sD P ρ n all os i env M nx log d G (cY P g0 env M nx (.extract x k)):=fd rfl
theorem B2 (b:Builtin) (xs:Array Operand) (ts:Array TypeId):RN P ρ n all (⟨d,.call ⟨.builtin b,xs,ts⟩,ty,pos,after,none⟩::os) ⟨env,M,nx⟩ F=sN P ρ n all os env M nx d F (cY P g0 env M nx (.call ⟨.builtin b,xs,ts⟩)):=e_ rfl
theorem BL (b:Builtin) (xs:Array Operand) (ts:Array TypeId):RN P ρ n all (⟨d,.call ⟨.builtin b,xs,ts⟩,ty,pos,after,some g⟩::os) ⟨env,M,nx⟩ F=gN P ρ n all os env M nx d (.call ⟨.builtin b,xs,ts⟩) F (a_ all env (some g)):=mE rfl
theorem B8 (b:Builtin) (xs:Array Operand) (ts:Array TypeId):RD P ρ n all (⟨d,.call ⟨.builtin b,xs,ts⟩,ty,pos,after,none⟩::os) i ⟨env,M,nx⟩ log G=sD P ρ n all os i env M nx log d G (cY P g0 env M nx (.call ⟨.builtin b,xs,ts⟩)):=fd rfl
theorem Ce (b:Builtin) (xs:Array Operand) (ts:Array TypeId):RD P ρ n all (⟨d,.call ⟨.builtin b,xs,ts⟩,ty,pos,after,some g⟩::os) i ⟨env,M,nx⟩ log G=gD P ρ n all os i env M nx log d (.call ⟨.builtin b,xs,ts⟩) G (a_ all env (some g)):=rJ rfl
theorem ID (f:Operand) (xs:Array Operand) (ts:Array TypeId):RN P ρ n all (⟨d,.call ⟨.value f,xs,ts⟩,ty,pos,after,none⟩::os) ⟨env,M,nx⟩ F=CN P ρ n all os env M nx d F (ca env ⟨.value f,xs,ts⟩):=C6 rfl
theorem I0 (f:Operand) (xs:Array Operand) (ts:Array TypeId):RN P ρ n all (⟨d,.call ⟨.value f,xs,ts⟩,ty,pos,after,some g⟩::os) ⟨env,M,nx⟩ F=gC P ρ n all os env M nx d ⟨.value f,xs,ts⟩ F (a_ all env (some g)):=S0 rfl
theorem GA (f:Operand) (xs:Array Operand) (ts:Array TypeId):RD P ρ n all (⟨d,.call ⟨.value f,xs,ts⟩,ty,pos,after,none⟩::os) i ⟨env,M,nx⟩ log G=CD P ρ n all os i env M nx log d G (ca env ⟨.value f,xs,ts⟩):=Dd rfl
end
def rr0:=ao @ND<|ao @l9<|ao @PN<|ao @Tx<|ao @PI<|ao @Si<|ao @WF<|ao @IX<|ao @EL<|ao @WX<|ao @G0<|ao @Ep<|ao @Yc<|ao @G_<|ao @FM<|ao @Pu<|ao @LP<|ao @Hh<|ao @Qi<|ao @OH<|ao @Kz<|ao @Qd<|ao @Lm<|ao @Ly<|ao @HH<|ao @I6<|ao @Iz<|ao @Jk<|ao @GE <| @SH
def rr1:=ao @P5<|ao @OG<|ao @Qk<|ao @PL<|ao @Kb<|ao @Lr<|ao @OY<|ao @EM<|ao @FN<|ao @Kr<|ao @ZJ<|ao @GN<|ao @GZ<|ao @FG<|ao @Eg<|ao @E3<|ao @FO<|ao @EH<|ao @IM<|ao @G1<|ao @Ew<|ao @FJ<|ao @Bl<|ao @omap_none<|ao @YV<|ao @oX<|ao @pg<|ao @yi<|ao @SB <| @R8
def rr2:=ao @Sl<|ao @LQ<|ao @Ks<|ao @ma<|ao @TA<|ao @HJ<|ao @xC<|ao @Hy<|ao @cy<|ao @ev<|ao @Ez<|ao @II<|ao @OD<|ao @OW<|ao @GM<|ao @OP<|ao @Lv<|ao @Sr<|ao @BX<|ao @P8<|ao @Pz<|ao @GO<|ao @KL<|ao @Ke<|ao @Li<|ao @uq<|ao @xr<|ao @wu<|ao @Xg <| @tK
def rr3:=ao @zn<|ao @zx<|ao @Ae<|ao @tV<|ao @zE<|ao @xh<|ao @wc<|ao @uc<|ao @AC<|ao @AJ<|ao @Aj<|ao @tl<|ao @tm<|ao @UV<|ao @wd<|ao @ze<|ao @zw<|ao @KT<|ao @IA<|ao @Al<|ao @KI<|ao @O6<|ao @EF<|ao @KS<|ao @GR<|ao @Sq<|ao @Ie<|ao @EW<|ao @Bu <| @EC
def rr4:=ao @Km<|ao @BB<|ao @Fd<|ao @BJ<|ao @KQ<|ao @Kq<|ao @Pd<|ao @P1<|ao @Ji<|ao @Hd<|ao @SY<|ao @SL<|ao @Ka<|ao @yx<|ao @H6<|ao @Nx<|ao @HD<|ao @Qp<|ao @PR<|ao @Qh<|ao @KJ<|ao @Ql<|ao @Qa<|ao @PE<|ao @Ou<|ao @Qf<|ao @ON<|ao @PO<|ao @PX <| @Qb
def rr5:=ao @Om<|ao @Ib<|ao @H8<|ao @On<|ao @I_<|ao @IP<|ao @OB<|ao @Hs<|ao @Me<|ao @LV<|ao @KV<|ao @Kw<|ao @E8<|ao @TM<|ao @Cb<|ao @VU<|ao @Ic<|ao @Et<|ao @GG<|ao @Fh<|ao @pO<|ao @p0<|ao @KF<|ao @SI<|ao @Ih<|ao @Dl<|ao @Fp<|ao @Ps<|ao @HZ <| @AL
def rr6:=ao @KH<|ao @L3<|ao @LI<|ao @FP<|ao @BI<|ao @FE<|ao @Du<|ao @DB<|ao @Ac<|ao @R_<|ao @GQ<|ao @Fz<|ao @EP<|ao @Cx<|ao @KR<|ao @H0<|ao @TI<|ao @Te<|ao @TC<|ao @HU<|ao @O5<|ao @TG<|ao @Qg<|ao @PD<|ao @H7<|ao @TE<|ao @Ww<|ao @Xv<|ao @Xh <| @Wv
def rr7:=ao @XZ<|ao @X6<|ao @WD<|ao @L6<|ao @Mg<|ao @LF<|ao @Ls<|ao @Fk<|ao @EY<|ao @Lu<|ao @KP<|ao @Lx<|ao @Lh<|ao @HC<|ao @HP<|ao @PW<|ao @O3<|ao @HQ<|ao @Iu<|ao @vK<|ao @vz<|ao @KG<|ao @Mh<|ao @Lw<|ao @KN<|ao @IL<|ao @Ja<|ao @zR<|ao @Af <| @zY
def rr8:=ao @H_<|ao @I3<|ao @Hq<|ao @G6<|ao @L8<|ao @Lf<|ao @LO<|ao @Lo<|ao @Cg<|ao @BQ<|ao @BE<|ao @zS<|ao @B1<|ao @Bn<|ao @RN_slice<|ao @RD_slice<|ao @xL<|ao @ym<|ao @Tb<|ao @xO<|ao @xZ<|ao @xI<|ao @xF<|ao @xq<|ao @Hf<|ao @Fb<|ao @FK<|ao @EO<|ao @xJ <| @zI
def rr9:=ao @vt<|ao @GT<|ao @Ig<|ao @B9<|ao @Cs<|ao @B2<|ao @BL<|ao @B8<|ao @Ce<|ao @ID<|ao @I0<|ao @GA<|ao @Oz<|ao @Pm<|ao @Lg<|ao @LJ<|ao @BV<|ao @Ij<|ao @HI<|ao @Ln<|ao @SJ<|ao @MZ<|ao @S8<|ao @CX<|ao @Di<|ao @KW<|ao @So<|ao @In<|ao @Gu <| @LY
def rr10:=@R0
def rr:=ao @rr0<|ao @rr1<|ao @rr2<|ao @rr3<|ao @rr4<|ao @rr5<|ao @rr6<|ao @rr7<|ao @rr8<|ao @rr9 <| @rr10
theorem dd :
 (∀(cs:List XV),cellsOf (XV.agg cs)=cs) /\
 (∀(k:IntKind) (i:Int),cellsOf (XV.int k i)=[XV.int k i]) /\
 (∀(b:Bool),cellsOf (XV.bool b)=[XV.bool b]) /\
 (∀(a b:Nat),cellsOf (XV.mp a b)=[XV.mp a b]) /\
 (∀(n e o l c:Nat),cellsOf (XV.sl n e o l c)=[XV.sl n e o l c]) /\
 (∀(a:Nat),cellsOf (XV.mm a)=[XV.mm a]) /\
 (cellsOf XV.nils=[XV.nils]) /\
 (cellsOf XV.nilp=[XV.nilp]) /\
 (cellsOf XV.nilm=[XV.nilm]) /\
 (cellsOf XV.nilf=[XV.nilf]) /\
 (∀(f:Fn) (a b:List XV),cellsOf (XV.fn f a b)=[XV.fn f a b]) /\
 (∀(s:List Nat),cellsOf (XV.str s)=[XV.str s]) /\
 (∀(k:IntKind) (i:Int),ax (XV.int k i)=true) /\
 (∀(b:Bool),ax (XV.bool b)=true) /\
 (∀(a b:Nat),ax (XV.mp a b)=true) /\
 (∀(n e o l c:Nat),ax (XV.sl n e o l c)=true) /\
 (∀(a:Nat),ax (XV.mm a)=true) /\
 (ax XV.nils=true) /\
 (ax XV.nilp=true) /\
 (ax XV.nilm=true) /\
 (ax XV.nilf=true) /\
 (∀(f:Fn) (a b:List XV),ax (XV.fn f a b)=true) /\
 (∀(s:List Nat),ax (XV.str s)=true) /\
 (gU [] []=true) /\
 (∀(k:IntKind) (l:List CK) (a:Int) (xs:List XV),gU (CK.i k::l) (XV.int k a::xs)=gU l xs) /\
 (∀(l:List CK) (a:Bool) (xs:List XV),gU (CK.b::l) (XV.bool a::xs)=gU l xs) /\
 (xR []=true) /\
 (∀(k:Int) (xs:List XV),xR (XV.int IntKind.u64 k::xs)=xR xs) :=
 ⟨@wu,@Xg,@tK,@zn,@zx,@Ae,@tV,@Bk,@BY,@BH,@zE,@xh,@wc,@uc,@AC,@AJ,@Aj,@tl,@Bs,@Bq,@tm,@UV,@wd,@Du,@DB,@Ac,@CX,@Di⟩
def qG:=ao @dd<|ao @length_cons.{0} <| ao @length_nil.{0} <| ao @all_cons.{0} <| ao @all_nil.{0} <| ao @Bool.and_true <| @Bool.true_and
def qF:=ao @dd<|ao @length_cons.{0} <| ao @length_nil.{0} <| ao @length_map.{0,0} <| ao @length_append.{0} <| ao @length_take.{0} <| ao @length_drop.{0} <| ao @all_cons.{0} <| ao @all_nil.{0} <| ao @Bool.and_true<|ao @Bool.true_and<|ao @mem_cons.{0} <| ao @not_mem_nil.{0} <| @or_false
def qE:=ao @rr<|ao @Nat.zero_add<|ao @Nat.add_zero<|ao @Nat.add_assoc<|ao @Nat.one_mul<|ao @Nat.mul_one<|ao @List.toList_toArray.{0} <| ao @all_cons.{0} <| ao @all_nil.{0} <| ao @Bool.and_true<|ao @Bool.true_and<|ao @length_cons.{0} <| ao @length_nil.{0} <| ao @drop_zero.{0} <| ao @drop_succ_cons.{0} <| ao @take_succ_cons.{0} <| ao @take_zero.{0} <| ao @getElem?_cons_zero.{0} <| ao @getElem?_cons_succ.{0} <| ao @map_some.{0,0} <| ao @cons_append.{0} <| ao @nil_append.{0} <| ao @append_nil.{0} <| ao @true_and<|ao @and_true<|ao @Option.some.injEq.{0} <| ao @exists_eq_left'.{1} <| ao @take_append_drop.{0} <| ao @getD_some.{0} <| ao @getD_none.{0} <| ao @map_none.{0,0} <| ao @isSome_some.{0} <| ao @isSome_none.{0} <| ao @decide_true<|ao @decide_false<|ao @Bool.not_true<|ao @Bool.not_false <| @Int.cast_ofNat_Int
structure Wr (p:Prop):Prop where
 o:p
theorem aI {a b:Prop} (x:a) (y:b):a/\b:=⟨x,y⟩
theorem ar.wk {g:Nat} {c:Code} {q:Prop} (m:Nat) (rs:List ResultVar) (hf:P.funcs[g]?=some fn) (h:q) (hp:P.follows .mixedOrders=true:=by exact follows) (hn:(fn.name == "runtime.NumGoroutine")=false:=by kernel_rfl) (hb:fn.body=some c:=by exact rfl) (hm:args.length+(fn.ntmps - args.length)=m:=by exact rfl) (hr:fn.results.toList=rs:=by exact rfl) (e:W P ρ m c [] (vA P rs R) ⟨cz args 0 .nil,M,nx⟩=q:=by conv=>lhs;arg 4;whnf):ar P ρ g args M nx R:=ar.walk hp hf hn hb hm hr (e.mpr h)
theorem Pr {p q:Prop} (h:q) (e:p=q:=by conv=>lhs;simp (maxSteps:=10000000) (zetaDelta:=true) (disch:=first|assumption|decide|omega|(simp only[qG, *];done)|(simp only[qF,fE];first|done|assumption|omega)) only [qE,cz,oj,cB,gx,vI,vB,vX,cR,Nat.reduceLT,reduceEqDiff,Nat.reduceAdd,Nat.reduceMul,Nat.reduceSub,reduceIte,Int.reduceLT,Int.reduceLE,Int.reduceEq,Int.reduceNeg,Int.reduceToNat]):p:=e.mpr h
theorem yX {A p q:Prop} (e:Wr A->p=q:=by intro f0;conv=>lhs;simp (maxSteps:=10000000) (zetaDelta:=true) (disch:=first|assumption|decide|omega|(simp only[qG, *];done)|(simp only[qF,fE];first|done|assumption|omega)) only [qE,cz,oj,cB,gx,vI,vB,vX,cR,Nat.reduceLT,reduceEqDiff,Nat.reduceAdd,Nat.reduceMul,Nat.reduceSub,reduceIte,Int.reduceLT,Int.reduceLE,Int.reduceEq,Int.reduceNeg,Int.reduceToNat,f0.o]):Wr A->p=q:=e
theorem RA {p q:Prop} (h:q) (e:p=q:=by conv=>lhs;simp (maxSteps:=10000000) (zetaDelta:=true) (disch:=first|assumption|decide|omega|(simp only[qG, *];done)|(simp only[qF,fE];first|done|assumption|omega)) only [qE,cz,oj,cB,gx,vI,vB,vX,kq,kg,km,Nat.reduceLT,reduceEqDiff,Nat.reduceAdd,Nat.reduceMul,Nat.reduceSub,reduceIte,Int.reduceLT,Int.reduceLE,Int.reduceEq,Int.reduceNeg,Int.reduceToNat]):p:=e.mpr h
theorem tj {A p q:Prop} (e:Wr A->p=q:=by intro f0;conv=>lhs;simp (maxSteps:=10000000) (zetaDelta:=true) (disch:=first|assumption|decide|omega|(simp only[qG, *];done)|(simp only[qF,fE];first|done|assumption|omega)) only [qE,cz,oj,cB,gx,vI,vB,vX,kq,kg,km,Nat.reduceLT,reduceEqDiff,Nat.reduceAdd,Nat.reduceMul,Nat.reduceSub,reduceIte,Int.reduceLT,Int.reduceLE,Int.reduceEq,Int.reduceNeg,Int.reduceToNat,f0.o]):Wr A->p=q:=e
section
variable {A0 A1 A2 A3 A4 A5 A6 A7 A8 A9 A10 A11 p q:Prop}
theorem dt (x0:A0) (h:q) (e:Wr (A0)->p=q:=by exact yX):p:=(e ⟨x0⟩).mpr h
theorem fM (x0:A0) (x1:A1) (h:q) (e:Wr (A0/\A1)->p=q:=by exact yX):p:=(e ⟨⟨x0,x1⟩⟩).mpr h
theorem gk (x0:A0) (x1:A1) (x2:A2) (h:q) (e:Wr (A0/\A1/\A2)->p=q:=by exact yX):p:=(e ⟨⟨x0,x1,x2⟩⟩).mpr h
theorem jz (x0:A0) (x1:A1) (x2:A2) (x3:A3) (h:q) (e:Wr (A0/\A1/\A2/\A3)->p=q:=by exact yX):p:=(e ⟨⟨x0,x1,x2,x3⟩⟩).mpr h
theorem lO (x0:A0) (x1:A1) (x2:A2) (x3:A3) (x4:A4) (h:q) (e:Wr (A0/\A1/\A2/\A3/\A4)->p=q:=by exact yX):p:=(e ⟨⟨x0,x1,x2,x3,x4⟩⟩).mpr h
theorem ul (x0:A0) (x1:A1) (x2:A2) (x3:A3) (x4:A4) (x5:A5) (h:q) (e:Wr (A0/\A1/\A2/\A3/\A4/\A5)->p=q:=by exact yX):p:=(e ⟨⟨x0,x1,x2,x3,x4,x5⟩⟩).mpr h
theorem ky (x0:A0) (x1:A1) (x2:A2) (x3:A3) (x4:A4) (x5:A5) (x6:A6) (h:q) (e:Wr (A0/\A1/\A2/\A3/\A4/\A5/\A6)->p=q:=by exact yX):p:=(e ⟨⟨x0,x1,x2,x3,x4,x5,x6⟩⟩).mpr h
theorem oq (x0:A0) (x1:A1) (x2:A2) (x3:A3) (x4:A4) (x5:A5) (x6:A6) (x7:A7) (h:q) (e:Wr (A0/\A1/\A2/\A3/\A4/\A5/\A6/\A7)->p=q:=by exact yX):p:=(e ⟨⟨x0,x1,x2,x3,x4,x5,x6,x7⟩⟩).mpr h
theorem wT (x0:A0) (x1:A1) (x2:A2) (x3:A3) (x4:A4) (x5:A5) (x6:A6) (x7:A7) (x8:A8) (h:q) (e:Wr (A0/\A1/\A2/\A3/\A4/\A5/\A6/\A7/\A8)->p=q:=by exact yX):p:=(e ⟨⟨x0,x1,x2,x3,x4,x5,x6,x7,x8⟩⟩).mpr h
theorem rf (x0:A0) (x1:A1) (x2:A2) (x3:A3) (x4:A4) (x5:A5) (x6:A6) (x7:A7) (x8:A8) (x9:A9) (h:q) (e:Wr (A0/\A1/\A2/\A3/\A4/\A5/\A6/\A7/\A8/\A9)->p=q:=by exact yX):p:=(e ⟨⟨x0,x1,x2,x3,x4,x5,x6,x7,x8,x9⟩⟩).mpr h
theorem zQ (x0:A0) (x1:A1) (x2:A2) (x3:A3) (x4:A4) (x5:A5) (x6:A6) (x7:A7) (x8:A8) (x9:A9) (kV:A10) (h:q) (e:Wr (A0/\A1/\A2/\A3/\A4/\A5/\A6/\A7/\A8/\A9/\A10)->p=q:=by exact yX):p:=(e ⟨⟨x0,x1,x2,x3,x4,x5,x6,x7,x8,x9,kV⟩⟩).mpr h
theorem yq (x0:A0) (x1:A1) (x2:A2) (x3:A3) (x4:A4) (x5:A5) (x6:A6) (x7:A7) (x8:A8) (x9:A9) (kV:A10) (mt:A11) (h:q) (e:Wr (A0/\A1/\A2/\A3/\A4/\A5/\A6/\A7/\A8/\A9/\A10/\A11)->p=q:=by exact yX):p:=(e ⟨⟨x0,x1,x2,x3,x4,x5,x6,x7,x8,x9,kV,mt⟩⟩).mpr h
theorem bR (x0:A0) (h:q) (e:Wr (A0)->p=q:=by exact tj):p:=(e ⟨x0⟩).mpr h
theorem mI (x0:A0) (x1:A1) (h:q) (e:Wr (A0/\A1)->p=q:=by exact tj):p:=(e ⟨⟨x0,x1⟩⟩).mpr h
theorem Ao (x0:A0) (x1:A1) (x2:A2) (h:q) (e:Wr (A0/\A1/\A2)->p=q:=by exact tj):p:=(e ⟨⟨x0,x1,x2⟩⟩).mpr h
theorem ti (x0:A0) (x1:A1) (x2:A2) (x3:A3) (h:q) (e:Wr (A0/\A1/\A2/\A3)->p=q:=by exact tj):p:=(e ⟨⟨x0,x1,x2,x3⟩⟩).mpr h
theorem mY (x0:A0) (x1:A1) (x2:A2) (x3:A3) (x4:A4) (h:q) (e:Wr (A0/\A1/\A2/\A3/\A4)->p=q:=by exact tj):p:=(e ⟨⟨x0,x1,x2,x3,x4⟩⟩).mpr h
theorem iC (x0:A0) (x1:A1) (x2:A2) (x3:A3) (x4:A4) (x5:A5) (h:q) (e:Wr (A0/\A1/\A2/\A3/\A4/\A5)->p=q:=by exact tj):p:=(e ⟨⟨x0,x1,x2,x3,x4,x5⟩⟩).mpr h
theorem gw (x0:A0) (x1:A1) (x2:A2) (x3:A3) (x4:A4) (x5:A5) (x6:A6) (h:q) (e:Wr (A0/\A1/\A2/\A3/\A4/\A5/\A6)->p=q:=by exact tj):p:=(e ⟨⟨x0,x1,x2,x3,x4,x5,x6⟩⟩).mpr h
theorem iQ (x0:A0) (x1:A1) (x2:A2) (x3:A3) (x4:A4) (x5:A5) (x6:A6) (x7:A7) (h:q) (e:Wr (A0/\A1/\A2/\A3/\A4/\A5/\A6/\A7)->p=q:=by exact tj):p:=(e ⟨⟨x0,x1,x2,x3,x4,x5,x6,x7⟩⟩).mpr h
theorem CU (x0:A0) (x1:A1) (x2:A2) (x3:A3) (x4:A4) (x5:A5) (x6:A6) (x7:A7) (x8:A8) (h:q) (e:Wr (A0/\A1/\A2/\A3/\A4/\A5/\A6/\A7/\A8)->p=q:=by exact tj):p:=(e ⟨⟨x0,x1,x2,x3,x4,x5,x6,x7,x8⟩⟩).mpr h
theorem dp (x0:A0) (x1:A1) (x2:A2) (x3:A3) (x4:A4) (x5:A5) (x6:A6) (x7:A7) (x8:A8) (x9:A9) (h:q) (e:Wr (A0/\A1/\A2/\A3/\A4/\A5/\A6/\A7/\A8/\A9)->p=q:=by exact tj):p:=(e ⟨⟨x0,x1,x2,x3,x4,x5,x6,x7,x8,x9⟩⟩).mpr h
theorem dw (x0:A0) (x1:A1) (x2:A2) (x3:A3) (x4:A4) (x5:A5) (x6:A6) (x7:A7) (x8:A8) (x9:A9) (kV:A10) (h:q) (e:Wr (A0/\A1/\A2/\A3/\A4/\A5/\A6/\A7/\A8/\A9/\A10)->p=q:=by exact tj):p:=(e ⟨⟨x0,x1,x2,x3,x4,x5,x6,x7,x8,x9,kV⟩⟩).mpr h
theorem ii (x0:A0) (x1:A1) (x2:A2) (x3:A3) (x4:A4) (x5:A5) (x6:A6) (x7:A7) (x8:A8) (x9:A9) (kV:A10) (mt:A11) (h:q) (e:Wr (A0/\A1/\A2/\A3/\A4/\A5/\A6/\A7/\A8/\A9/\A10/\A11)->p=q:=by exact tj):p:=(e ⟨⟨x0,x1,x2,x3,x4,x5,x6,x7,x8,x9,kV,mt⟩⟩).mpr h
end
section
variable {P:Program} {Γ:cc} {M N M':Hp} {key b:Nat}
def aq (b:Nat) (M M':Hp):Prop:=∀k,k<b->gG M' k=gG M k
theorem aq.refl (b:Nat) (M:Hp):aq b M M:=fun _ _=>rfl
theorem aq.trans {M1 M2 M3:Hp} (h:aq b M1 M2) (h':aq b M2 M3):aq b M1 M3:=fun k hk=>(h' k hk).trans (h k hk)
theorem aq.le (h:aq b M M') (hb:b'<=b):aq b' M M':=fun k hk=>h k aa
theorem aq.set (h:aq b M M') {k:Nat} (hk:b<=k) (o:bx):aq b M (aG M' k o):=fun j hj=>by rw[ap,if_neg aa];exact h j hj
theorem O{p:Prop} (h:p:=by(repeat (refine aq.set ?_ aa _));exact aq.refl _ _):p:=h
def fe (nx:Nat) (M:Hp) (v:XV) (r:ew):Prop:=r.1=v/\aq nx M r.2.1/\nx<=r.2.2
theorem lG {env:eX} {all os:List Oper} {F:XS->Prop} {d:Option Nat} {g:Nat} (h:ar P ρ g args M nx (fe m N v)) (k:∀M2 n2,aq m N M2->m<=n2->aN P ρ n all os env d F (v,M2,n2)):CN P ρ n all os env M nx d F (some (g,args)):=gQ h fun ⟨_,_,_⟩ ⟨a,b,c⟩=>by cases a;exact k _ _ b c
theorem fe.mk {nx':Nat} {M':Hp} (h:aq nx M M') (h':nx<=nx'):fe nx M v (v,M',nx'):=⟨rfl,h,h'⟩
def bE (M:Hp) (b:Nat) (v:XV) (sz len:Nat) (row:List XV):Prop :=
 len<=9223372036854775807/\((v = .nils/\len=0/\row=[])\/∃n off cap cs,v = .sl n sz off len cap/\n<b/\vR M n=some cs/\off+len*sz<=cs.length/\row=(cs.drop off).take (len*sz))
theorem bE.agr {len:Nat} {row:List XV} (h:bE M b v sz len row) (ha:aq b M M'):bE M' b v sz len row:=by
 refine⟨h.1,?_⟩;rcases h.2 with h | ⟨n,off,cap,cs,h1,h2,h3,h4⟩
 ·exact .inl h
 refine .inr ⟨n,off,cap,cs,h1,h2,?_,h4⟩;unfold vR at h3 ⊢;rw[ha n h2];exact h3
theorem bE.row_len {len:Nat} {row:List XV} (h:bE M b v sz len row):row.length=len*sz:=by
 rcases h.2 with ⟨_,rfl,rfl⟩ | ⟨n,off,cap,cs,h1,h2,h3,h4,rfl⟩
 ·simp
 simp;omega
theorem bE.len {len:Nat} {row:List XV} (h:bE M b v sz len row) (ht:nt P t = .sl) (N:Hp):kZ P N t v=some ⟨.int .i64 len,[],[]⟩:=by
 rcases h.2 with ⟨rfl,rfl,rfl⟩ | ⟨n,off,cap,cs,rfl,_⟩
 ·rw[VU,ht];rfl
 rw[Cb,ht];rfl
theorem bE.at {len:Nat} {row:List XV} (h:bE M b v sz len row) (hi:i<len) (ht:es P t=some sz) :
 ∃n o,n<b/\(∀k,br P t v (.int k (i:Int))=some (.mp n o))/\∃cs,vR M n=some cs/\(row.drop (i*sz)).take sz=(cs.drop o).take sz/\o+sz<=cs.length:=by
 rcases h.2 with ⟨_,rfl,_⟩ | ⟨n,off,cap,cs,rfl,hn,hc,hl,rfl⟩
 ·omega
 refine⟨n,off+i*sz,hn,fun k=>?_,cs,hc,?_,?_⟩
 ·rw[cy,ht,ev _ _ _ _ _ aa aa]
  simp
 ·rw[List.drop_take,abi,take_take]
  congr 1;have h1:len*sz - i*sz=(len - i)*sz:=by rw[Nat.sub_mul]
  have:sz<=(len - i)*sz:=Nat.le_mul_of_pos_left _ aa;omega
 have:(i+1)*sz<=len*sz:=abg _ hi;rw[Nat.add_mul,Nat.one_mul]at this;omega
theorem fG {o:Nat} (hc:vR M n=some cs) (ht:sa P t=some (sz,true)) (hl:o+sz<=cs.length):b_ P M t (.mp n o)=some ⟨.agg ((cs.drop o).take sz),[n],[]⟩:=by unfold b_;simp only[hc,ma,ht];rw[HJ _ _ ak]
theorem dB {o:Nat} (hc:vR M n=some cs) (ht:sa P t=some (sz,false)) (hv:cs[o]?=some v):b_ P M t (.mp n o)=some ⟨v,[n],[]⟩:=by
 unfold b_;simp only[hc,ma,ht];have:cs.drop o=v::cs.drop (o+1):=by obtain⟨h1,rfl⟩:=aaq.1 hv;exact drop_eq_getElem_cons h1
 rw[this];rfl
theorem lR (h:vR M n=some cs) (ha:aq b M M') (hn:n<b):vR M' n=some cs:=by unfold vR at h ⊢;rw[ha n hn];exact h
theorem bE.elem {len:Nat} {row:List XV} (h:bE M b v sz len row) (hi:i<len) {t':Nat} (ht:es P t=some sz) (oe:sa P t'=some (sz,true)) :
 ∃n o,n<b/\(∀k,br P t v (.int k (i:Int))=some (.mp n o))/\∀N,aq b M N->b_ P N t' (.mp n o)=some ⟨.agg ((row.drop (i*sz)).take sz),[n],[]⟩:=by
 obtain⟨n,o,h1,h2,cs,h3,h4,h5⟩:=h.at hi ht;refine⟨n,o,h1,h2,fun N hN=>?_⟩;rw[fG (lR h3 hN h1) oe h5,h4]
theorem bE.cell {len:Nat} {row:List XV} (h:bE M b v sz len row):cellsOf v=[v]/\ax v=true:=by rcases h.2 with ⟨rfl,_⟩ | ⟨n,off,cap,cs,rfl,_⟩<;>exact⟨rfl,rfl⟩
inductive Ex where
 | mk (k a b:Int) (ps:List Ex)
mutual
def bG (M:Hp) (b:Nat):Ex->List XV->Prop
 | .mk k x y ps,cs=>∃v row,cs=[.int .i64 k,.int .u64 x,.int .u64 y,v]/\bE M b v 4 ps.length row/\cj M b ps row
def cj (M:Hp) (b:Nat):List Ex->List XV->Prop
 | [],_=>True
 | e::es,row=>bG M b e (row.take 4)/\cj M b es (row.drop 4)
end
mutual
theorem bG.agr (ha:aq b M M'):∀{e:Ex} {cs:List XV},bG M b e cs->bG M' b e cs
 | .mk k x y ps,cs,h=>by simp only[bG]at h ⊢;obtain⟨v,row,h1,h2,h3⟩:=h;exact⟨v,row,h1,h2.agr ha,cj.agr ha h3⟩
theorem cj.agr (ha:aq b M M'):∀{es:List Ex} {row:List XV},cj M b es row->cj M' b es row
 | [],_,_=>by simp only[cj]
 | e::es,row,h=>by simp only[cj]at h ⊢;exact⟨bG.agr ha h.1,cj.agr ha h.2⟩
end
theorem cj.get:∀{es:List Ex} {row:List XV} {i:Nat} {e:Ex},cj M b es row->es[i]?=some e->bG M b e ((row.drop (i*4)).take 4)
 | [],_,_,_,_,h=>by simp at h
 | e::es,row,0,e',h,he=>by simp only[cj]at h;simp only[aaI,aat]at he;subst he;simpa using h.1
 | e::es,row,i+1,e',h,he=>by simp only[cj]at h;simp only[aa1]at he;have:=cj.get h.2 he;rw[abi]at this;rw[show (i+1)*4=4+i*4 by omega];exact this
structure En where
 x:Int
 w:Int
 n:Int
 m:Bool
def gq (e:En):List XV:=[.int .u64 e.x,.int .u64 e.w,.int .u64 e.n,.bool e.m]
structure aR where
 kind:Int
 t:Int
 x:Int
 w:Int
 n:Int
 v:Int
 p:Ex
 es:List En
def jm (M:Hp) (b:Nat) (v:XV) (es:List En):Prop:=bE M b v 4 es.length (es.flatMap gq)
def eo (M:Hp) (b:Nat) (r:aR) (cs:List XV):Prop :=
 ∃pc ve,cs=[.int .i64 r.kind,.int .u64 r.t,.int .u64 r.x,.int .u64 r.w,.int .u64 r.n,.int .u64 r.v]++pc++[ve]/\bG M b r.p pc/\jm M b ve r.es
theorem eo.agr (ha:aq b M M') {r:aR} (h:eo M b r cs):eo M' b r cs:=by obtain⟨pc,ve,h1,h2,h3⟩:=h;exact⟨pc,ve,h1,h2.agr ha,bE.agr h3 ha⟩
def cP (M:Hp) (b:Nat) (v:XV) (l:List aR):Prop:=∃row,bE M b v 11 l.length row/\∀i r,l[i]?=some r->eo M b r ((row.drop (i*11)).take 11)
theorem cP.agr (ha:aq b M M') {l:List aR} (h:cP M b v l):cP M' b v l:=by obtain⟨row,h1,h2⟩:=h;exact⟨row,h1.agr ha,fun i r hi=>(h2 i r hi).agr ha⟩
end
section
open Go.RowKit
section
variable {P:Program} {M M':Hp} {b:Nat}
def UW (g:TypeId->List XV->Prop) (P:Program):List Field->List XV->Prop
 | [],xs=>xs=[]
 | f::fs,xs=>∃ys zs,xs=ys++zs/\ys.length=P.cellsOf f.type/\g f.type ys/\UW g P fs zs
def jK (P:Program) (M:Hp) (b:Nat):Nat->TypeId->List XV->Prop
 | 0,_,_=>False
 | n+1,t,xs=>match P.underlying t with
   | some .bool=>∃v,xs=[.bool v]
   | some (.int k)=>∃i,xs=[.int k i]/\(Lit.int k i).wf=true
   | some (.slice e)=>∃(v:XV) (len:Nat) (row:List XV) (xss:List (List XV)),xs=[v]/\bE M b v (P.cellsOf e) len row/\row=xss.flatten/\xss.length=len/\∀ys ∈ xss,ys.length=P.cellsOf e/\jK P M b n e ys
   | some (.struct fs)=>UW (jK P M b n) P fs.toList xs
   | _=>False
theorem UW.imp {g h:TypeId->List XV->Prop} (hgh:∀t xs,g t xs->h t xs):∀{fs:List Field} {xs:List XV},UW g P fs xs->UW h P fs xs
 | [],_,q=>q
 | _::_,_,⟨ys,zs,h1,h2,h3,h4⟩=>⟨ys,zs,h1,h2,hgh _ _ h3,UW.imp hgh h4⟩
theorem bE.le {len:Nat} {row:List XV} (h:bE M b v sz len row) (hb:b<=b'):bE M b' v sz len row:=by
 refine⟨h.1,?_⟩;rcases h.2 with h | ⟨n,off,cap,cs,h1,h2,h3⟩
 ·exact .inl h
 exact .inr ⟨n,off,cap,cs,h1,aa,h3⟩
theorem jK.grow {b':Nat} (ha:aq b M M') (hb:b<=b'):∀{n:Nat} {t:TypeId} {xs:List XV},jK P M b n t xs->jK P M' b' n t xs
 | 0,_,_,h=>h.elim
 | n+1,t,xs,h=>by
   simp only[jK]at h ⊢;split at h;·exact h
   ·exact h
   ·obtain⟨v,len,row,xss,h1,h2,h3,h4,h5⟩:=h
    exact⟨v,len,row,xss,h1,(h2.agr ha).le hb,h3,h4,fun ys hy=>⟨(h5 ys hy).1,jK.grow ha hb (h5 ys hy).2⟩⟩
   ·exact h.imp fun t xs q=>jK.grow ha hb q
   exact h
def Ta (P:Program):List Field->Nat->Nat->Bool
 | [],o,n=>aaW o n
 | f::fs,o,n=>aaW f.offset o&&Ta P fs (o+P.cellsOf f.type) n
def tyOk (P:Program) (S:List TypeId) (t:TypeId):Bool:=match P.underlying t with
 | some .bool=>aaW (P.cellsOf t) 1
 | some (.int _)=>aaW (P.cellsOf t) 1
 | some (.slice e)=>aaW (P.cellsOf t) 1&&S.any (aaW e)&&abc 0 (P.cellsOf e)
 | some (.struct fs)=>Ta P fs.toList 0 (P.cellsOf t)&&fs.toList.all fun f=>S.any (aaW f.type)
 | _=>false
theorem XA {S:List TypeId} {t:TypeId} (h:S.any (Nat.beq t)=true):t ∈ S:=by
 obtain⟨u,h1,h2⟩:=List.any_eq_true.1 h
 rwa [aaB h2]
end
section
variable {P:Program} {ρ:aK} {w:World} {σ σ' σ'':cb} {M M' M'':Hp} {nx nx' nx'':Nat} {H:Type} {enc:TypeId×Value->H}
structure oS (ρ:aK) (w:World) (σ:cb) (M:Hp) (nx:Nat):Prop where
 ok:Ok ρ w σ M
 free:∀k,nx<=k->σ k=none
 cst:∀k o,gG M k=some o->kF o=false
structure Ol (σ:cb) (M:Hp) (nx:Nat) (σ':cb) (M':Hp) (nx':Nat):Prop where
 agr:aq nx M M'
 le:nx<=nx'
 sig:∀k p,σ k=some p->σ' k=some p
theorem Ol.refl (σ:cb) (M:Hp) (nx:Nat):Ol σ M nx σ M nx:=⟨aq.refl _ _,u7 _,fun _ _ h=>h⟩
theorem Ol.trans (h:Ol σ M nx σ' M' nx') (k:Ol σ' M' nx' σ'' M'' nx''):Ol σ M nx σ'' M'' nx'' :=
 ⟨h.agr.trans (k.agr.le h.le),aaT h.le k.le,fun q p hp=>k.sig q p (h.sig q p hp)⟩
theorem oS.no (h:oS ρ w σ M nx) (b:Nat):¬ eB σ M b:=fun⟨k,o,p,h1,_,_,h4⟩=>by rw[h.cst k o h1]at h4;cases h4
theorem oS.add (h:oS ρ w σ M nx) {b:Nat} {us:Array Value} {t:TypeId} {fz:Nat×Nat} (hb:w.heap[b]?=some (.cells us t fz)) (hl:cs.length<=us.size) (hv:c_ ρ σ cs (us.toList.take cs.length)) :
 oS ρ w (σ.upd nx (b,us.size)) (aG M nx (.cst cs)) (nx+1)/\Ol σ M nx (σ.upd nx (b,us.size)) (aG M nx (.cst cs)) (nx+1):=by
 have hf:=h.free nx (u7 _);have sub:=cb.upd_sub hf (b,us.size);have hc:∀k o,gG (aG M nx (.cst cs)) k=some o->kF o=false:=fun k o hk=>by
  rw[ap]at hk;split at hk;·cases hk;rfl
  exact h.cst k o hk
 have sy:∀c,¬ eB (σ.upd nx (b,us.size)) (aG M nx (.cst cs)) c:=fun c ⟨k,o,p,h1,_,_,h4⟩=>by rw[hc k o h1]at h4;cases h4
 refine⟨⟨⟨fun k o hk=>?_,fun k k' o o' p p' hk _ hm=>(by rw[hc k o hk]at hm;cases hm),fun c x hx=>⟨(h.ok.fix c x hx).1,sy c⟩⟩,fun k hk=>(by rw[cb.upd_other _ _ aa];exact h.free k aa),hc⟩,(aq.refl _ _).set (u7 _) _,aa,sub⟩;rw[ap]at hk;split at hk
 ·rename_i e
  subst e;cases hk;exact⟨_,cb.upd_same _ _ _,us,t,fz,hb,rfl,hl,hv.mono sub⟩
 obtain⟨p,hp,ho⟩:=h.ok.obj k o hk;exact⟨p,sub k p hp,ho.mono sub rfl⟩
theorem SR {S:List TypeId} {n:Nat} (step:∀(t:TypeId) (cs:List Value),(∃x,acu enc P w 0 (fun _=>true) true n t cs=some x)->∀(σ:cb) (M:Hp) (nx:Nat),oS ρ w σ M nx ->
 t ∈ S->∃σ' M' nx' xs,oS ρ w σ' M' nx'/\Ol σ M nx σ' M' nx'/\c_ ρ σ' xs cs/\jK P M' nx' n t xs/\xs.length=P.cellsOf t) :
 ∀(l:List (TypeId×List Value)),(∀q ∈ l,q.1 ∈ S/\∃x,acu enc P w 0 (fun _=>true) true n q.1 q.2=some x)->∀(σ:cb) (M:Hp) (nx:Nat),oS ρ w σ M nx ->
  ∃(σ':cb) (M':Hp) (nx':Nat) (xss:List (List XV)),oS ρ w σ' M' nx'/\Ol σ M nx σ' M' nx'/\c_ ρ σ' xss.flatten (l.map (·.2)).flatten/\xss.length=l.length/\∀(i:Nat) q ys,l[i]?=some q->xss[i]?=some ys->jK P M' nx' n q.1 ys/\ys.length=P.cellsOf q.1
 | [],_,σ,M,nx,hg=>⟨σ,M,nx,[],hg,.refl _ _ _,by simp[c_],rfl,fun i q ys h=>by simp at h⟩
 | (t,cs)::l,hq,σ,M,nx,hg=>by
   have h0:=hq (t,cs) aaC;obtain⟨σ1,M1,MP,xs,g1,r1,v1,t1,l1⟩:=step t cs h0.2 σ M nx hg h0.1;obtain⟨σ2,M2,nx2,xss,g2,r2,v2,e2,t2⟩:=SR step l (fun q h=>hq q (aaJ _ h)) σ1 M1 MP g1;refine⟨σ2,M2,nx2,xs::xss,g2,r1.trans r2,?_,by simp[e2],fun i q ys hi hy=>?_⟩
   ·simp only[flatten_cons,aa3]
    exact(v1.mono r2.sig).append v2
   cases i with
   | zero =>
     simp only[aaI,aat]at hi hy;subst hi;subst hy;exact⟨t1.grow r2.agr r2.le,l1⟩
   | succ i=>exact t2 i q ys (by simpa using hi) (by simpa using hy)
theorem GH {cs:List Value}:∀{fs:List Field} {o:Nat},Ta P fs o cs.length=true->(fs.map fun f=>(cs.drop f.offset).take (P.cellsOf f.type)).flatten=cs.drop o
 | [],o,h=>by have:=aaB h;subst this;simp
 | f::fs,o,h=>by simp only[Ta,aaF]at h;obtain⟨h1,h2⟩:=h;have:=aaB h1;subst this;rw[aa3,flatten_cons,GH h2,<-abi,take_append_drop]
theorem fs_at {g:TypeId->List XV->Prop}:∀{fs:List Field} {xss:List (List XV)},xss.length=fs.length->(∀(i:Nat) f ys,fs[i]?=some f->xss[i]?=some ys->g f.type ys/\ys.length=P.cellsOf f.type)->UW g P fs xss.flatten
 | [],[],_,_=>rfl
 | [],_::_,h,_=>by simp at h
 | _::_,[],h,_=>by simp at h
 | f::fs,xs::xss,hl,h=>by have h0:=h 0 f xs rfl rfl;exact⟨xs,xss.flatten,rfl,h0.2,h0.1,fs_at (by simpa using hl) fun i f' ys h1 h2=>h (i+1) f' ys (by simpa using h1) (by simpa using h2)⟩
theorem PP {us:List Value} {off sz:Nat}:∀(len:Nat),off+len*sz<=us.length->((aa7 len).map fun i=>(us.drop (off+i*sz)).take sz).flatten=(us.drop off).take (len*sz)
 | 0,_=>af
 | len+1,h=>by have hm:(len+1)*sz=len*sz+sz:=succ_mul _ _;rw[range_succ,abV,flatten_append,PP len aa,hm,take_add,abi];simp
theorem undefs {σ:cb}:∀(us:List Value),c_ ρ σ (ab2 us.length .un) us
 | []=>by simp[c_]
 | u::us=>by simp only[aaw,adL,c_,VR];exact⟨u,us,rfl,trivial,undefs us⟩
theorem cell_at {b o:Nat} {v:Value} (h:w.cell? ⟨b,o,none⟩=some v):∃(us:Array Value) (t:TypeId) (fz:Nat×Nat),w.heap[b]?=some (.cells us t fz)/\us[o]?=some v:=by
 unfold World.cell? at h;simp only[adM,aay,if_false]at h;split at h
 ·rename_i us t fz hb
  exact⟨us,t,fz,hb,h⟩
 cases h
theorem SU {S:List TypeId} (hS:∀t ∈ S,tyOk P S t=true) (NP:∃(b:Nat) (us:Array Value) (t:TypeId) (fz:Nat×Nat),w.heap[b]?=some (.cells us t fz)) :
 ∀(n:Nat) (t:TypeId) (cs:List Value),(∃x,acu enc P w 0 (fun _=>true) true n t cs=some x)->∀(σ:cb) (M:Hp) (nx:Nat),oS ρ w σ M nx ->
  t ∈ S->∃σ' M' nx' xs,oS ρ w σ' M' nx'/\Ol σ M nx σ' M' nx'/\c_ ρ σ' xs cs/\jK P M' nx' n t xs/\xs.length=P.cellsOf t
 | 0,_,_,⟨x,h⟩=>by simp[acu]at h
 | n+1,t,cs,⟨x,h⟩=>fun σ M nx hg ht=>by
   have hk:=hS t ht;unfold tyOk at hk;split at hk
   ·rename_i hu
    obtain⟨v,rfl,_⟩:=DataW.trod_bool hu h;refine⟨σ,M,nx,[.bool v],hg,.refl _ _ _,by simp only[c_,VR];exact⟨_,_,rfl,rfl,rfl⟩,?_,(aaB hk).symm⟩;simp only[jK,hu];exact⟨v,rfl⟩
   ·rename_i k hu
    obtain⟨i,rfl,_,hw⟩:=DataW.trod_int hu h;refine⟨σ,M,nx,[.int k i],hg,.refl _ _ _,by simp only[c_,VR];exact⟨_,_,rfl,rfl,rfl⟩,?_,(aaB hk).symm⟩;simp only[jK,hu];exact⟨i,rfl,hw⟩
   ·rename_i e hu
    simp only[aaF]at hk;obtain⟨⟨h1,he⟩,hz⟩:=hk;have he:=XA he;have hz:0<P.cellsOf e:=(by simpa using hz);have h1:=(aaB h1).symm;rcases DataW.trod_slice hu h with ⟨rfl,_⟩ | ⟨a,len,cap,elems,rest,m,hm,rfl,_,_,hl,OF,jT,fF,hsp,_⟩
    ·refine⟨σ,M,nx,[.nils],hg,.refl _ _ _,by simp only[c_,VR];exact⟨_,_,rfl,rfl,rfl⟩,?_,h1⟩
     simp only[jK,hu];exact⟨.nils,0,[],[],rfl,⟨aj,.inl ⟨rfl,rfl,rfl⟩⟩,rfl,rfl,fun ys hy=>by cases hy⟩
    obtain rfl:m=n:=aa;obtain⟨hr,hsp⟩:=hsp rfl;have OF:cap<=9223372036854775807:=aaT OF aj;have rd:∀i,i<cap->∃ci,w.cells? 0 (a.add (i*P.cellsOf e)) (P.cellsOf e)=some ci/\∃x,acu enc P w 0 (fun _=>true) true m e ci=some x:=fun i hi=>by
     by_cases aL:i<len
     ·have h2:=fF i aL
      rw[aaR aa]at h2;obtain⟨ci,e1,e2⟩:=bind_eq_some_iff.1 h2;exact⟨ci,e1,_,e2⟩
     have h2:=hsp (i - len) aa;rw[aaR aa,show len+(i - len)=i by omega]at h2;obtain⟨ci,e1,e2⟩:=bind_eq_some_iff.1 h2;exact⟨ci,e1,_,e2⟩
    by_cases hc:cap=0
    ·subst hc
     obtain rfl:len=0:=aa;obtain⟨b,us,t',fz,hb⟩:=NP;obtain⟨g1,r1⟩:=hg.add (cs:=[]) hb af (by simp[c_]);refine⟨_,_,_,[.sl nx (P.cellsOf e) 0 0 0],g1,r1,?_,?_,h1⟩
     ·simp only[c_,VR]
      exact⟨_,_,rfl,⟨b,us.size,0,a,cb.upd_same _ _ _,rfl,u7 _,u7 _,.inr rfl,af⟩,rfl⟩
     simp only[jK,hu];refine⟨_,0,[],[],rfl,⟨aj,.inr ⟨nx,0,0,[],rfl,aa,?_,af,af⟩⟩,rfl,rfl,fun ys hy=>by cases hy⟩;unfold vR;rw[ap,if_pos rfl]
    obtain⟨b,off,spot⟩:=a;have hs:spot=none:=by obtain⟨ci,e1,_⟩:=rd 0 aa;obtain⟨_,cF,D0⟩:=World.cells?_some e1;have h2:=D0 0 hz;rw[aaR aa]at h2;have h3:=World.cell?_spot h2;simpa [Addr.add] using h3
    subst hs;have hadd:∀o k:Nat,(⟨b,o,none⟩:Addr).add k=⟨b,o+k,none⟩:=fun o k=>by simp only[Addr.add];split<;>simp_all
    have rd2:∀i,i<cap->∃ci,(∀j,j<P.cellsOf e->w.cell? ⟨b,off+i*P.cellsOf e+j,none⟩=ci[j]?)/\ci.length=P.cellsOf e/\∃x,acu enc P w 0 (fun _=>true) true m e ci=some x:=fun i hi=>by obtain⟨ci,e1,e2⟩:=rd i hi;obtain⟨_,cF,D0⟩:=World.cells?_some e1;exact⟨ci,fun j hj=>by have:=D0 j hj;rwa [hadd,hadd]at this,cF,e2⟩
    obtain⟨us,tt,fz,hb,mG⟩:∃(us:Array Value) (tt:TypeId) (fz:Nat×Nat),w.heap[b]?=some (.cells us tt fz)/\off+cap*P.cellsOf e<=us.size:=by
     obtain⟨ci,e1,e2,_⟩:=rd2 (cap - 1) aa;have h2:=e1 (P.cellsOf e - 1) aa;rw[aaR aa]at h2;obtain⟨us,tt,fz,hb,h3⟩:=cell_at h2;refine⟨us,tt,fz,hb,?_⟩;have h4:=(Array.getElem?_eq_some_iff.1 h3).1;have:cap*P.cellsOf e=(cap - 1)*P.cellsOf e+P.cellsOf e:=by rw[<-succ_mul];congr 1;omega
     omega
    have hlz:len*P.cellsOf e<=cap*P.cellsOf e:=abg _ hl;have each:∀i,i<len->∃x,acu enc P w 0 (fun _=>true) true m e ((us.toList.drop (off+i*P.cellsOf e)).take (P.cellsOf e))=some x:=fun i hi=>by
     obtain⟨ci,e1,e2,e3⟩:=rd2 i aa;have:ci=(us.toList.drop (off+i*P.cellsOf e)).take (P.cellsOf e):=by
      apply ext_getElem?;intro j;by_cases hj:j<P.cellsOf e
      ·rw[<-e1 j hj,getElem?_take,if_pos hj,ab1]
       unfold World.cell?;simp only[hb,adM,aay,if_false,aaQ]
      rw[getElem?_eq_none aa,getElem?_eq_none (by rw[aaS];omega)]
     rwa [<-this]
    obtain⟨σ1,M1,MP,xss,g1,r1,v1,l1,t1⟩:=SR (S:=S) (fun t cs h σ M nx hg ht=>SU hS NP m t cs h σ M nx hg ht)
     ((aa7 len).map fun i=>(e,(us.toList.drop (off+i*P.cellsOf e)).take (P.cellsOf e))) (fun q hq=>by obtain⟨i,hi,rfl⟩:=ab6.1 hq;exact⟨he,each i (ady.1 hi)⟩) σ M nx hg
    rw[adO]at v1;have v1:c_ ρ σ1 xss.flatten ((us.toList.drop off).take (len*P.cellsOf e)):=by rw[<-PP len (by rw[aa2];omega)];exact v1
    have Gl:xss.flatten.length=len*P.cellsOf e:=by rw[<-v1.length,aaS,acz,aa2];omega
    have dI:(ab2 off XV.un++xss.flatten).length=off+len*P.cellsOf e:=by simp[Gl]
    obtain⟨g2,r2⟩:=g1.add (cs:=ab2 off .un++xss.flatten) hb aa (by
     rw[dI,take_add];refine c_.append ?_ v1;have:=undefs (ρ:=ρ) (σ:=σ1) (us.toList.take off)
     rwa [aaS,aa2,Nat.min_eq_left aa]at this)
    refine⟨_,_,_,[.sl MP (P.cellsOf e) off len len],g2,r1.trans r2,?_,?_,h1⟩
    ·simp only[c_,VR]
     exact⟨_,_,rfl,⟨b,us.size,cap,_,cb.upd_same _ _ _,rfl,hl,u7 _,.inl rfl,mG⟩,rfl⟩
    simp only[jK,hu];refine⟨_,len,xss.flatten,xss,rfl,⟨aa,.inr ⟨MP,off,len,_,rfl,aa,?_,acQ dI.symm,?_⟩⟩,rfl,by simpa using l1,fun ys hy=>?_⟩
    ·unfold vR
     rw[ap,if_pos rfl]
    ·rw[drop_left' af,take_of_length_le aa]
    obtain⟨i,hi,Oi⟩:=mem_iff_getElem.1 hy;have hi':i<len:=by simpa [l1] using hi
    obtain⟨q1,q2⟩:=t1 i (e,(us.toList.drop (off+i*P.cellsOf e)).take (P.cellsOf e)) ys (by simp[hi']) (by rw[<-Oi];exact aaR hi);exact⟨q2,q1.grow r2.agr r2.le⟩
   ·rename_i fs hu
    simp only[aaF]at hk;obtain⟨hc,hf⟩:=hk;obtain⟨xs,m,hm,_,cF,hxl,ow⟩:=DataW.trod_struct hu h;obtain rfl:m=n:=aa;obtain⟨σ1,M1,MP,xss,g1,r1,v1,l1,t1⟩:=SR (S:=S) (fun t cs h σ M nx hg ht=>SU hS NP m t cs h σ M nx hg ht)
     (fs.toList.map fun f=>(f.type,(cs.drop f.offset).take (P.cellsOf f.type))) (fun q hq=>by
       obtain⟨f,FY,rfl⟩:=ab6.1 hq;refine⟨XA (aa4.1 hf f FY),?_⟩;obtain⟨i,hi,hfi⟩:=mem_iff_getElem.1 FY;have hi':i<fs.size:=by simpa using hi
       have:=ow i f (by rw[<-aaQ,aaR hi,hfi]);rw[aaR aa]at this;exact⟨_,this⟩) σ M nx hg
    rw[adO]at v1;have v1:c_ ρ σ1 xss.flatten cs:=by have:=GH (P:=P) (cs:=cs) (fs:=fs.toList) (o:=0) (by rw[cF];exact hc);rw[drop_zero]at this;rw[<-this];exact v1
    refine⟨σ1,M1,MP,xss.flatten,g1,r1,v1,?_,by rw[<-v1.length,cF]⟩;simp only[jK,hu];refine fs_at (by simpa using l1) fun i f ys h1 h2=>?_
    exact t1 i (f.type,(cs.drop f.offset).take (P.cellsOf f.type)) ys (by rw[acg,h1];rfl) h2
   cases hk
theorem oS.start (ρ:aK) (w:World) (h:∀b,ρ.fix b=none):oS ρ w Vh .nil 0 :=
 ⟨GU fun b x hb=>(by rw[h]at hb;cases hb),fun _ _=>rfl,fun k o h=>(by simp[jR]at h)⟩
theorem Fq (hg:oS ρ w σ M nx) (h:ar P ρ f args M nx R) (hR:∀r,R r->r.1 = .bool true) (hv:c_ ρ σ args vs)
 (h1:P.funcs[f]?=some fn) (h2:(fn.name == "runtime.NumGoroutine")=false) (h3:fn.body.isNone=false) :
 Calls P f vs.toArray w fun e w'=>e = .returned (.bool true)/\Below w.heap.size w w':=by
 refine Calls.mono (Aw (R:=R) (fun o a K Q hK=>h.1 w σ vs hg.ok hg.free hv o a K Q hK) h1 h2 h3) fun e w' he=>?_
 obtain⟨v,r,rfl,hr,σ',g1,_,g3,_⟩:=he;rw[hR r hr]at g1;simp only[VR]at g1;exact⟨by rw[g1],g3.os,g3.tape,g3.output,g3.size,fun k hk=>g3.blk k hk (hg.no k)⟩
end
end
end
end Go.Xs
