/- A part of the proof: the layers and contracts it rests on. -/
import Derived.Test.YtcibleglaghhfaaGreatDoorXsPA
import Derived.Deep.LoopGhost
import Derived.Lib.Bytealg
import Derived.Below
import Derived.RowKit
import Derived.ChangeArms
import Derived.DataReads
set_option linter.all false
set_option linter.deprecated false
namespace Go.Xs
noncomputable section
section
variable {P:Program} {a:Act} {w w' w0:World} {ρ:Rho} {σ σ' σ0:Sig} {M N M' M0:Hp} {Γ:Facts} {call:CallF} {env env':Env} {ds:List Deferred} {nx0 n:Nat} {fr:Option Nat}
structure Sd (ds:List Deferred) (ρ:Rho) (w0:World) (σ0:Sig) (M0:Hp) (nx0 n:Nat) (s:PS) (a:Act) (w:World) (σ:Sig):Prop where
 envr:EnvR ρ σ s.1 a.tmps
 size:a.tmps.size=n
 ok:Ok ρ w σ s.2
 ext:Ext w0 σ0 M0 w σ s.2
 old:∀k,σ k=σ0 k\/nx0<=k
 def0:a.defers=ds
theorem Owned.congr {N:Hp} (h:∀k,tget N k=tget M k) {b:Nat}:Owned σ N b ↔ Owned σ M b :=
 ⟨fun⟨k,o,p,q,r⟩=>⟨k,o,p,by rw[<-h];exact q,r⟩,fun⟨k,o,p,q,r⟩=>⟨k,o,p,by rw[h];exact q,r⟩⟩
theorem Ext.congr {N:Hp} (h:∀k,tget N k=tget M k) (e:Ext w0 σ0 M0 w σ M):Ext w0 σ0 M0 w σ N :=
 ⟨e.os,e.tape,e.output,e.size,e.blk,fun b hb=>e.own b ((Owned.congr h).1 hb),e.sig,fun b ⟨k,o,p,q,r⟩=>e.held b ⟨k,o,p,by rw[<-h];exact q,r⟩⟩
theorem Sd.congr {s s':PS} (h:Sd ds ρ w0 σ0 M0 nx0 n s a w σ) (h1:∀t,tget s'.1 t=tget s.1 t) (h2:∀k,tget s'.2 k=tget s.2 k):Sd ds ρ w0 σ0 M0 nx0 n s' a w σ :=
 ⟨fun t v hv=>h.envr t v (by rw[<-h1];exact hv),h.size,h.ok.sub fun k x hk=>by rw[<-h2];exact hk,h.ext.congr h2,h.old,h.def0⟩
theorem Sd.step {x:Ent} {s:PS} {v:Value} (h:Sd ds ρ w0 σ0 M0 nx0 n s a w σ) (hd:∀t,x.dst=some t->t<n) (hlo:nx0<=x.lo) (hp:CPost ρ w σ s.2 x.lo (x.val,happ s.2 x.upd,x.hi) v w') :
 ∃σ',Sd ds ρ w0 σ0 M0 nx0 n (x.app s) (a.put x.dst v) w' σ'/\∀k,σ' k=σ k\/(x.lo<=k/\k<x.hi):=by
 obtain⟨σ',h1,h2,h3,h4,h5⟩:=hp
 have hput:putX a.tmps.size s.1 x.dst x.val=some (setE s.1 x.dst x.val):=by
  cases hx:x.dst with
  | none=>rfl
  | some t =>
    have:=hd t hx
    rw[<-h.size]at this
    have hb:Nat.blt t a.tmps.size=true:=by rw[Nat.blt_eq];exact this
    simp only[putX,setE,hb]
 refine⟨σ',⟨EnvR.put (h.envr.mono h3.sig) hput h1,by rw[put_size];exact h.size,h2,h.ext.trans h3,fun k=>?_,by rw[put_defers];exact h.def0⟩,h5⟩
 rcases h5 k with e | ⟨e1,e2⟩
 ·rw[e];exact h.old k
 ·right;omega
theorem Sd.skip {x:Ent} {s:PS} (h:Sd ds ρ w0 σ0 M0 nx0 n s a w σ) (hd:∀t,x.dst=some t->t<n) (hv:x.val = .udf) (hu:x.upd=[]):Sd ds ρ w0 σ0 M0 nx0 n (x.app s) (a.put x.dst undef) w σ:=by
 have hput:putX a.tmps.size s.1 x.dst x.val=some (setE s.1 x.dst x.val):=by
  cases hx:x.dst with
  | none=>rfl
  | some t =>
    have:=hd t hx
    rw[<-h.size]at this
    have hb:Nat.blt t a.tmps.size=true:=by rw[Nat.blt_eq];exact this
    simp only[putX,setE,hb]
 exact⟨EnvR.put h.envr hput (by rw[hv];simp only[VR]),by rw[put_size];exact h.size,by simp only[Ent.app,hu,happ];exact h.ok,by simp only[Ent.app,hu,happ];exact h.ext,h.old,by rw[put_defers];exact h.def0⟩
theorem opD_nd {nx hi:Nat} {o:Op} {e:Eff} (h:opD P Γ call env M nx o=some (e,hi)):∀c,o ≠ .defer c:=by
 intro c hc;subst hc;simp[opD,xop]at h
theorem Step.run (hΓ:∀i op c b k,Γ i op c=some b->binInt op k (ρ i) k c=some (.bool b)) (hcall:CallOk P ρ call) {all:List Oper} {Q:Exit->Act->World->Prop} {K:Act->World->Prop} {i:Nat} {o:Oper} {x:Ent} {s:PS}
 (ho:all[i]?=some o) (h:Step P ρ Γ call all o x s) (hs:Sd ds ρ w0 σ0 M0 nx0 n s a w σ) (hd0:∀t,x.dst=some t->t<n) (hlo:nx0<=x.lo) (hf:∀k,x.lo<=k->k<x.hi->σ k=none)
 (hK:∀a' w' σ',Sd ds ρ w0 σ0 M0 nx0 n (x.app s) a' w' σ'->(∀k,σ' k=σ k\/(x.lo<=k/\k<x.hi))->K a' w'):wpOpIn (FW fr) 0 P all.toArray Q i K a w:=by
 unfold wpOpIn
 simp only[List.getElem?_toArray,ho]
 obtain⟨hd,⟨hg,e,ha,e1,e2,e3⟩ | ⟨hg,e1,e2,e3,_⟩⟩:=h
 ·rw[guard_ok hs.envr hg,if_pos rfl]
  rcases ha with ha | ⟨c,g,args,hc,hcal,ha⟩
  ·refine opIn (opD_nd ha) (opD_ok hΓ hcall hs.ok hs.envr hf ha K Q fun v w' hp=>?_)
   rw[<-e1,<-e3]at hp
   obtain⟨σ',g1,g2⟩:=hs.step hd0 hlo hp
   rw[<-hd]
   exact hK _ _ σ' g1 g2
  ·obtain⟨vs,h1,h2⟩:=callee_run (P:=P) (w:=w) hs.envr hc hcal
   refine opIn (fun c' hc'=>by rw[hc]at hc';cases hc') ?_
   unfold Oper.wp
   rw[h2]
   refine ha.run hs.ok hf h1 K Q fun v w' hp=>?_
   rw[<-e1,<-e3]at hp
   obtain⟨σ',g1,g2⟩:=hs.step hd0 hlo hp
   rw[<-hd]
   exact hK _ _ σ' g1 g2
 ·rw[guard_ok hs.envr hg,if_neg (by simp),<-hd]
  exact⟨fun f _=>FW_fn fr f,hK _ _ σ (hs.skip hd0 e1 e3) fun _=>.inl rfl⟩
theorem countP_lt {p q:Nat->Bool}:∀{l:List Nat},(∀x ∈ l,q x=true->p x=true)->(∃x ∈ l,p x=true/\q x=false)->(l.filter q).length<(l.filter p).length
 | [],_,⟨x,hx,_⟩=>by cases hx
 | y::l,h,⟨x,hx,h1,h2⟩=>by
   have hle:∀{l:List Nat},(∀x ∈ l,q x=true->p x=true)->(l.filter q).length<=(l.filter p).length:=by
    intro l
    induction l with
    | nil=>simp
    | cons z l ih =>
      intro h
      have:=ih fun x hx=>h x (List.mem_cons_of_mem _ hx)
      have hz:=h z List.mem_cons_self
      simp only[List.filter]
      cases hq:q z<;>cases hp:p z<;>simp_all<;>omega
   have hl:=fun x hx=>h x (List.mem_cons_of_mem _ hx)
   simp only[List.filter]
   rcases List.mem_cons.1 hx with rfl | hx
   ·rw[h1,h2]
    have:=hle hl
    simp only[List.length_cons]
    omega
   ·have:=countP_lt hl ⟨x,hx,h1,h2⟩
    have hy:=h y List.mem_cons_self
    cases hq:q y<;>cases hp:p y<;>simp_all<;>omega
def dn (listed:Array Bool) (i:Nat):Bool:=listed.getD i false
theorem dn_set {listed:Array Bool} {i:Nat} (hi:i<listed.size) (j:Nat):dn (listed.setIfInBounds i true) j=(dn listed j||decide (j=i)):=by
 simp only[dn,Array.getD_eq_getD_getElem?]
 by_cases h:i=j
 ·subst h
  simp[hi]
 ·rw[Array.getElem?_setIfInBounds_ne h]
  have h':¬ j=i:=fun e=>h e.symm
  simp[h']
theorem ready_iff {ops:List Oper} {listed:Array Bool} (hsz:listed.size=ops.length) {i:Nat}:i ∈ Region.ready .any ops.toArray listed ↔ ∃o,ops[i]?=some o/\dn listed i=false/\∀e ∈ edges o,dn listed e=true:=by
 simp only[Region.ready,List.mem_filter,List.mem_range,List.size_toArray,Bool.and_eq_true,Bool.not_eq_true',List.getElem?_toArray]
 constructor
 ·rintro⟨hi,h1,h2⟩
  obtain⟨o,ho⟩:∃o,ops[i]?=some o:=⟨ops[i],by simp[hi]⟩
  rw[ho]at h2
  simp only[Option.map_some,Option.getD_some,Array.all_eq_true']at h2
  refine⟨o,ho,?_,fun e he=>?_⟩
  ·simp only[dn,Array.getD_eq_getD_getElem?]at h1 ⊢
   have:i<listed.size:=by omega
   simp[this]at h1 ⊢
   exact h1
  ·simp only[edges,List.mem_map,List.mem_filter,Array.mem_toList_iff]at he
   obtain⟨ed,⟨hm,hb⟩,rfl⟩:=he
   have:=h2 ed hm
   simpa [hb,dn] using this
 ·rintro⟨o,ho,h1,h2⟩
  have hi:i<ops.length:=(List.getElem?_eq_some_iff.1 ho).1
  refine⟨hi,?_,?_⟩
  ·simp only[dn,Array.getD_eq_getD_getElem?]at h1 ⊢
   have:i<listed.size:=by omega
   simp[this]at h1 ⊢
   exact h1
  ·rw[ho]
   simp only[Option.map_some,Option.getD_some,Array.all_eq_true']
   intro ed hm
   cases hb:Region.binds .any ed with
   | false=>rfl
   | true =>
     have:=h2 ed.on (by simp only[edges,List.mem_map,List.mem_filter,Array.mem_toList_iff];exact⟨ed,⟨hm,hb⟩,rfl⟩)
     simpa [dn] using this
theorem clash_of {all:List Oper} {x y:Oper} {d:Nat} (h:x.dst=some d) (h':d ∈ rslots all y):clash all x y=true:=by
 simp only[clash,h]
 rw[(lmem_iff _ _).2 h']
 rfl
theorem clash_of' {all:List Oper} {x y:Oper} {d:Nat} (h:y.dst=some d) (h':d ∈ rslots all x):clash all x y=true:=by
 simp only[clash,h]
 rw[(lmem_iff _ _).2 h']
 simp
theorem clash_dst {all:List Oper} {x y:Oper} {d:Nat} (h:x.dst=some d) (h':y.dst=some d):clash all x y=true:=by
 simp only[clash,h,h',Nat.beq_refl]
 simp
theorem Ranges.le:∀{lo:Nat} {xs:List Ent} {hi:Nat},Ranges lo xs hi->lo<=hi
 | _,[],_,h=>Nat.le_of_eq h
 | _,x::xs,_,h=>by
   obtain⟨h1,h2,h3⟩:=h
   have:=h3.le
   omega
theorem Ranges.get:∀{lo:Nat} {xs:List Ent} {hi:Nat},Ranges lo xs hi->∀{i:Nat} {x:Ent},xs[i]?=some x->lo<=x.lo/\x.lo<=x.hi/\x.hi<=hi
 | _,[],_,_,_,_,h=>by simp at h
 | _,y::xs,_,h,i,x,hx=>by
   obtain⟨h1,h2,h3⟩:=h
   cases i with
   | zero =>
     simp only[List.getElem?_cons_zero,Option.some.injEq]at hx
     subst hx
     have:=h3.le
     omega
   | succ i =>
     have:=h3.get (i:=i) (by simpa using hx)
     omega
theorem Ranges.apart:∀{lo:Nat} {xs:List Ent} {hi:Nat},Ranges lo xs hi->∀{i j:Nat} {x y:Ent},xs[i]?=some x->xs[j]?=some y->i<j->x.hi<=y.lo
 | _,[],_,_,_,_,_,_,h,_,_=>by simp at h
 | _,z::xs,_,h,i,j,x,y,hx,hy,hij=>by
   obtain⟨h1,h2,h3⟩:=h
   cases j with
   | zero=>omega
   | succ j =>
     cases i with
     | zero =>
       simp only[List.getElem?_cons_zero,Option.some.injEq]at hx
       subst hx
       exact(h3.get (i:=j) (by simpa using hy)).1
     | succ i=>exact h3.apart (i:=i) (j:=j) (by simpa using hx) (by simpa using hy) (by omega)
theorem wpAny_plan (hΓ:∀i op c b k,Γ i op c=some b->binInt op k (ρ i) k c=some (.bool b)) (hcall:CallOk P ρ call) {ops:List Oper} {base top:Nat} {Q:Exit->Act->World->Prop} {xs:List Ent} {s0:PS}
 (he:edgesOk ops=true) (hsl:slotsOk ops=true) (hlog:okLog ops (logX xs 0 [])=true) (hlen:xs.length=ops.length)
 (hplan:∀j o x,ops[j]?=some o->xs[j]?=some x->Step P ρ Γ call ops o x (runS (fun _=>true) (xs.take j) 0 s0))
 (hrange:Ranges base xs top) (hbase:nx0<=base) (hdn:∀x ∈ xs,∀t,x.dst=some t->t<n)
 (hQ:∀a' w' σ',Sd ds ρ w0 σ0 M0 nx0 n (runS (fun _=>true) xs 0 s0) a' w' σ'->(∀k,top<=k->σ' k=none)->Q .normal a' w') :
 ∀(fuel:Nat) (listed:Array Bool) (a:Act) (w:World) (σ:Sig),listed.size=ops.length->((List.range ops.length).filter fun i=>!dn listed i).length<=fuel ->
  Closed ops (dn listed)->Sd ds ρ w0 σ0 M0 nx0 n (runS (dn listed) xs 0 s0) a w σ->(∀k,base<=k->(∀(i:Nat) (x:Ent),xs[i]?=some x->dn listed i=true->¬ (x.lo<=k/\k<x.hi))->σ k=none) ->
  wpAnyIn (FW fr) 0 P .any ops.toArray Q fuel listed a w:=by
 have fin:∀(listed:Array Bool) (a:Act) (w:World) (σ:Sig),listed.size=ops.length ->
  Sd ds ρ w0 σ0 M0 nx0 n (runS (dn listed) xs 0 s0) a w σ->(∀k,base<=k->(∀(i:Nat) (x:Ent),xs[i]?=some x->dn listed i=true->¬ (x.lo<=k/\k<x.hi))->σ k=none) ->
  (∀i,i<ops.length->dn listed i=true)->Q .normal a w:=by
  intro listed a w σ hsz hs hf hall
  rw[runS_all (S':=fun _=>true) xs 0 s0 (fun j hj=>by rw[Nat.zero_add];exact hall j (by omega))]at hs
  exact hQ a w σ hs fun k hk=>hf k (by have:=hrange.le;omega) fun i x hx _=>by have:=hrange.get hx;omega
 have allOf:∀(listed:Array Bool),listed.size=ops.length->Region.ready .any ops.toArray listed=[]->∀i,i<ops.length->dn listed i=true:=by
  intro listed hsz hr i
  induction i using Nat.strongRecOn with
  | _ i ih =>
    intro hi
    cases hd:dn listed i with
    | true=>rfl
    | false =>
      have ho:ops[i]?=some ops[i]:=by simp[hi]
      have:i ∈ Region.ready .any ops.toArray listed:=(ready_iff hsz).2 ⟨_,ho,hd,fun e hm=>ih e (edgesOk_iff he ho e hm) (by have:=edgesOk_iff he ho e hm;omega)⟩
      rw[hr]at this
      cases this
 intro fuel
 induction fuel with
 | zero =>
   intro listed a w σ hsz hcnt hcl hs hf
   have hall:∀i,i<ops.length->dn listed i=true:=by
    intro i hi
    cases hd:dn listed i with
    | true=>rfl
    | false =>
      have hm:i ∈ (List.range ops.length).filter fun i=>!dn listed i:=by simp[hi,hd]
      have:=List.length_pos_of_mem hm
      omega
   refine⟨?_,fin listed a w σ hsz hs hf hall⟩
   cases hr:Region.ready .any ops.toArray listed with
   | nil=>rfl
   | cons i l =>
     have:i ∈ Region.ready .any ops.toArray listed:=by rw[hr];exact List.mem_cons_self
     obtain⟨o,ho,h1,_⟩:=(ready_iff hsz).1 this
     rw[hall i (List.getElem?_eq_some_iff.1 ho).1]at h1
     cases h1
 | succ fuel ih =>
   intro listed a w σ hsz hcnt hcl hs hf
   refine⟨fun hr=>fin listed a w σ hsz hs hf (allOf listed hsz hr),fun i hi=>?_⟩
   obtain⟨o,ho,hd,hpre⟩:=(ready_iff hsz).1 hi
   have hil:i<ops.length:=(List.getElem?_eq_some_iff.1 ho).1
   obtain⟨x,hx⟩:∃x,xs[i]?=some x:=⟨xs[i],by simp[hlen,hil]⟩
   have dstOf:∀(j:Nat) (y:Ent) (o':Oper),xs[j]?=some y->ops[j]?=some o'->y.dst=o'.dst:=fun j y o' h1 h2=>(hplan j o' y h2 h1).1
   have opOf:∀(j:Nat) (y:Ent),xs[j]?=some y->∃o',ops[j]?=some o':=fun j y h=>⟨ops[j]'(by have:=(List.getElem?_eq_some_iff.1 h).1;omega),by simp⟩
   have ahead:∀j,lmem (anc ops i) j=true->j=i\/dn listed j=true:=fun j hj=>anc_closed hcl (fun o' ho' e hm=>by rw[ho]at ho';cases ho';exact hpre e hm) hj
   have behind:∀j,dn listed j=true->lmem (anc ops j) i=true->j=i:=fun j hj hn=>by
    rcases anc_closed (j:=j) hcl (fun o' ho'=>hcl j o' ho' hj) hn with h | h
    ·exact h.symm
    ·rw[hd]at h;cases h
   have clashed:∀(j:Nat) (y:Ent) (o':Oper),xs[j]?=some y->ops[j]?=some o'->j≠i->(j<i->clash ops o' o=true)->(i<j->clash ops o o'=true)->dn listed j=decide (j<i):=by
    intro j y o' hj ho' hne c1 c2
    by_cases hlt:j<i
    ·rcases ahead j (slotsOk_iff hsl ho' ho hlt (c1 hlt)) with h | h
     ·exact(hne h).elim
     ·rw[h];simp[hlt]
    ·cases hS:dn listed j with
     | false=>simp[hlt]
     | true=>exact(hne (behind j hS (slotsOk_iff hsl ho ho' (by omega) (c2 (by omega))))).elim
   have keyed:∀(j:Nat) (y:Ent),xs[j]?=some y->j≠i->¬ apartL (if j<i then (i,x.rd,ukeys x.upd) else (j,y.rd,ukeys y.upd)) (if j<i then (j,y.rd,ukeys y.upd) else (i,x.rd,ukeys x.upd))->dn listed j=decide (j<i):=by
    intro j y hj hne hap
    by_cases hlt:j<i
    ·rw[if_pos hlt,if_pos hlt]at hap
     have:=logX_pair xs 0 [] hlog j i y x hj hx hlt
     simp only[Nat.zero_add]at this
     rcases this with h | h | h
     ·exact(hap h).elim
     ·have hlow:i<=j:=by
       obtain⟨o',ho'⟩:=opOf j y hj
       have hc:Closed ops (fun e=>decide (e<j)):=fun i' o2 ho2 h2 e hm=>by
        have:=edgesOk_iff he ho2 e hm
        simp at h2 ⊢;omega
       rcases anc_closed (j:=j) hc (fun o2 ho2 e hm=>by have:=edgesOk_iff he ho2 e hm;simpa using this) h with h | h
       ·omega
       ·simp at h;omega
      omega
     ·rcases ahead j h with h | h
      ·exact(hne h).elim
      ·rw[h];simp[hlt]
    ·rw[if_neg hlt,if_neg hlt]at hap
     have:=logX_pair xs 0 [] hlog i j x y hx hj (by omega)
     simp only[Nat.zero_add]at this
     cases hS:dn listed j with
     | false=>simp[hlt]
     | true =>
       rcases this with h | h | h
       ·exact(hap h).elim
       ·rcases ahead j h with h | h
        ·exact(hne h).elim
        ·have hc:Closed ops (fun e=>decide (e<i)):=fun i' o2 ho2 h2 e hm=>by
          have:=edgesOk_iff he ho2 e hm
          simp at h2 ⊢;omega
         rcases anc_closed (j:=i) hc (fun o2 ho2 e hm=>by have:=edgesOk_iff he ho2 e hm;simpa using this) ‹_› with h | h
         ·omega
         ·simp at h;omega
       ·exact(hne (behind j hS h)).elim
   have hst:Step P ρ Γ call ops o x (runS (dn listed) xs 0 s0):=by
    have h0:=hplan i o x ho hx
    rw[runS_take]at h0
    refine h0.move (fun t ht=>?_) fun k hk=>?_
    ·refine runS_slot xs 0 _ _ rfl fun j y hj hy=>?_
     rw[Nat.zero_add]
     by_cases hji:j=i
     ·subst hji;rw[hd];simp
     ·obtain⟨o',ho'⟩:=opOf j y hj
      have hdo:=dstOf j y o' hj ho'
      rw[hdo]at hy
      exact clashed j y o' hj ho' hji (fun _=>clash_of hy ht) fun _=>clash_of' hy ht
    ·refine runS_key xs 0 _ _ rfl fun j y hj hy=>?_
     rw[Nat.zero_add]
     by_cases hji:j=i
     ·subst hji;rw[hd];simp
     ·refine keyed j y hj hji fun hap=>?_
      by_cases hlt:j<i
      ·rw[if_pos hlt,if_pos hlt]at hap
       exact hap.2 k hy hk
      ·rw[if_neg hlt,if_neg hlt]at hap
       exact(hap.1 k hy).1 hk
   have hri:=hrange.get hx
   refine Step.run hΓ hcall ho hst hs (hdn x (List.mem_of_getElem? hx)) (by omega) (fun k h1 h2=>?_) fun a' w' σ' hs' hσ=>?_
   ·refine hf k (by omega) fun j y hj hS hjk=>?_
    have:j=i:=by
     rcases Nat.lt_trichotomy j i with h | h | h
     ·have:=hrange.apart hj hx h;omega
     ·exact h
     ·have:=hrange.apart hx hj h;omega
    subst this
    rw[hd]at hS;cases hS
   ·obtain⟨r1,r2⟩:=runS_add (s:=s0) hx hd (fun j y hj hij hS t h1 h2=>by
     obtain⟨o',ho'⟩:=opOf j y hj
     have q1:=dstOf j y o' hj ho'
     have q2:=dstOf i x o hx ho
     rw[q1]at h2
     rw[q2]at h1
     have:=behind j hS (slotsOk_iff hsl ho ho' hij (clash_dst h1 h2))
     omega) fun j y hj hij hS k h1 h2=>by
      have:=keyed j y hj (by omega) fun hap=>by
       rw[if_neg (by omega),if_neg (by omega)]at hap
       exact(hap.1 k h2).2 h1
      rw[hS]at this
      simp at this
      omega
    have hdn:dn (listed.setIfInBounds i true)=fun j=>dn listed j||decide (j=i):=funext fun j=>dn_set (by omega) j
    have hS':∀j,dn (listed.setIfInBounds i true) j=true ↔ (dn listed j=true\/j=i):=fun j=>by rw[hdn];simp
    refine ih (listed.setIfInBounds i true) a' w' σ' (by simp[hsz]) ?_ ?_ ?_ ?_
    ·have:=countP_lt (l:=List.range ops.length) (p:=fun j=>!dn listed j) (q:=fun j=>!dn (listed.setIfInBounds i true) j) (fun j _ hj=>by
      rw[hdn]at hj
      simp at hj ⊢
      exact hj.1) ⟨i,by simp[hil],by simp[hd],by rw[hdn];simp⟩
     omega
    ·intro j o' ho' hj e hm
     rcases(hS' j).1 hj with h | rfl
     ·exact(hS' e).2 (.inl (hcl j o' ho' h e hm))
     ·rw[ho]at ho'
      cases ho'
      exact(hS' e).2 (.inl (hpre e hm))
    ·rw[hdn]
     exact hs'.congr r1 r2
    ·intro k hk hno
     rcases hσ k with h | h
     ·rw[h]
      exact hf k hk fun j y hj hjS=>hno j y hj ((hS' j).2 (.inl hjS))
     ·exact(hno i x hx ((hS' i).2 (.inr rfl)) h).elim
end
end
end Go.Xs
namespace Go.Xs
noncomputable section
inductive AExit where
 | normal | exit (id:Nat) | ret
def AExit.to:AExit->Exit
 | .normal=>.normal
 | .exit id=>.exit id
 | .ret=>.ret
def loopX (f:XS->Option (List (AExit×XS))):Nat->XS->Option (List (AExit×XS))
 | 0,_=>none
 | k+1,s=>match f s with
   | none=>none
   | some L=>collect L fun r=>match r.1 with
     | .normal=>loopX f k r.2
     | _=>some [r]
def inBlockX (id:Nat) (r:AExit×XS):AExit×XS:=match r.1 with
 | .exit i=>match Nat.beq i id with | true=>(.normal,r.2) | false=>r
 | _=>r
def putPs (n:Nat):List Nat->List XV->Env->Option Env
 | [],[],env=>some env
 | p::ps,v::vs,env=>match putX n env (some p) v with
   | some env=>putPs n ps vs env
   | none=>none
 | _,_,_=>none
abbrev IterF:=Nat->List XV->Nat×YH->Hp->Nat->Option (List (Hp×Nat))
def noIter:IterF:=fun _ _ _ _ _=>none
def roundX (f g:XS->Option (List (AExit×XS))) (n:Nat) (ps:List Nat) (env:Env):YH:=fun args M nx=>match putPs n ps args env with
 | none=>none
 | some env=>match f ⟨env,M,nx⟩ with
   | none=>none
   | some L=>collect L fun r=>match r.1 with
     | .normal=>match g r.2 with
       | none=>none
       | some L=>collect L fun r=>match r.1 with
         | .normal=>some [(r.2.M,r.2.nx)]
         | _=>none
     | _=>none
def runC (P:Program) (Γ:Facts) (call:CallF) (iter:IterF) (Y:Option (Nat×YH)) (n fuel:Nat):Code->XS->Option (List (AExit×XS))
 | .skip,s=>some [(.normal,s)]
 | .ret,s=>some [(.ret,s)]
 | .exit id,s=>some [(.exit id,s)]
 | .seq a b,s=>match runC P Γ call iter Y n fuel a s with
   | none=>none
   | some L=>collect L fun r=>match r.1 with
     | .normal=>runC P Γ call iter Y n fuel b r.2
     | _=>some [r]
 | .block id c,s=>match runC P Γ call iter Y n fuel c s with
   | none=>none
   | some L=>some (L.map (inBlockX id))
 | .cond c a b,s=>match opv s.env c with
   | .bool true=>runC P Γ call iter Y n fuel a s
   | .bool false=>runC P Γ call iter Y n fuel b s
   | _=>none
 | .loop c,s=>loopX (runC P Γ call iter Y n fuel c) fuel s
 | .region _ ops draw,s=>match draw with
   | false=>match regN P Γ call Y n ops.toList ops.toList s with
     | none=>none
     | some L=>some (L.map fun s=>(.normal,s))
   | true=>match edgesOk ops.toList,slotsOk ops.toList,regD P Γ call n ops.toList ops.toList 0 s [] with
     | true,true,some (s',log)=>match okLog ops.toList log with
       | true=>some [(.normal,s')]
       | false=>none
     | _,_,_=>none
 | .rangeFunc g ps asg body,s=>match opv s.env g with
   | .fn (.func h) [] caps=>match iter h (.yd s.nx::caps) (s.nx,roundX (runC P Γ call noIter none n fuel asg) (runC P Γ call noIter none n fuel body) n ps.toList s.env) s.M (s.nx+1) with
     | some L=>some (L.map fun r=>(.normal,⟨s.env,r.1,r.2⟩))
     | none=>none
   | _=>none
 | _,_=>none
def resX (P:Program) (s:XS):ResultVar->Option XV
 | .tmp t=>tget s.env t
 | .cell a t=>match tget s.env a with
   | some x=>match loadX P s.M t x with | some e=>some e.val | none=>none
   | none=>none
def resXs (P:Program) (s:XS):List ResultVar->Option (List XV)
 | []=>some []
 | r::rs=>match resX P s r with
   | none=>none
   | some v=>match resXs P s rs with | none=>none | some vs=>some (v::vs)
def oneOr:List XV->XV
 | [v]=>v
 | vs=>.tup vs
def argsE:List XV->Nat->Env->Env
 | [],_,env=>env
 | v::vs,i,env=>argsE vs (i+1) (tset env i v)
def endX (P:Program) (rs:List ResultVar) (r:AExit×XS):Option (List Out):=match r.1 with
 | .exit _=>none
 | _=>match resXs P r.2 rs with
   | some vs=>some [(oneOr vs,r.2.M,r.2.nx)]
   | none=>none
abbrev ExtF:=Nat->List XV->Hp->Option XV
def stepF (P:Program) (Γ:Facts) (ext:ExtF) (fuel:Nat) (p:CallF×IterF):CallF×IterF :=
 (fun g args M nx=>match ext g args M with
   | some v=>some [(v,M,nx)]
   | none=>match P.funcs[g]? with
     | none=>none
     | some fn=>match fn.body with
       | none=>none
       | some c=>match runC P Γ p.1 p.2 none (args.length+(fn.ntmps - args.length)) fuel c ⟨argsE args 0 .nil,M,nx⟩ with
         | none=>none
         | some L=>collect L (endX P fn.results.toList),
  fun g args Y M nx=>match P.funcs[g]? with
   | none=>none
   | some fn=>match fn.body,fn.results.toList with
     | some c,[]=>match runC P Γ p.1 p.2 (some Y) (args.length+(fn.ntmps - args.length)) fuel c ⟨argsE args 0 .nil,M,nx⟩ with
       | none=>none
       | some L=>collect L fun r=>match r.1 with
         | .exit _=>none
         | _=>some [(r.2.M,r.2.nx)]
     | _,_=>none)
def runB (P:Program) (Γ:Facts) (ext:ExtF) (fuel:Nat):Nat->CallF×IterF
 | 0=>(fun _ _ _ _=>none,noIter)
 | d+1=>stepF P Γ ext fuel (runB P Γ ext fuel d)
def runF (P:Program) (Γ:Facts) (ext:ExtF) (fuel d:Nat):CallF:=(runB P Γ ext fuel d).1
section
variable {P:Program} {a:Act} {w w' w0:World} {ρ:Rho} {σ σ' σ0:Sig} {M N M' M0:Hp} {Γ:Facts} {call:CallF} {env env':Env} {ds:List Deferred} {nx0 n:Nat} {iter:IterF} {Y:Option (Nat×YH)} {fr:Option Nat}
theorem region_ok (hp:P.follows .mixedOrders=true) (hΓ:∀i op c b k,Γ i op c=some b->binInt op k (ρ i) k c=some (.bool b)) (hcall:CallOk P ρ call) (hY:YOk P ρ w0 σ0 M0 nx0 Y) {ops:Array Oper} {id fuel:Nat} {draw:Bool} {s:XS} {L:List (AExit×XS)} {Qm:Exit->Act->World->Prop}
 (h:runC P Γ call iter Y n fuel (.region id ops draw) s=some L) (hs:St ds ρ w0 σ0 M0 nx0 n s a w σ)
 (hQ:∀r ∈ L,∀a' w' σ',St ds ρ w0 σ0 M0 nx0 n r.2 a' w' σ'->Qm r.1.to a' w'):(Code.region id ops draw).wpIn (FW fr) 0 P Qm a w:=by
 simp only[runC]at h
 cases draw with
 | false =>
   simp only at h
   split at h<;>(try (cases h;done))
   rename_i L' hL
   cases h
   refine wpIn_region_list ?_
   have:=regN_ok (fr:=fr) (Q:=Qm) hΓ hcall hY ops.toList s L' a w σ hL hs fun s' hs' a' w' σ' hst=>hQ (.normal,s') (List.mem_map.2 ⟨s',hs',rfl⟩) a' w' σ' hst
   simpa using this
 | true =>
   simp only at h
   split at h<;>(try (cases h;done))
   rename_i s' log he hsl hr
   split at h<;>(try (cases h;done))
   rename_i hok
   cases h
   obtain⟨xs,hlen,hrun,hlog,hrange,hdn,hplan⟩:=regD_plan ops.toList 0 s [] s' log hr
   refine wpIn_region_any hp ?_
   rw[hlog]at hok
   have hs1:Sd ds ρ w0 σ0 M0 nx0 n (s.env,s.M) a { w with drawn:=w.drawn+1 } σ :=
    ⟨hs.envr,hs.size,Ok.heap (w:=w) (w1:={ w with drawn:=w.drawn+1 }) rfl hs.ok,⟨hs.ext.os,hs.ext.tape,hs.ext.output,hs.ext.size,hs.ext.blk,hs.ext.own,hs.ext.sig,hs.ext.held⟩,hs.old,hs.def0⟩
   have:=wpAny_plan (fr:=fr) (Q:=Qm) (s0:=(s.env,s.M)) hΓ hcall he hsl hok hlen hplan hrange hs.le hdn (fun a' w' σ' hsd hfr=>hQ _ (List.mem_singleton.2 rfl) a' w' σ' (by
    rw[<-hrun]at hsd
    exact⟨hsd.envr,hsd.size,hsd.ok,hfr,hsd.ext,Nat.le_trans hs.le hrange.le,hsd.old,hsd.def0⟩))
    ops.size (Array.replicate ops.size false) a { w with drawn:=w.drawn+1 } σ (by simp) (by
     refine Nat.le_trans (List.length_filter_le _ _) (by simp)) (fun i o _ h=>by simp[dn,Array.getD_eq_getD_getElem?,Array.getElem?_replicate]at h;split at h<;>simp_all)
    (by rw[runS_none _ _ _ fun j hj=>by simp[dn,Array.getD_eq_getD_getElem?,Array.getElem?_replicate];split<;>rfl];exact hs1)
    (fun k hk _=>hs.free k hk)
   simpa using this
abbrev markOf (D:Nat):Deferred:={ target:=.collected D,args:=#[] }
def Marks (B:Nat) (w:World) (σ:Sig) (M:Hp) (ds:List Deferred):Prop:=∃Ds:List Nat,ds=Ds.map markOf/\Ds.Nodup/\∀D ∈ Ds,B<=D/\Frn w σ M D (.deferred (some []))
theorem Marks.ext {B:Nat} (h:Marks B w σ M ds) (e:Ext w σ M w' σ' M'):Marks B w' σ' M' ds:=let ⟨Ds,h1,h2,h3⟩:=h;⟨Ds,h1,h2,fun D hD=>⟨(h3 D hD).1,(h3 D hD).2.ext e⟩⟩
def Sm (ρ:Rho) (B:Nat) (w0:World) (σ0:Sig) (M0:Hp) (nx0 n:Nat) (s:XS) (a:Act) (w:World) (σ:Sig):Prop:=∃ds,St ds ρ w0 σ0 M0 nx0 n s a w σ/\Marks B w σ s.M ds
theorem loopX_ok {B:Nat} {f:XS->Option (List (AExit×XS))} {c:Code} {Qm:Exit->Act->World->Prop}
 (hf:∀s L a w σ,f s=some L->Sm ρ B w0 σ0 M0 nx0 n s a w σ->∀Q:Exit->Act->World->Prop,(∀r ∈ L,∀a' w' σ',Sm ρ B w0 σ0 M0 nx0 n r.2 a' w' σ'->Q r.1.to a' w')->c.wpIn (FW fr) 0 P Q a w)
 {fuel:Nat} {s:XS} {L:List (AExit×XS)} (h:loopX f fuel s=some L) (hs:Sm ρ B w0 σ0 M0 nx0 n s a w σ) (hQ:∀r ∈ L,∀a' w' σ',Sm ρ B w0 σ0 M0 nx0 n r.2 a' w' σ'->Qm r.1.to a' w'):(Code.loop c).wpIn (FW fr) 0 P Qm a w:=by
 refine wpIn_loop_ghost (fun k a w=>∃s R σ,loopX f k s=some R/\(∀r ∈ R,r ∈ L/\r.1 ≠ .normal)/\Sm ρ B w0 σ0 M0 nx0 n s a w σ) fuel ⟨s,L,σ,h,fun r hr=>⟨hr,?_⟩,hs⟩ ?_
 ·have key:∀k s R,loopX f k s=some R->∀r ∈ R,r.1 ≠ .normal:=by
   intro k
   induction k with
   | zero=>intro s R h;simp[loopX]at h
   | succ k ih =>
     intro s R h
     simp only[loopX]at h
     split at h<;>(try (cases h;done))
     rename_i L' hL
     have:∀{L':List (AExit×XS)} {R:List (AExit×XS)},(collect L' fun r=>match r.1 with | .normal=>loopX f k r.2 | _=>some [r])=some R->∀r ∈ R,r.1 ≠ .normal:=by
      intro L'
      induction L' with
      | nil=>intro R h r hr;simp only[collect,Option.some.injEq]at h;subst h;cases hr
      | cons x l ihl =>
        have one:∀{A:List (AExit×XS)},(match x.1 with | .normal=>loopX f k x.2 | _=>some [x])=some A->∀r ∈ A,r.1 ≠ .normal:=by
         intro A hA r hr
         split at hA
         ·exact ih _ _ hA r hr
         ·rename_i hne
          cases hA
          rw[List.mem_singleton.1 hr]
          exact hne
        intro R h r hr
        cases l with
        | nil=>exact one h r hr
        | cons y l =>
          simp only[collect]at h
          split at h<;>(try (cases h;done))
          rename_i A hA
          split at h<;>(try (cases h;done))
          rename_i B hB
          cases h
          rcases List.mem_append.1 hr with hr | hr
          ·exact one hA r hr
          ·exact ihl hB r hr
     exact this h
  exact key _ _ _ h r hr
 ·rintro k a w ⟨s,R,σ,hR,hsub,hst⟩
  cases k with
  | zero=>simp[loopX]at hR
  | succ k =>
    simp only[loopX]at hR
    split at hR<;>(try (cases hR;done))
    rename_i L' hL
    refine hf s L' a w σ hL hst _ fun r hr a' w' σ' hst'=>?_
    obtain⟨A,h1,h2⟩:=collect_ok hR r hr
    cases hr1:r.1 with
    | normal =>
      rw[hr1]at h1
      exact⟨k,Nat.lt_succ_self _,r.2,A,σ',h1,fun x hx=>hsub x (h2 x hx),hst'⟩
    | exit id =>
      rw[hr1]at h1
      cases h1
      have:=hQ r (hsub r (h2 r (List.mem_singleton.2 rfl))).1 a' w' σ' hst'
      rw[hr1]at this
      exact this
    | ret =>
      rw[hr1]at h1
      cases h1
      have:=hQ r (hsub r (h2 r (List.mem_singleton.2 rfl))).1 a' w' σ' hst'
      rw[hr1]at this
      exact this
end
end
end Go.Xs
namespace Go.Xs
noncomputable section
section
variable {P:Program} {a:Act} {w w' w0:World} {ρ:Rho} {σ σ' σ0:Sig} {M N M' M0:Hp} {Γ:Facts} {call:CallF} {env env':Env} {ds:List Deferred} {nx nx0 n:Nat} {Y:Option (Nat×YH)}
def IterOk (P:Program) (ρ:Rho) (iter:IterF):Prop :=
 ∀g args Y M nx L,iter g args Y M nx=some L->∀w σ vs,Ok ρ w σ M->(∀k,nx<=k->σ k=none)->VRs ρ σ args vs->YOk P ρ w σ M nx (some Y) ->
  (∃fn c,P.funcs[g]?=some fn/\fn.body=some c/\(fn.name == "runtime.NumGoroutine")=false) /\
  CallsIn (FW none) 0 P g vs.toArray w fun e w'=>(∃v,e = .returned v)/\∃r ∈ L,∃σ',Ok ρ w' σ' r.1/\Ext w σ M w' σ' r.1/\nx<=r.2/\∀k,σ' k=σ k\/(nx<=k/\k<r.2)
theorem noIter_ok:IterOk P ρ noIter:=fun g args Y M nx L h=>by cases h
theorem YOk.mono (h:YOk P ρ w0 σ0 M0 nx0 Y) (e:Ext w0 σ0 M0 w σ M) (hle:nx0<=nx):YOk P ρ w σ M nx Y:=by
 cases Y with
 | none=>trivial
 | some Y =>
   obtain⟨k,H⟩:=Y
   obtain⟨l,rec,room,h1,h2,h3⟩:=h
   exact⟨l,rec,room,e.sig _ _ h1,h2.ext e,fun args M' nx' L hH w' σ' us hok hfree hext hle' hus=>h3 args M' nx' L hH w' σ' us hok hfree (e.trans hext) (Nat.le_trans hle hle') hus⟩
theorem St.rebase {s:XS} (h:St ds ρ w0 σ0 M0 nx0 n s a w σ):St ds ρ w σ s.M s.nx n s a w σ:=⟨h.envr,h.size,h.ok,h.free,.refl w σ s.M,Nat.le_refl _,fun _=>.inl rfl,h.def0⟩
theorem St.join {s s':XS} {a':Act} {ds':List Deferred} (h:St ds ρ w0 σ0 M0 nx0 n s a w σ) (k:St ds' ρ w σ s.M s.nx n s' a' w' σ'):St ds' ρ w0 σ0 M0 nx0 n s' a' w' σ' :=
 ⟨k.envr,k.size,k.ok,k.free,h.ext.trans k.ext,Nat.le_trans h.le k.le,fun j=>by
  rcases k.old j with e | e
  ·rw[e];exact h.old j
  ·exact .inr (Nat.le_trans h.le e),k.def0⟩
def RunOk (P:Program) (ρ:Rho) (Γ:Facts) (call:CallF) (n fuel:Nat) (c:Code):Prop :=
 ∀(fr:Option Nat) (iter:IterF) (Y:Option (Nat×YH)) (B:Nat) (w0:World) (σ0:Sig) (M0:Hp) (nx0:Nat),IterOk P ρ iter->(fr=none\/iter=noIter)->YOk P ρ w0 σ0 M0 nx0 Y->B<=w0.heap.size ->
  ∀(s:XS) (L:List (AExit×XS)) (a:Act) (w:World) (σ:Sig),runC P Γ call iter Y n fuel c s=some L->Sm ρ B w0 σ0 M0 nx0 n s a w σ ->
   ∀Qm:Exit->Act->World->Prop,(∀r ∈ L,∀a' w' σ',Sm ρ B w0 σ0 M0 nx0 n r.2 a' w' σ'->Qm r.1.to a' w')->c.wpIn (FW fr) 0 P Qm a w
theorem putPs_ok:∀(ps:List Tmp) (args:List XV) (us:List Value) (env env':Env) (tmps:Array Value),putPs n ps args env=some env'->VRs ρ σ args us->EnvR ρ σ env tmps->tmps.size=n ->
 us.length=ps.length/\EnvR ρ σ env' ((ps.zip us).foldl (fun tmps (t,a)=>tmps.setIfInBounds t a) tmps)/\((ps.zip us).foldl (fun tmps (t,a)=>tmps.setIfInBounds t a) tmps).size=n
 | [],[],us,env,env',tmps,h,hv,he,hs=>by
   simp only[putPs,Option.some.injEq]at h
   subst h
   simp only[VRs]at hv
   subst hv
   exact⟨rfl,he,hs⟩
 | [],_::_,us,env,env',tmps,h,hv,he,hs=>by simp[putPs]at h
 | _::_,[],us,env,env',tmps,h,hv,he,hs=>by simp[putPs]at h
 | p::ps,v::vs,us,env,env',tmps,h,hv,he,hs=>by
   simp only[putPs]at h
   split at h<;>(try (cases h;done))
   rename_i e1 h1
   simp only[VRs]at hv
   obtain⟨u,us,rfl,g1,g2⟩:=hv
   have:=EnvR.put (a:={ tmps:=tmps,defers:=[] }) he (d:=some p) (by rw[hs];exact h1) g1
   obtain⟨q1,q2,q3⟩:=putPs_ok ps vs us e1 env' (tmps.setIfInBounds p u) h g2 this (by simpa using hs)
   exact⟨by simp[q1],q2,q3⟩
theorem roundX_ok {asg body:Code} {fuel:Nat} (ha:RunOk P ρ Γ call n fuel asg) (hb:RunOk P ρ Γ call n fuel body) {fn:FuncId} {tmps:Array Value} {ps:Array Tmp} {D l:Nat} {s0:XS}
 (henv:EnvR ρ σ0 env tmps) (hsize:tmps.size=n) (hl:Frn w0 σ0 M0 l (.loop { state:=.ready,pending:=none,fn,tmps,params:=ps,assign:=asg,body,defers:=D })) :
 HdOk P ρ w0 σ0 M0 nx0 l { state:=.ready,pending:=none,fn,tmps,params:=ps,assign:=asg,body,defers:=D } (roundX (runC P Γ call noIter none n fuel asg) (runC P Γ call noIter none n fuel body) n ps.toList env):=by
 intro args M nx L h w σ us hok hfree hext hle hus
 unfold roundX at h
 split at h<;>(try (cases h;done))
 rename_i env' he
 split at h<;>(try (cases h;done))
 rename_i L1 hL1
 obtain⟨e1,e2,e3⟩:=putPs_ok ps.toList args us env env' tmps he hus (fun t v hv=>⟨(henv t v hv).1,(henv t v hv).2.mono hext.sig⟩) hsize
 refine⟨by rw[e1];simp,fun fr=>?_⟩
 refine roundIn_of_wpIn (F:=FW fr) (FW_fn fr _) ?_
 rw[FW_in]
 have ez:((ps.zip us.toArray).foldl (fun tmps (t,a)=>tmps.setIfInBounds t a) tmps)=((ps.toList.zip us).foldl (fun tmps (t,a)=>tmps.setIfInBounds t a) tmps):=by
  rw[<-Array.foldl_toList];simp
 simp only[ez]
 have hl0:=hl.ext hext
 have hlt:=hl0.lt
 refine ha (some l) noIter none (l+1) w σ M nx noIter_ok (.inr rfl) trivial (by omega) ⟨env',M,nx⟩ L1 _ w σ hL1 ⟨[],⟨e2,e3,hok,hfree,.refl w σ M,Nat.le_refl _,fun _=>.inl rfl,rfl⟩,[],rfl,List.nodup_nil,fun _ h=>by cases h⟩ _ fun r hr a1 w1 σ1 ⟨ds1,hst,hk1⟩=>?_
 obtain⟨A,h1,h2⟩:=collect_ok h r hr
 cases hr1:r.1 with
 | exit id=>rw[hr1]at h1;cases h1
 | ret=>rw[hr1]at h1;cases h1
 | normal =>
   rw[hr1]at h1
   simp only at h1
   split at h1<;>(try (cases h1;done))
   rename_i L2 hL2
   have r1:=hl0.ext hst.ext
   refine⟨_,run_beginRound r1.here rfl,?_⟩
   have s2:Side w1 σ1 r.2.M (w1.putObj l (.loop { state:=.busy,pending:=none,fn,tmps,params:=ps,assign:=asg,body,defers:=D })):=Side.putObj r1 rfl _
   have r2:Frn (w1.putObj l (.loop { state:=.busy,pending:=none,fn,tmps,params:=ps,assign:=asg,body,defers:=D })) σ1 r.2.M l (.loop { state:=.busy,pending:=none,fn,tmps,params:=ps,assign:=asg,body,defers:=D }):=r1.put
   have hw2:∀c,c≠l->(w1.putObj l (.loop { state:=.busy,pending:=none,fn,tmps,params:=ps,assign:=asg,body,defers:=D })).heap[c]?=w1.heap[c]?:=fun c hc=>World.putObj_heap_other hc
   generalize w1.putObj l (.loop { state:=.busy,pending:=none,fn,tmps,params:=ps,assign:=asg,body,defers:=D })=w2 at s2 r2 hw2 ⊢
   have hz1:=hst.ext.size
   refine hb (some l) noIter none (l+1) w2 σ1 r.2.M r.2.nx noIter_ok (.inr rfl) trivial (by have:=r2.lt;omega) r.2 L2 a1 w2 σ1 hL2 ⟨ds1,⟨hst.envr,hst.size,s2.ok hst.ok,hst.free,.refl _ _ _,Nat.le_refl _,fun _=>.inl rfl,hst.def0⟩,?_⟩ _ fun r' hr' a3 w3 σ3 ⟨ds3,hst3,_⟩=>?_
   ·obtain⟨Ds,q1,q2,q3⟩:=hk1
    exact⟨Ds,q1,q2,fun D hD=>⟨(q3 D hD).1,(q3 D hD).2.side (hw2 D (by have:=(q3 D hD).1;omega))⟩⟩
   ·obtain⟨A',g1,g2⟩:=collect_ok h1 r' hr'
    cases hr2:r'.1 with
    | exit id=>rw[hr2]at g1;cases g1
    | ret=>rw[hr2]at g1;cases g1
    | normal =>
      rw[hr2]at g1
      cases g1
      have r3:=r2.ext hst3.ext
      have s4:=Side.putObj r3 rfl (.loop { state:=.ready,pending:=none,fn,tmps,params:=ps,assign:=asg,body,defers:=D })
      refine⟨_,_,run_endRound none r3.here,rfl,(r'.2.M,r'.2.nx),h2 _ (g2 _ (List.mem_singleton.2 rfl)),σ3,s4.ok hst3.ok,?_,Nat.le_trans hst.le hst3.le,fun k=>?_⟩
      ·have hz2:=s2.size
       have hz3:=hst3.ext.size
       refine⟨hst3.ext.os.trans (s2.os.trans hst.ext.os),hst3.ext.tape.trans (s2.tape.trans hst.ext.tape),hst3.ext.output.trans (s2.output.trans hst.ext.output),by simp;omega,fun c hc hno=>?_,fun c hc=>?_,fun k p hp=>hst3.ext.sig k p (hst.ext.sig k p hp),fun c hc=>?_⟩
       ·by_cases hcl:c=l
        ·subst hcl
         rw[hl0.here]
         exact World.putObj_heap_same r3.lt
        ·have hno1:¬ Owned σ1 r.2.M c:=fun q=>by
          rcases hst.ext.own c q with q | q
          ·exact hno q
          ·omega
         refine(World.putObj_heap_other hcl).trans ?_
         rw[hst3.ext.blk c (by omega) hno1,hw2 c hcl,hst.ext.blk c hc hno]
       ·rcases hst3.ext.own c hc with q | q
        ·exact hst.ext.own c q
        ·exact .inr (by omega)
       ·rcases hst3.ext.held c hc with q | q
        ·exact hst.ext.held c q
        ·exact .inr (by omega)
      ·have hfree3:=hst3.free k
       have hle1:nx<=r.2.nx:=hst.le
       have hle3:r.2.nx<=r'.2.nx:=hst3.le
       by_cases hk:r'.2.nx<=k
       ·left;rw[hfree3 hk,hfree k (by omega)]
       ·rcases hst3.old k with e | e
        ·rcases hst.old k with e' | e'
         ·left;rw[e,e']
         ·right;omega
        ·right;omega
theorem Ok.upd (hok:Ok ρ w σ M) {key:Nat} (hf:σ key=none) (p:Nat×Nat):Ok ρ w (σ.upd key p) M/\Ext w σ M w (σ.upd key p) M:=by
 have hne:∀k o,tget M k=some o->k≠key:=fun k o h e=>by
  obtain⟨q,hq,_⟩:=hok.obj k o h
  rw[e,hf]at hq;cases hq
 have hs:=Sig.upd_sub hf p
 have ext:Ext w σ M w (σ.upd key p) M:=⟨rfl,rfl,rfl,Nat.le_refl _,fun _ _ _=>rfl,fun b hb=>.inl (by
  obtain⟨k,o,q,h1,h2,h3⟩:=hb
  rw[Sig.upd_other _ _ (hne _ _ h1)]at h2
  exact⟨k,o,q,h1,h2,h3⟩),hs,fun b hb=>.inl (by
  obtain⟨k,o,q,h1,h2,h3⟩:=hb
  rw[Sig.upd_other _ _ (hne _ _ h1)]at h2
  exact⟨k,o,q,h1,h2,h3⟩)⟩
 refine Ok.mk' hok ext (fun k o hk=>?_) (fun k k' o o' q q' h1 h2 hmu h3 h4=>?_)
 ·obtain⟨q,hq,ho⟩:=hok.obj k o hk
  exact⟨q,hs _ _ hq,OR.mono hs rfl ho⟩
 ·rw[Sig.upd_other _ _ (hne _ _ h1)]at h3
  rw[Sig.upd_other _ _ (hne _ _ h2)]at h4
  exact hok.inj k k' o o' q q' h1 h2 hmu h3 h4
theorem runC_ok (hp:P.follows .mixedOrders=true) (hΓ:∀i op c b k,Γ i op c=some b->binInt op k (ρ i) k c=some (.bool b)) (hcall:CallOk P ρ call) {fuel:Nat}:∀c,RunOk P ρ Γ call n fuel c:=by
 intro c
 induction c with
 | skip=>intro fr iter Y B w0 σ0 M0 nx0 hI hfr hY hB s L a w σ h hs Qm hQ;cases h;exact wpIn_skip (hQ _ (List.mem_singleton.2 rfl) a w σ hs)
 | ret=>intro fr iter Y B w0 σ0 M0 nx0 hI hfr hY hB s L a w σ h hs Qm hQ;cases h;exact wpIn_ret (hQ _ (List.mem_singleton.2 rfl) a w σ hs)
 | exit id=>intro fr iter Y B w0 σ0 M0 nx0 hI hfr hY hB s L a w σ h hs Qm hQ;cases h;exact wpIn_exit (hQ _ (List.mem_singleton.2 rfl) a w σ hs)
 | region id ops draw =>
   intro fr iter Y B w0 σ0 M0 nx0 hI hfr hY hB s L a w σ h ⟨ds,hs,hk⟩ Qm hQ
   exact region_ok hp hΓ hcall (hY.mono hs.ext hs.le) h hs.rebase fun r hr a' w' σ' hst=>hQ r hr a' w' σ' ⟨ds,hs.join hst,hk.ext hst.ext⟩
 | seq x y ihx ihy =>
   intro fr iter Y B w0 σ0 M0 nx0 hI hfr hY hB s L a w σ h hs Qm hQ
   simp only[runC]at h
   split at h<;>(try (cases h;done))
   rename_i L' hL
   refine wpIn_seq (ihx fr iter Y B w0 σ0 M0 nx0 hI hfr hY hB s L' a w σ hL hs _ fun r hr a' w' σ' hst=>?_)
   obtain⟨A,h1,h2⟩:=collect_ok h r hr
   cases hr1:r.1 with
   | normal =>
     rw[hr1]at h1
     exact ihy fr iter Y B w0 σ0 M0 nx0 hI hfr hY hB r.2 A a' w' σ' h1 hst Qm fun r' hr'=>hQ r' (h2 r' hr')
   | exit id =>
     rw[hr1]at h1
     cases h1
     have:=hQ r (h2 r (List.mem_singleton.2 rfl)) a' w' σ' hst
     rw[hr1]at this
     exact this
   | ret =>
     rw[hr1]at h1
     cases h1
     have:=hQ r (h2 r (List.mem_singleton.2 rfl)) a' w' σ' hst
     rw[hr1]at this
     exact this
 | cond c x y ihx ihy =>
   intro fr iter Y B w0 σ0 M0 nx0 hI hfr hY hB s L a w σ h hs Qm hQ
   simp only[runC]at h
   have hv:VR ρ σ (opv s.env c) (a.eval c):=let ⟨_,hst,_⟩:=hs;opv_ok hst.envr c
   split at h<;>(try (cases h;done))<;>rename_i hb<;>rw[hb]at hv<;>simp only[VR]at hv
   ·exact wpIn_cond_split hv (fun _=>ihx fr iter Y B w0 σ0 M0 nx0 hI hfr hY hB s L a w σ h hs Qm hQ) fun hf=>by cases hf
   ·exact wpIn_cond_split hv (fun hf=>by cases hf) fun _=>ihy fr iter Y B w0 σ0 M0 nx0 hI hfr hY hB s L a w σ h hs Qm hQ
 | block id c ih =>
   intro fr iter Y B w0 σ0 M0 nx0 hI hfr hY hB s L a w σ h hs Qm hQ
   simp only[runC]at h
   split at h<;>(try (cases h;done))
   rename_i L' hL
   cases h
   refine wpIn_block (ih fr iter Y B w0 σ0 M0 nx0 hI hfr hY hB s L' a w σ hL hs _ fun r hr a' w' σ' hst=>?_)
   have:=hQ (inBlockX id r) (List.mem_map.2 ⟨r,hr,rfl⟩) a' w' σ'
   unfold inBlockX at this
   cases hr1:r.1 with
   | normal =>
     rw[hr1]at this
     have:=this hst
     rw[hr1]at this
     exact this
   | ret =>
     rw[hr1]at this
     have:=this hst
     rw[hr1]at this
     exact this
   | exit i =>
     rw[hr1]at this
     simp only at this
     simp only[AExit.to,Exit.inBlock]
     cases hb:Nat.beq i id with
     | true =>
       rw[if_pos (Nat.eq_of_beq_eq_true hb)]
       rw[hb]at this
       exact this hst
     | false =>
       rw[if_neg (Nat.ne_of_beq_eq_false hb)]
       rw[hb]at this
       have:=this hst
       rw[hr1]at this
       exact this
 | loop c ih =>
   intro fr iter Y B w0 σ0 M0 nx0 hI hfr hY hB s L a w σ h hs Qm hQ
   simp only[runC]at h
   exact loopX_ok (fun s L a w σ h hs Q hQ=>ih fr iter Y B w0 σ0 M0 nx0 hI hfr hY hB s L a w σ h hs Q hQ) h hs hQ
 | rangeFunc f ps asg body iha ihb =>
   intro fr iter Y B w0 σ0 M0 nx0 hI hfr hY hB s L a w σ h ⟨ds,hs,hk⟩ Qm hQ
   simp only[runC]at h
   split at h<;>(try (cases h;done))
   rename_i g caps hfv
   split at h<;>(try (cases h;done))
   rename_i L' hL
   cases h
   have hfr:fr=none:=by
    rcases hfr with e | e
    ·exact e
    ·rw[e]at hL;cases hL
   subst hfr
   have hv:=opv_ok hs.envr f
   rw[hfv]at hv
   simp only[VR,VRs]at hv
   obtain⟨us0,us,hus,hnil,hcaps⟩:=hv
   have hnil:us0 = #[]:=by apply Array.ext';simpa using hnil
   subst hnil
   refine wpIn_rangeFunc ?_
   intro fc _
   obtain⟨R,hR⟩:∃R:Loop,R = { state:=.ready,pending:=none,fn:=fc,tmps:=a.tmps,params:=ps,assign:=asg,body,defers:=w.heap.size }:=⟨_,rfl⟩
   obtain⟨W1,hW1⟩:∃W1,W1=(w.alloc (.deferred (some []))).alloc (.loop R):=⟨_,rfl⟩
   have hz1:(w.alloc (.deferred (some []))).heap.size=w.heap.size+1:=World.size_alloc ..
   have s1:Side w σ s.M (w.alloc (.deferred (some []))):=Side.alloc hs.ok _
   have ok1:=s1.ok hs.ok
   have s2:Side (w.alloc (.deferred (some []))) σ s.M W1:=by rw[hW1];exact Side.alloc ok1 _
   have d1:Frn (w.alloc (.deferred (some []))) σ s.M w.heap.size (.deferred (some [])):=Frn.new hs.ok _
   have at1:∀b,b<w.heap.size->(w.alloc (.deferred (some []))).heap[b]?=w.heap[b]?:=fun b hb=>by
    show (w.heap.push _)[b]?=_
    rw[Array.getElem?_push,if_neg (by omega)]
   have at2:∀b,b<w.heap.size+1->W1.heap[b]?=(w.alloc (.deferred (some []))).heap[b]?:=fun b hb=>by
    rw[hW1]
    show ((w.alloc _).heap.push _)[b]?=_
    rw[Array.getElem?_push,if_neg (by omega)]
   have d2:Frn W1 σ s.M w.heap.size (.deferred (some [])):=d1.side (at2 _ (by omega))
   have r2:Frn W1 σ s.M (w.heap.size+1) (.loop R):=by
    have:=Frn.new (o:=.loop R) ok1
    rw[hz1]at this
    rw[hW1];exact this
   have x2:Ext w σ s.M W1 σ s.M:=s2.ext (s1.ext (.refl _ _ _) fun b hb _=>at1 b hb) fun b hb _=>at2 b (by omega)
   obtain⟨ok3,x3⟩:=(s2.ok ok1).upd (hs.free s.nx (Nat.le_refl _)) (w.heap.size+1,0)
   have hσ1:∀k,s.nx+1<=k->(σ.upd s.nx (w.heap.size+1,0)) k=none:=fun k hk=>by
    rw[Sig.upd_other _ _ (by omega)];exact hs.free k (by omega)
   have x13:=x2.trans x3
   have r3:=r2.ext x3
   have d3:=d2.ext x3
   have hargs:VRs ρ (σ.upd s.nx (w.heap.size+1,0)) (.yd s.nx::caps) (.func (.yield (w.heap.size+1)) #[] #[]::us.toList):=by
    simp only[VRs,VR]
    exact⟨_,_,rfl,⟨_,_,Sig.upd_same ..,rfl⟩,hcaps.mono x13.sig⟩
   have henv3:EnvR ρ (σ.upd s.nx (w.heap.size+1,0)) s.env a.tmps:=fun t v hv=>⟨(hs.envr t v hv).1,(hs.envr t v hv).2.mono x13.sig⟩
   have hhd:=roundX_ok (nx0:=s.nx+1) iha ihb (fn:=fc) (ps:=ps) (D:=w.heap.size) (s0:=s) henv3 hs.size (by rw[<-hR];exact r3)
   rw[<-hR]at hhd
   obtain⟨⟨fn,c,hfn,hbody,hname⟩,hcalls⟩:=hI g _ _ s.M (s.nx+1) L' hL W1 _ _ ok3 hσ1 hargs ⟨w.heap.size+1,R,0,Sig.upd_same ..,r3,hhd⟩
   refine⟨w.heap.size+1,[markOf w.heap.size],W1,{ target:=.fn (.func g) us,args:=#[.func (.yield (w.heap.size+1)) #[] #[]] },W1,g,#[.func (.yield (w.heap.size+1)) #[] #[]]++us,W1,?_,?_,fun f' _=>FW_fn none f',?_,fun q=>(by rw[FW_depth]at q;cases q),?_⟩
   ·rw[hW1,hR,FW_round];exact run_enterLoop_outer _ _ _ _ _
   ·simp[resolve,hus,Deferred.ofValue]
    rfl
   ·simp only[invoke,callFunc,Sem.run_bind,run_program,Result.andThen_ok,hfn,hname,hbody,Option.isNone_some,Bool.false_eq_true,if_false,Sem.run_pure]
   ·have ez:(#[.func (.yield (w.heap.size+1)) #[] #[]]++us:Array Value)=(.func (.yield (w.heap.size+1)) #[] #[]::us.toList).toArray:=by
     apply Array.ext';simp
    rw[ez]
    refine hcalls.mono fun e w3 hq=>?_
    obtain⟨⟨v,rfl⟩,r,hr,σ',g1,g2,g3,g4⟩:=hq
    have r4:=r3.ext g2
    have s4:=Side.putObj r4 rfl (.loop { R with state:=.exhausted })
    have x4:=x13.trans g2
    refine⟨none,w3.putObj (w.heap.size+1) (.loop { R with state:=.exhausted }),?_,?_⟩
    ·have hpd:R.pending=none:=by rw[hR]
     have hsr:R.state = .ready:=by rw[hR]
     have:=run_endLoop (P:=P) r4.here (by rw[hsr];simp)
     rw[this,hpd]
    ·refine hQ (.normal,⟨s.env,r.1,r.2⟩) (List.mem_map.2 ⟨r,hr,rfl⟩) _ _ σ' ⟨markOf w.heap.size::ds,⟨fun t v hv=>⟨(hs.envr t v hv).1,(hs.envr t v hv).2.mono x4.sig⟩,hs.size,s4.ok g1,fun k hk=>?_,?_,by have:=hs.le;simp only;omega,fun k=>?_,?_⟩,?_⟩
     ·simp only at hk
      rcases g4 k with e | e
      ·rw[e];exact hσ1 k (by omega)
      ·omega
     ·have hz:=hs.ext.size
      exact s4.ext (hs.ext.trans x4) fun c hc _=>World.putObj_heap_other (by omega)
     ·rcases g4 k with e | e
      ·by_cases hk:k=s.nx
       ·right;rw[hk];exact hs.le
       ·rw[e,Sig.upd_other _ _ hk];exact hs.old k
      ·right;have:=hs.le;omega
     ·show [markOf w.heap.size]++a.defers=_
      rw[hs.def0];rfl
     ·obtain⟨Ds,e1,e2,e3⟩:=hk
      have hlt:∀D ∈ Ds,D<w.heap.size:=fun D hD=>(e3 D hD).2.lt
      refine⟨w.heap.size::Ds,by rw[e1];rfl,List.nodup_cons.2 ⟨fun hm=>absurd (hlt _ hm) (by omega),e2⟩,fun D hD=>?_⟩
      have hne:D≠w.heap.size+1:=by
       rcases List.mem_cons.1 hD with rfl | hD
       ·omega
       ·have:=hlt D hD;omega
      have hzw:=hs.ext.size
      rcases List.mem_cons.1 hD with rfl | hD
      ·exact⟨by omega,(d3.ext g2).side (World.putObj_heap_other hne)⟩
      ·exact⟨(e3 D hD).1,((e3 D hD).2.ext x4).side (World.putObj_heap_other hne)⟩
 | scope b _=>intro fr iter Y B w0 σ0 M0 nx0 hI hfr hY hB s L a w σ h;simp[runC]at h
 | label l=>intro fr iter Y B w0 σ0 M0 nx0 hI hfr hY hB s L a w σ h;simp[runC]at h
 | goto l=>intro fr iter Y B w0 σ0 M0 nx0 hI hfr hY hB s L a w σ h;simp[runC]at h
 | refuse y=>intro fr iter Y B w0 σ0 M0 nx0 hI hfr hY hB s L a w σ h;simp[runC]at h
end
end
end Go.Xs
namespace Go.Xs
noncomputable section
section
variable {P:Program} {a:Act} {w w' w0:World} {ρ:Rho} {σ σ' σ0:Sig} {M N M' M0:Hp} {Γ:Facts} {call:CallF} {env env':Env} {ds:List Deferred} {nx0 n nx:Nat}
theorem argsE_get:∀(vs:List XV) (i:Nat) (env:Env) (t:Nat),tget (argsE vs i env) t=if i<=t/\t<i+vs.length then vs[t - i]? else tget env t
 | [],i,env,t=>by simp[argsE];intro h1 h2;omega
 | v::vs,i,env,t=>by
   simp only[argsE,argsE_get vs (i+1),tget_tset,List.length_cons]
   by_cases h:i+1<=t/\t<i+1+vs.length
   ·rw[if_pos h,if_pos (by omega)]
    rw[show t - i=(t - (i+1))+1 by omega]
    rfl
   ·rw[if_neg h]
    by_cases h2:i=t
    ·subst h2
     rw[if_pos rfl,if_pos (by omega)]
     simp
    ·rw[if_neg h2,if_neg (by omega)]
theorem resXs_ok {s:XS} (hok:Ok ρ w σ s.M) (henv:EnvR ρ σ s.env a.tmps):∀(rs:List ResultVar) (vs:List XV),resXs P s rs=some vs ->
 ∃us,VRs ρ σ vs us/\∀g:ResultVar->Sem Value,(∀t,g (.tmp t)=pure (a.tmps.getD t undef))->(∀b t,g (.cell b t)=do loadVar t (<-asAddr (a.tmps.getD b undef)))->(rs.mapM g).run P w = .ok us w
 | [],vs,h=>by
   simp only[resXs,Option.some.injEq]at h
   subst h
   exact⟨[],by simp only[VRs],fun _ _ _=>rfl⟩
 | r::rs,vs,h=>by
   unfold resXs at h
   split at h<;>(try (cases h;done))
   rename_i v h1
   split at h<;>(try (cases h;done))
   rename_i vs' h2
   cases h
   obtain⟨us,e2,e1⟩:=resXs_ok hok henv rs vs' h2
   have one:∃u,VR ρ σ v u/\∀g:ResultVar->Sem Value,(∀t,g (.tmp t)=pure (a.tmps.getD t undef))->(∀b t,g (.cell b t)=do loadVar t (<-asAddr (a.tmps.getD b undef)))->(g r).run P w = .ok u w:=by
    unfold resX at h1
    split at h1
    ·rename_i t
     exact⟨_,(henv t v h1).2,fun g q _=>by rw[q];rfl⟩
    ·rename_i b t
     split at h1<;>(try (cases h1;done))
     rename_i x hb
     split at h1<;>(try (cases h1;done))
     rename_i e hl
     cases h1
     have hv:=(henv b x hb).2
     obtain⟨u,g1,g2,_⟩:=loadX_ok (P:=P) hok hl hv
     refine⟨u,g2,fun g _ q=>?_⟩
     rw[q]
     have hx:∃ad,a.tmps.getD b undef = .pointer (some ad):=by
      unfold loadX at hl
      split at hl<;>(try (cases hl;done))
      simp only[VR]at hv
      obtain⟨_,_,_,h⟩:=hv
      exact⟨_,h⟩
     obtain⟨ad,hx⟩:=hx
     rw[hx]at g1 ⊢
     simpa [Instr.loadAt,Instr.sureAddr,asAddr] using g1
   obtain⟨u,g2,g1⟩:=one
   refine⟨u::us,?_,fun g q1 q2=>?_⟩
   ·simp only[VRs]
    exact⟨u,us,rfl,g2,e2⟩
   ·simp only[List.mapM_cons,Sem.run_bind,g1 g q1 q2,Result.andThen_ok,e1 g q1 q2,Sem.run_pure]
def ExtOk (P:Program) (ρ:Rho) (ext:ExtF):Prop :=
 ∀(g:Nat) (args:List XV) (M:Hp) (v:XV),ext g args M=some v->∀(w:World) (σ:Sig) (vs:List Value),Ok ρ w σ M->VRs ρ σ args vs ->
  ∀(o:Oper) (a:Act) (K:Act->World->Prop) (Q:Exit->Act->World->Prop),(∀u w',VR ρ σ v u->Ok ρ w' σ M->Ext w σ M w' σ M->K (a.put o.dst u) w')->o.upon P a K Q ((callFunc g vs.toArray).run P w)
theorem marks_leave {fn:Func} {tmps:Array Value} {R:Ending->World->Prop}:∀(Ds:List Nat) (w:World),Ok ρ w σ M->Ds.Nodup->(∀D ∈ Ds,Frn w σ M D (.deferred (some []))) ->
 (∀w',Side w σ M w'->(∀b,b ∉ Ds->w'.heap[b]?=w.heap[b]?)->∃v,(results fn tmps).run P w' = .ok v w'/\R (.returned v) w')->LeavesInM (FW none) 0 P fn tmps R (Ds.map markOf) .returning w
 | [],w,_,_,_,h=>h w ⟨rfl,rfl,rfl,Nat.le_refl _,fun _ _=>rfl,fun _ _ _ _=>rfl⟩ fun _ _=>rfl
 | D::Ds,w,hok,hd,hD,h=>by
   have h0:=hD D List.mem_cons_self
   have hn:=List.nodup_cons.1 hd
   have s:Side w σ M (w.putObj D (.deferred none)):=Side.putObj h0 rfl _
   refine⟨by simp,.inl ⟨D,w.putObj D (.deferred none),rfl,run_takeDeferred h0.here,?_⟩⟩
   refine marks_leave Ds _ (s.ok hok) hn.2 (fun E hE=>(hD E (List.mem_cons_of_mem _ hE)).side (World.putObj_heap_other (fun q=>hn.1 (by rw[<-q];exact hE)))) fun w' hs hb=>?_
   refine h w' (s.trans hs) fun b hnb=>?_
   simp only[List.mem_cons,not_or]at hnb
   exact(hb b hnb.2).trans (World.putObj_heap_other hnb.1)
theorem args_st {args:List XV} {vs:List Value} {m nx:Nat} (hok:Ok ρ w σ M) (hfree:∀k,nx<=k->σ k=none) (hargs:VRs ρ σ args vs) :
 Sm ρ w.heap.size w σ M nx (args.length+(m - args.length)) ⟨argsE args 0 .nil,M,nx⟩ { tmps:=vs.toArray++Array.replicate (m - vs.toArray.size) undef,defers:=[] } w σ:=by
 have hlen:=hargs.length
 refine⟨[],⟨fun t v hv=>?_,by simp[hlen],hok,hfree,.refl w σ M,Nat.le_refl _,fun _=>.inl rfl,rfl⟩,[],rfl,List.nodup_nil,fun _ h=>by cases h⟩
 simp only[argsE_get,Nat.zero_le,true_and,Nat.zero_add,Nat.sub_zero,tget_nil]at hv
 split at hv
 ·rename_i ht
  obtain⟨u,g1,g2⟩:=hargs.get hv
  have hlt:t<vs.length:=by omega
  refine⟨by simp;omega,?_⟩
  simp only[Array.getD_eq_getD_getElem?]
  rw[Array.getElem?_append_left (by simpa using hlt)]
  simp only[List.getElem?_toArray,g1,Option.getD_some]
  exact g2
 ·cases hv
theorem end_ok {fn:Func} {R:Ending->World->Prop} {s:XS} {vs:List XV} (hm:Sm ρ w0.heap.size w0 σ0 M0 nx0 n s a w σ) (hfree:∀k,nx0<=k->σ0 k=none) (hvs:resXs P s fn.results.toList=some vs)
 (hR:∀v w' σ',VR ρ σ' (oneOr vs) v->Ok ρ w' σ' s.M->Ext w0 σ0 M0 w' σ' s.M->nx0<=s.nx->(∀k,σ' k=σ0 k\/(nx0<=k/\k<s.nx))->R (.returned v) w'):LeavesInM (FW none) 0 P fn a.tmps R a.defers .returning w:=by
 obtain⟨ds,hst,Ds,e1,e2,e3⟩:=hm
 rw[hst.def0,e1]
 refine marks_leave Ds w hst.ok e2 (fun D hD=>(e3 D hD).2) fun w' hs hbl=>?_
 have hok:=hs.ok hst.ok
 obtain⟨us,g2,g1⟩:=resXs_ok (P:=P) hok hst.envr _ _ hvs
 have hus:=g2.length
 obtain⟨v,g3,g4⟩:∃v,(results fn a.tmps).run P w' = .ok v w'/\VR ρ σ (oneOr vs) v:=by
  refine⟨if h:us.toArray.size=1 then us.toArray[0] else .tuple us.toArray,?_,?_⟩
  ·simp only[results,Sem.run_bind,Array.mapM_eq_mapM_toList,Sem.run_map]
   rw[g1 _ (fun _=>rfl) (fun _ _=>rfl)]
   rfl
  ·cases vs with
   | nil =>
     cases us with
     | nil=>simp only[oneOr,VR];exact⟨#[],by simp,by simp only[VRs]⟩
     | cons u us=>simp at hus
   | cons v vs' =>
     cases vs' with
     | nil =>
       simp only[VRs]at g2
       obtain⟨u,us',rfl,h1,rfl⟩:=g2
       simpa [oneOr] using h1
     | cons v2 vs' =>
       have hne:¬ us.toArray.size=1:=by simp;simp at hus;omega
       rw[dif_neg hne]
       simp only[oneOr,VR]
       exact⟨us.toArray,rfl,g2⟩
 refine⟨v,g3,hR v w' σ g4 hok (hs.ext hst.ext fun c hc _=>hbl c fun hm=>by have:=(e3 c hm).1;omega) hst.le fun k=>?_⟩
 rcases hst.old k with e | e
 ·exact .inl e
 ·by_cases hk:k<s.nx
  ·exact .inr ⟨e,hk⟩
  ·left
   rw[hst.free k (by omega),hfree k e]
theorem runB_ok (hp:P.follows .mixedOrders=true) (hnum:∀(g:Nat) (fn:Func),P.funcs[g]?=some fn->(fn.name == "runtime.NumGoroutine")=false) (hΓ:∀i op c b k,Γ i op c=some b->binInt op k (ρ i) k c=some (.bool b)) {ext:ExtF} (hext:ExtOk P ρ ext) {fuel:Nat} :
 ∀d,CallOk P ρ (runB P Γ ext fuel d).1/\IterOk P ρ (runB P Γ ext fuel d).2
 | 0=>⟨fun g args M nx L h=>by simp[runB]at h,fun g args Y M nx L h=>by simp[runB,noIter]at h⟩
 | d+1=>by
   obtain⟨ih1,ih2⟩:=runB_ok hp hnum hΓ hext (fuel:=fuel) d
   refine⟨?_,?_⟩
   ·intro g args M nx L h w σ vs hok hfree hargs o a K Q hK
    simp only[runB,stepF]at h
    split at h
    ·rename_i v hv
     cases h
     exact hext g args M v hv w σ vs hok hargs o a K Q fun u w' q1 q2 q3=>hK u w' ⟨_,List.mem_singleton.2 rfl,σ,q1,q2,q3,Nat.le_refl _,fun _=>.inl rfl⟩
    ·split at h<;>(try (cases h;done))
     rename_i fn hf
     split at h<;>(try (cases h;done))
     rename_i c hb
     split at h<;>(try (cases h;done))
     rename_i L' hL
     have hrun:(callFunc g vs.toArray).run P w = .ok (.enter g vs.toArray) w:=by
      simp only[callFunc,Sem.run_bind,run_program,Result.andThen_ok,hf,hnum g fn hf,hb,Option.isNone_some,Bool.false_eq_true,if_false,Sem.run_pure]
     rw[hrun]
     show Calls P g vs.toArray w _
     refine(callsIn_wide (n:=0)).1 ?_
     refine callsIn_of_wp_marks (F:=FW none) hf hb (FW_fn none _) ?_
     refine runC_ok hp hΓ ih1 c none _ none w.heap.size w σ M nx ih2 (.inl rfl) trivial (Nat.le_refl _) _ L' _ w σ hL (args_st hok hfree hargs) _ fun r hr a' w' σ' hst'=>?_
     obtain⟨A,h1,h2⟩:=collect_ok h r hr
     have fin:(match resXs P r.2 fn.results.toList with | some vs=>some [(oneOr vs,r.2.M,r.2.nx)] | none=>none)=some A->LeavesInM (FW none) 0 P fn a'.tmps (fun
      | .returned v,w''=>K (a.put o.dst v) w''
      | .panicked chain,w''=>Q (.panic chain) a w''
      | .outgrown,_=>LetsOut Q) a'.defers .returning w':=by
      intro hA
      split at hA<;>(try (cases hA;done))
      rename_i vs' hvs
      cases hA
      exact end_ok hst' hfree hvs fun v w'' σ'' q1 q2 q3 q4 q5=>hK v w'' ⟨_,h2 _ (List.mem_singleton.2 rfl),σ'',q1,q2,q3,q4,q5⟩
     cases hr1:r.1 with
     | normal =>
       unfold endX at h1
       rw[hr1]at h1
       exact fin h1
     | ret =>
       unfold endX at h1
       rw[hr1]at h1
       exact fin h1
     | exit id =>
       unfold endX at h1
       rw[hr1]at h1
       cases h1
   ·intro g args Y M nx L h w σ vs hok hfree hargs hY
    simp only[runB,stepF]at h
    split at h<;>(try (cases h;done))
    rename_i fn hf
    split at h<;>(try (cases h;done))
    rename_i c hb hres
    split at h<;>(try (cases h;done))
    rename_i L' hL
    refine⟨⟨fn,c,hf,hb,hnum g fn hf⟩,?_⟩
    refine callsIn_of_wp_marks (F:=FW none) hf hb (FW_fn none _) ?_
    refine runC_ok hp hΓ ih1 c none _ (some Y) w.heap.size w σ M nx ih2 (.inl rfl) hY (Nat.le_refl _) _ L' _ w σ hL (args_st hok hfree hargs) _ fun r hr a' w' σ' hst'=>?_
    obtain⟨A,h1,h2⟩:=collect_ok h r hr
    have fin:some [(r.2.M,r.2.nx)]=some A->LeavesInM (FW none) 0 P fn a'.tmps (fun e w'=>(∃v,e = .returned v)/\∃r ∈ L,∃σ',Ok ρ w' σ' r.1/\Ext w σ M w' σ' r.1/\nx<=r.2/\∀k,σ' k=σ k\/(nx<=k/\k<r.2)) a'.defers .returning w':=by
     intro hA
     cases hA
     exact end_ok (vs:=[]) hst' hfree (by rw[hres];rfl) fun v w'' σ'' _ q2 q3 q4 q5=>⟨⟨v,rfl⟩,_,h2 _ (List.mem_singleton.2 rfl),σ'',q2,q3,q4,q5⟩
    cases hr1:r.1 with
    | normal=>rw[hr1]at h1;exact fin h1
    | ret=>rw[hr1]at h1;exact fin h1
    | exit id=>rw[hr1]at h1;cases h1
theorem runF_ok (hp:P.follows .mixedOrders=true) (hnum:∀(g:Nat) (fn:Func),P.funcs[g]?=some fn->(fn.name == "runtime.NumGoroutine")=false) (hΓ:∀i op c b k,Γ i op c=some b->binInt op k (ρ i) k c=some (.bool b)) {ext:ExtF} (hext:ExtOk P ρ ext) {fuel:Nat} (d:Nat) :
 CallOk P ρ (runF P Γ ext fuel d):=(runB_ok hp hnum hΓ hext d).1
end
end
end Go.Xs
namespace Go.Xs
noncomputable section
def cntN (c:Nat):List Nat->Nat
 | []=>0
 | b::s=>match Nat.beq b c with | true=>cntN c s+1 | false=>cntN c s
def idxN (c:Nat):List Nat->Nat->Int
 | [],_=>-1
 | b::s,i=>match Nat.beq b c with | true=>.ofNat i | false=>idxN c s (i+1)
def extB (cnt idx:Nat):ExtF:=fun g args _ =>
 match args with
 | [.str s,.int .u8 (.ofNat c)]=>match Nat.blt c 256 with
   | true=>match Nat.beq g cnt with
     | true=>some (.int .i64 (.ofNat (cntN c s)))
     | false=>match Nat.beq g idx with
       | true=>some (.int .i64 (idxN c s 0))
       | false=>none
   | false=>none
 | _=>none
theorem beq_u8 {b:UInt8} {c:Nat} (hc:c<256):(b==c.toUInt8)=Nat.beq b.toNat c:=by
 have ht:c.toUInt8.toNat=c:=by simp[Nat.mod_eq_of_lt hc]
 cases h:Nat.beq b.toNat c with
 | true =>
   have:=Nat.eq_of_beq_eq_true h
   rw[beq_iff_eq,<-UInt8.toNat_inj,ht,this]
 | false =>
   have:=Nat.ne_of_beq_eq_false h
   rw[beq_eq_false_iff_ne]
   rintro rfl
   exact this ht
theorem cnt_ok {c:Nat} (hc:c<256):∀l:List UInt8,Lib.countByte l c.toUInt8=cntN c (l.map fun b=>b.toNat)
 | []=>rfl
 | b::l=>by
   have ih:=cnt_ok hc l
   unfold Lib.countByte at ih ⊢
   simp only[List.count_cons,List.map_cons,cntN,ih,beq_u8 hc]
   cases Nat.beq b.toNat c<;>simp
theorem idx_ok {c:Nat} (hc:c<256):∀(l:List UInt8) (i:Nat),idxN c (l.map fun b=>b.toNat) i=if Lib.indexByte l c.toUInt8 = -1 then -1 else Lib.indexByte l c.toUInt8+i
 | [],i=>by simp[idxN,Lib.indexByte]
 | b::l,i=>by
   simp only[List.map_cons,idxN,Lib.indexByte,beq_u8 hc,idx_ok hc l (i+1)]
   cases Nat.beq b.toNat c with
   | true=>simp
   | false =>
     have:=Lib.indexByte_ge l c.toUInt8
     by_cases h:Lib.indexByte l c.toUInt8 = -1
     ·simp[h]
     ·have h2:¬ Lib.indexByte l c.toUInt8+1 = -1:=by omega
      simp only[h,if_false,beq_iff_eq,Bool.false_eq_true,h2]
      omega
theorem extB_ok {P:Program} {ρ:Rho} {cnt idx:Nat}
 (h1:∃fn,P.funcs[cnt]?=some fn/\fn.body.isNone=true/\(fn.name == "runtime.NumGoroutine")=false/\Extern.findNext fn=none/\Extern.find fn=some Extern.BytealgCount.count)
 (h2:∃fn,P.funcs[idx]?=some fn/\fn.body.isNone=true/\(fn.name == "runtime.NumGoroutine")=false/\Extern.findNext fn=none/\Extern.find fn=some Extern.BytealgIndexByte.indexByte):ExtOk P ρ (extB cnt idx):=by
 intro g args M v h w σ vs hok hvs o a K Q hK
 unfold extB at h
 split at h<;>(try (cases h;done))
 rename_i s c
 split at h<;>(try (cases h;done))
 rename_i hc
 have hc:c<256:=by simpa using hc
 simp only[VRs,VR]at hvs
 obtain⟨u1,us,rfl,⟨t,rfl,ht⟩,u2,us2,rfl,rfl,rfl⟩:=hvs
 have hc':(Int.ofNat c).toNat.toUInt8=c.toUInt8:=rfl
 split at h
 ·rename_i hg
  cases h
  have:=Nat.eq_of_beq_eq_true hg
  subst this
  obtain⟨fn,hf,hb,q1,q2,q3⟩:=h1
  have:=hK (.int .i64 (cntN c s:Nat)) w (by simp only[VR];rfl) hok (.refl w σ M)
  rw[run_callFunc_extern hf q1 hb q2 q3,Lib.run_countString,hc',cnt_ok hc,ht]
  exact this
 ·split at h<;>(try (cases h;done))
  rename_i hg
  cases h
  have:=Nat.eq_of_beq_eq_true hg
  subst this
  obtain⟨fn,hf,hb,q1,q2,q3⟩:=h2
  have:=hK (.int .i64 (idxN c s 0)) w (by simp only[VR]) hok (.refl w σ M)
  have e:(if Lib.indexByte t.data.toList c.toUInt8 = -1 then -1 else Lib.indexByte t.data.toList c.toUInt8+((0:Nat):Int))=Lib.indexByte t.data.toList c.toUInt8:=by
   split<;>rename_i h
   ·exact h.symm
   ·simp
  have e2:idxN c s 0=Lib.indexByte t.data.toList c.toUInt8:=by rw[<-ht,idx_ok hc];exact e
  rw[run_callFunc_extern hf q1 hb q2 q3,Lib.run_indexByteString,hc',<-e2]
  exact this
end
end Go.Xs
namespace Go.Xs
noncomputable section
open Go.RowKit
def okB (o:Option (List Out)):Bool:=match o with
 | some L=>L.all fun r=>match r.1 with | .bool b=>b | _=>false
 | none=>false
def noS:Sig:=fun _=>none
theorem ok_nil {ρ:Rho} {w:World} (h:∀b x,ρ.fix b=some x->w.heap[b]?=some (.cells x.1 x.2.1 x.2.2)):Ok ρ w noS .nil :=
 ⟨fun k o h=>by simp[tget_nil]at h,fun k k' o o' p p' h=>by simp[tget_nil]at h,fun b x hb=>⟨h b x hb,fun⟨k,o,p,q,_⟩=>by simp[tget_nil]at q⟩⟩
theorem calls_of {P:Program} {ρ:Rho} {f nx:Nat} {M0:Hp} {σ0:Sig} {vs:List Value} {w:World} {R:Out->Prop}
 (h:∀(o:Oper) (a:Act) (K:Act->World->Prop) (Q:Exit->Act->World->Prop),(∀v w',(∃r,R r/\CPost ρ w σ0 M0 nx r v w')->K (a.put o.dst v) w')->o.upon P a K Q ((callFunc f vs.toArray).run P w))
 {fn:Func} (h1:P.funcs[f]?=some fn) (h2:(fn.name == "runtime.NumGoroutine")=false) (h3:fn.body.isNone=false) :
 Calls P f vs.toArray w fun e w'=>∃v r,e = .returned v/\R r/\CPost ρ w σ0 M0 nx r v w':=by
 have h:=h { (default:Oper) with dst:=some 0 } { tmps:=#[undef],defers:=[] } (fun a w'=>∃r,R r/\CPost ρ w σ0 M0 nx r (a.tmps.getD 0 undef) w') (fun _ _ _=>False) (fun v w' hh=>by
  simpa [Act.put] using hh)
 have hrun:(callFunc f vs.toArray).run P w = .ok (.enter f vs.toArray) w:=by
  simp only[callFunc,Sem.run_bind,run_program,Result.andThen_ok,h1,h2,h3,Bool.false_eq_true,if_false,Sem.run_pure]
 rw[hrun]at h
 refine Calls.mono h fun e w' he=>?_
 cases e with
 | returned v =>
   obtain⟨r,g1,g2⟩:=he
   simp only[Act.put]at g2
   exact⟨v,r,rfl,g1,by simpa using g2⟩
 | panicked ch=>exact he.elim
 | outgrown=>obtain⟨_,_,q⟩:=he;exact q.elim
theorem law_calls {P:Program} {ρ:Rho} {call:CallF} (hcall:CallOk P ρ call) {f nx:Nat} {args:List XV} {vs:List Value} {w:World} {M0:Hp} {σ0:Sig} (hok:Ok ρ w σ0 M0) (hno:∀b,¬ Owned σ0 M0 b) (hfree:∀k,nx<=k->σ0 k=none)
 (h:okB (call f args M0 nx)=true) (hv:VRs ρ σ0 args vs) {fn:Func} (h1:P.funcs[f]?=some fn) (h2:(fn.name == "runtime.NumGoroutine")=false) (h3:fn.body.isNone=false) :
 Calls P f vs.toArray w fun e w'=>e = .returned (.bool true)/\Below w.heap.size w w':=by
 unfold okB at h
 split at h<;>(try (cases h;done))
 rename_i L hL
 refine Calls.mono (calls_of (R:=fun r=>r ∈ L) (fun o a K Q hK=>hcall f args M0 nx L hL w σ0 vs hok hfree hv o a K Q hK) h1 h2 h3) fun e w' he=>?_
 obtain⟨v,r,rfl,hr,σ',g1,_,g3,_⟩:=he
 have hb:=List.all_eq_true.1 h r hr
 split at hb<;>(try (cases hb;done))
 rename_i b hrv
 subst hb
 rw[hrv]at g1
 simp only[VR]at g1
 exact⟨by rw[g1],g3.os,g3.tape,g3.output,g3.size,fun k hk=>g3.blk k hk (hno k)⟩
theorem owned_nil (b:Nat):¬ Owned noS .nil b:=fun⟨_,_,_,q,_⟩=>by simp[tget_nil]at q
theorem names_ok {P:Program} (h:(P.funcs.toList.all fun fn=>!(fn.name == "runtime.NumGoroutine"))=true):∀(g:Nat) (fn:Func),P.funcs[g]?=some fn->(fn.name == "runtime.NumGoroutine")=false:=fun g fn hf=>by
 have:=List.all_eq_true.1 h fn (by
  rw[<-Array.getElem?_toList]at hf
  exact List.mem_of_getElem? hf)
 simpa using this
end
end Go.Xs
namespace Go.Xs
noncomputable section
open Go.RowKit
theorem below_ok {ρ:Rho} {σ:Sig} {M:Hp} {w w':World} (h:Below w.heap.size w w') (hok:Ok ρ w σ M):Ok ρ w' σ M/\Ext w σ M w' σ M:=by
 have e:Ext w σ M w' σ M:=⟨h.os,h.tape,h.output,h.size,fun b hb _=>h.block b hb,fun _ q=>.inl q,fun _ _ q=>q,fun _ q=>.inl q⟩
 refine Ok.mk' hok e (fun k o hk=>?_) hok.inj
 obtain⟨p,hp,ho⟩:=hok.obj k o hk
 exact⟨p,hp,OR.mono (fun _ _ q=>q) (h.block _ ho.lt) ho⟩
theorem calls_upon {P:Program} {ρ:Rho} {σ:Sig} {M:Hp} {w:World} {f:FuncId} {fn:Func} {vs:Array Value} {u:Value} {v:XV} (hok:Ok ρ w σ M) (h1:P.funcs[f]?=some fn) (h2:(fn.name == "runtime.NumGoroutine")=false) (h3:fn.body.isNone=false)
 (h:Calls P f vs w fun e w'=>e = .returned u/\Below w.heap.size w w') (hv:VR ρ σ v u) {o:Oper} {a:Act} {K:Act->World->Prop} {Q:Exit->Act->World->Prop} (hK:∀u w',VR ρ σ v u->Ok ρ w' σ M->Ext w σ M w' σ M->K (a.put o.dst u) w') :
 o.upon P a K Q ((callFunc f vs).run P w):=by
 have hrun:(callFunc f vs).run P w = .ok (.enter f vs) w:=by
  simp only[callFunc,Sem.run_bind,run_program,Result.andThen_ok,h1,h2,h3,Bool.false_eq_true,if_false,Sem.run_pure]
 rw[hrun]
 refine Calls.mono h fun e w' he=>?_
 obtain⟨rfl,hb⟩:=he
 obtain⟨q1,q2⟩:=below_ok hb hok
 exact hK u w' hv q1 q2
end
end Go.Xs
namespace Go.Xs
noncomputable section
def barOk (ops:List Oper) (i:Nat):Bool:=(List.range ops.length).all fun j=>Nat.blt j i||(List.range i).all fun k=>lmem (anc ops j) k
theorem barOk_iff {ops:List Oper} {i:Nat} (h:barOk ops i=true) {j k:Nat} (hj:j<ops.length) (hij:i<=j) (hk:k<i):lmem (anc ops j) k=true:=by
 have:=List.all_eq_true.1 h j (List.mem_range.2 hj)
 rw[Bool.or_eq_true]at this
 rcases this with h | h
 ·rw[Nat.blt_eq]at h;omega
 ·exact List.all_eq_true.1 h k (List.mem_range.2 hk)
section
variable {P:Program} {a:Act} {w w' w0:World} {ρ:Rho} {σ σ' σ0:Sig} {M N M' M0:Hp} {Γ:Facts} {call:CallF} {env env':Env} {ds:List Deferred} {nx0 n:Nat} {fr:Option Nat}
def cnt (ops:List Oper) (listed:Array Bool):Nat:=((List.range ops.length).filter fun i=>!dn listed i).length
theorem cnt_pos {ops:List Oper} {listed:Array Bool} {i:Nat} (hi:i<ops.length) (hd:dn listed i=false):0<cnt ops listed :=
 List.length_pos_of_mem (a:=i) (by simp[hi,hd])
theorem cnt_set {ops:List Oper} {listed:Array Bool} {i:Nat} (hsz:listed.size=ops.length) (hi:i<ops.length) (hd:dn listed i=false):cnt ops (listed.setIfInBounds i true)<cnt ops listed:=by
 have hdn:dn (listed.setIfInBounds i true)=fun j=>dn listed j||decide (j=i):=funext fun j=>dn_set (by omega) j
 exact countP_lt (l:=List.range ops.length) (p:=fun j=>!dn listed j) (q:=fun j=>!dn (listed.setIfInBounds i true) j) (fun j _ hj=>by
  rw[hdn]at hj
  simp at hj ⊢
  exact hj.1) ⟨i,by simp[hi],by simp[hd],by rw[hdn];simp⟩
theorem some_ready {ops:List Oper} {listed:Array Bool} (he:edgesOk ops=true) (hsz:listed.size=ops.length):Region.ready .any ops.toArray listed=[]->∀i,i<ops.length->dn listed i=true:=by
 intro hr i
 induction i using Nat.strongRecOn with
 | _ i ih =>
   intro hi
   cases hd:dn listed i with
   | true=>rfl
   | false =>
     have ho:ops[i]?=some ops[i]:=by simp[hi]
     have:i ∈ Region.ready .any ops.toArray listed:=(ready_iff hsz).2 ⟨_,ho,hd,fun e hm=>ih e (edgesOk_iff he ho e hm) (by have:=edgesOk_iff he ho e hm;omega)⟩
     rw[hr]at this
     cases this
theorem wpAny_seg (hΓ:∀i op c b k,Γ i op c=some b->binInt op k (ρ i) k c=some (.bool b)) (hcall:CallOk P ρ call) {ops:List Oper} {base top i0 i1:Nat} {Q:Exit->Act->World->Prop} {xs:List Ent} {s0:PS}
 (he:edgesOk ops=true) (hsl:slotsOk ops=true) (hlog:okLog ops (logX xs 0 [])=true) (hlen:xs.length=i1) (hi1:i1<=ops.length) (hbar:i1=ops.length\/barOk ops i1=true)
 (hdst:∀(j:Nat) (o:Oper) (x:Ent),ops[j]?=some o->xs[j]?=some x->∀t,x.dst=some t->o.dst=some t)
 (hplan:∀j o x,i0<=j->ops[j]?=some o->xs[j]?=some x->Step P ρ Γ call ops o x (runS (fun _=>true) (xs.take j) 0 s0))
 (hrange:Ranges base xs top) (hbase:nx0<=base) (hdn:∀x ∈ xs,∀t,x.dst=some t->t<n)
 (hQ:∀fuel listed a' w' σ',listed.size=ops.length->(∀j,dn listed j=decide (j<i1))->cnt ops listed<=fuel->Sd ds ρ w0 σ0 M0 nx0 n (runS (fun _=>true) xs 0 s0) a' w' σ'->(∀k,top<=k->σ' k=none)->wpAnyIn (FW fr) 0 P .any ops.toArray Q fuel listed a' w') :
 ∀(fuel:Nat) (listed:Array Bool) (a:Act) (w:World) (σ:Sig),listed.size=ops.length->cnt ops listed<=fuel->(∀j,j<i0->dn listed j=true)->(∀j,i1<=j->dn listed j=false) ->
  Closed ops (dn listed)->Sd ds ρ w0 σ0 M0 nx0 n (runS (dn listed) xs 0 s0) a w σ->(∀k,base<=k->(∀(i:Nat) (x:Ent),xs[i]?=some x->dn listed i=true->¬ (x.lo<=k/\k<x.hi))->σ k=none) ->
  wpAnyIn (FW fr) 0 P .any ops.toArray Q fuel listed a w:=by
 intro fuel
 induction fuel with
 | zero =>
   intro listed a w σ hsz hcnt h0 h1 hcl hs hf
   have hall:∀j,dn listed j=decide (j<i1):=by
    intro j
    by_cases hj:j<i1
    ·cases hd:dn listed j with
     | true=>simp[hj]
     | false=>have:=cnt_pos (ops:=ops) (by omega) hd;omega
    ·rw[h1 j (by omega)];simp[hj]
   refine hQ 0 listed a w σ hsz hall hcnt ?_ fun k hk=>hf k (by have:=hrange.le;omega) fun i x hx _=>by have:=hrange.get hx;omega
   rw[<-runS_all (S:=dn listed) xs 0 s0 (fun j hj=>by rw[Nat.zero_add,hall];simp;omega)]
   exact hs
 | succ fuel ih =>
   intro listed a w σ hsz hcnt h0 h1 hcl hs hf
   by_cases hdone:∀j,j<i1->dn listed j=true
   ·have hall:∀j,dn listed j=decide (j<i1):=by
     intro j
     by_cases hj:j<i1
     ·rw[hdone j hj];simp[hj]
     ·rw[h1 j (by omega)];simp[hj]
    refine hQ _ listed a w σ hsz hall hcnt ?_ fun k hk=>hf k (by have:=hrange.le;omega) fun i x hx _=>by have:=hrange.get hx;omega
    rw[<-runS_all (S:=dn listed) xs 0 s0 (fun j hj=>by rw[Nat.zero_add,hall];simp;omega)]
    exact hs
   refine⟨fun hr=>(hdone fun j hj=>some_ready he hsz hr j (by omega)).elim,fun i hi=>?_⟩
   obtain⟨o,ho,hd,hpre⟩:=(ready_iff hsz).1 hi
   have hil:i<ops.length:=(List.getElem?_eq_some_iff.1 ho).1
   have dstOf:∀(j:Nat) (y:Ent) (o':Oper),xs[j]?=some y->ops[j]?=some o'->∀t,y.dst=some t->o'.dst=some t:=fun j y o' h1 h2=>hdst j o' y h2 h1
   have opOf:∀(j:Nat) (y:Ent),xs[j]?=some y->∃o',ops[j]?=some o':=fun j y h=>⟨ops[j]'(by have:=(List.getElem?_eq_some_iff.1 h).1;omega),by simp⟩
   have ahead:∀j,lmem (anc ops i) j=true->j=i\/dn listed j=true:=fun j hj=>anc_closed hcl (fun o' ho' e hm=>by rw[ho]at ho';cases ho';exact hpre e hm) hj
   have hii:i<i1:=by
    refine Nat.lt_of_not_le fun hle=>hdone fun j hj=>?_
    rcases hbar with hb | hb
    ·omega
    ·rcases ahead j (barOk_iff hb hil hle hj) with h | h
     ·omega
     ·exact h
   obtain⟨x,hx⟩:∃x,xs[i]?=some x:=⟨xs[i],by simp[hlen,hii]⟩
   have hi0:i0<=i:=Nat.le_of_not_lt fun h=>by rw[h0 i h]at hd;cases hd
   have behind:∀j,dn listed j=true->lmem (anc ops j) i=true->j=i:=fun j hj hn=>by
    rcases anc_closed (j:=j) hcl (fun o' ho'=>hcl j o' ho' hj) hn with h | h
    ·exact h.symm
    ·rw[hd]at h;cases h
   have clashed:∀(j:Nat) (y:Ent) (o':Oper),xs[j]?=some y->ops[j]?=some o'->j≠i->(j<i->clash ops o' o=true)->(i<j->clash ops o o'=true)->dn listed j=decide (j<i):=by
    intro j y o' hj ho' hne c1 c2
    by_cases hlt:j<i
    ·rcases ahead j (slotsOk_iff hsl ho' ho hlt (c1 hlt)) with h | h
     ·exact(hne h).elim
     ·rw[h];simp[hlt]
    ·cases hS:dn listed j with
     | false=>simp[hlt]
     | true=>exact(hne (behind j hS (slotsOk_iff hsl ho ho' (by omega) (c2 (by omega))))).elim
   have keyed:∀(j:Nat) (y:Ent),xs[j]?=some y->j≠i->¬ apartL (if j<i then (i,x.rd,ukeys x.upd) else (j,y.rd,ukeys y.upd)) (if j<i then (j,y.rd,ukeys y.upd) else (i,x.rd,ukeys x.upd))->dn listed j=decide (j<i):=by
    intro j y hj hne hap
    by_cases hlt:j<i
    ·rw[if_pos hlt,if_pos hlt]at hap
     have:=logX_pair xs 0 [] hlog j i y x hj hx hlt
     simp only[Nat.zero_add]at this
     rcases this with h | h | h
     ·exact(hap h).elim
     ·have hlow:i<=j:=by
       obtain⟨o',ho'⟩:=opOf j y hj
       have hc:Closed ops (fun e=>decide (e<j)):=fun i' o2 ho2 h2 e hm=>by
        have:=edgesOk_iff he ho2 e hm
        simp at h2 ⊢;omega
       rcases anc_closed (j:=j) hc (fun o2 ho2 e hm=>by have:=edgesOk_iff he ho2 e hm;simpa using this) h with h | h
       ·omega
       ·simp at h;omega
      omega
     ·rcases ahead j h with h | h
      ·exact(hne h).elim
      ·rw[h];simp[hlt]
    ·rw[if_neg hlt,if_neg hlt]at hap
     have:=logX_pair xs 0 [] hlog i j x y hx hj (by omega)
     simp only[Nat.zero_add]at this
     cases hS:dn listed j with
     | false=>simp[hlt]
     | true =>
       rcases this with h | h | h
       ·exact(hap h).elim
       ·rcases ahead j h with h | h
        ·exact(hne h).elim
        ·have hc:Closed ops (fun e=>decide (e<i)):=fun i' o2 ho2 h2 e hm=>by
          have:=edgesOk_iff he ho2 e hm
          simp at h2 ⊢;omega
         rcases anc_closed (j:=i) hc (fun o2 ho2 e hm=>by have:=edgesOk_iff he ho2 e hm;simpa using this) ‹_› with h | h
         ·omega
         ·simp at h;omega
       ·exact(hne (behind j hS h)).elim
   have hst:Step P ρ Γ call ops o x (runS (dn listed) xs 0 s0):=by
    have h0:=hplan i o x hi0 ho hx
    rw[runS_take]at h0
    refine h0.move (fun t ht=>?_) fun k hk=>?_
    ·refine runS_slot xs 0 _ _ rfl fun j y hj hy=>?_
     rw[Nat.zero_add]
     by_cases hji:j=i
     ·subst hji;rw[hd];simp
     ·obtain⟨o',ho'⟩:=opOf j y hj
      have hy:=dstOf j y o' hj ho' t hy
      exact clashed j y o' hj ho' hji (fun _=>clash_of hy ht) fun _=>clash_of' hy ht
    ·refine runS_key xs 0 _ _ rfl fun j y hj hy=>?_
     rw[Nat.zero_add]
     by_cases hji:j=i
     ·subst hji;rw[hd];simp
     ·refine keyed j y hj hji fun hap=>?_
      by_cases hlt:j<i
      ·rw[if_pos hlt,if_pos hlt]at hap
       exact hap.2 k hy hk
      ·rw[if_neg hlt,if_neg hlt]at hap
       exact(hap.1 k hy).1 hk
   have hri:=hrange.get hx
   refine Step.run hΓ hcall ho hst hs (hdn x (List.mem_of_getElem? hx)) (by omega) (fun k h1 h2=>?_) fun a' w' σ' hs' hσ=>?_
   ·refine hf k (by omega) fun j y hj hS hjk=>?_
    have:j=i:=by
     rcases Nat.lt_trichotomy j i with h | h | h
     ·have:=hrange.apart hj hx h;omega
     ·exact h
     ·have:=hrange.apart hx hj h;omega
    subst this
    rw[hd]at hS;cases hS
   ·obtain⟨r1,r2⟩:=runS_add (s:=s0) hx hd (fun j y hj hij hS t h1 h2=>by
     obtain⟨o',ho'⟩:=opOf j y hj
     have h2:=dstOf j y o' hj ho' t h2
     have h1:=dstOf i x o hx ho t h1
     have:=behind j hS (slotsOk_iff hsl ho ho' hij (clash_dst h1 h2))
     omega) fun j y hj hij hS k h1 h2=>by
      have:=keyed j y hj (by omega) fun hap=>by
       rw[if_neg (by omega),if_neg (by omega)]at hap
       exact(hap.1 k h2).2 h1
      rw[hS]at this
      simp at this
      omega
    have hdn:dn (listed.setIfInBounds i true)=fun j=>dn listed j||decide (j=i):=funext fun j=>dn_set (by omega) j
    have hS':∀j,dn (listed.setIfInBounds i true) j=true ↔ (dn listed j=true\/j=i):=fun j=>by rw[hdn];simp
    refine ih (listed.setIfInBounds i true) a' w' σ' (by simp[hsz]) ?_ ?_ ?_ ?_ ?_ ?_
    ·have:=cnt_set hsz hil hd
     omega
    ·intro j hj
     exact(hS' j).2 (.inl (h0 j hj))
    ·intro j hj
     rw[hdn]
     simp only[h1 j hj,Bool.false_or,decide_eq_false_iff_not]
     omega
    ·intro j o' ho' hj e hm
     rcases(hS' j).1 hj with h | rfl
     ·exact(hS' e).2 (.inl (hcl j o' ho' h e hm))
     ·rw[ho]at ho'
      cases ho'
      exact(hS' e).2 (.inl (hpre e hm))
    ·rw[hdn]
     exact hs'.congr r1 r2
    ·intro k hk hno
     rcases hσ k with h | h
     ·rw[h]
      exact hf k hk fun j y hj hjS=>hno j y hj ((hS' j).2 (.inl hjS))
     ·exact(hno i x hx ((hS' i).2 (.inr rfl)) h).elim
end
end
end Go.Xs
namespace Go.Xs
noncomputable section
def g0:Facts:=fun _ _ _=>none
def nc:CallF:=fun _ _ _ _=>none
theorem nc_ok {P:Program} {ρ:Rho}:CallOk P ρ nc:=fun _ _ _ _ _ h=>by cases h
theorem g0_ok {ρ:Rho}:∀i op c b k,g0 i op c=some b->binInt op k (ρ i) k c=some (.bool b):=fun _ _ _ _ _ h=>by cases h
def OX (P:Program) (ρ:Rho) (env:Env) (M:Hp) (nx:Nat) (o:Op) (K:Out->Prop):Prop :=
 (∃e,xop P g0 env M nx o=some e/\K (e.val,happ M e.upd,nx+1)) \/
 (∃c g args R,o = .call c/\calleeX env c=some (g,args)/\FOk P ρ g args M nx R/\∀r,R r->K r) \/
 (∃c g args e hi,o = .call c/\calleeX env c=some (g,args)/\Csem P ρ g args M nx e hi/\K (e.val,happ M e.upd,hi)) \/
 (∃it L,ρ.det=false/\o = .next it false/\nextX M (opv env it)=some L/\∀e ∈ L,K (e.val,happ M e.upd,nx+1))
def RN (P:Program) (ρ:Rho) (n:Nat) (all:List Oper):List Oper->XS->(XS->Prop)->Prop
 | [],s,Q=>Q s
 | o::os,s,Q=>match guardX all s.env o.guard with
   | none=>False
   | some false=>∃env,putX n s.env o.dst .udf=some env/\RN P ρ n all os ⟨env,s.M,s.nx⟩ Q
   | some true=>OX P ρ s.env s.M s.nx o.op fun r=>∃env,putX n s.env o.dst r.1=some env/\RN P ρ n all os ⟨env,r.2.1,r.2.2⟩ Q
def RD (P:Program) (ρ:Rho) (n:Nat) (all:List Oper):List Oper->Nat->XS->Log->(XS->Log->Prop)->Prop
 | [],_,s,log,F=>F s log
 | o::os,i,s,log,F=>match guardX all s.env o.guard with
   | none=>False
   | some false=>∃env,putX n s.env o.dst .udf=some env/\RD P ρ n all os (i+1) ⟨env,s.M,s.nx⟩ log F
   | some true=>(∃e hi env,(opD P g0 nc s.env s.M s.nx o.op=some (e,hi)\/∃c g args,o.op = .call c/\calleeX s.env c=some (g,args)/\Csem P ρ g args s.M s.nx e hi)/\s.nx<=hi /\
      putX n s.env o.dst e.val=some env/\RD P ρ n all os (i+1) ⟨env,happ s.M e.upd,hi⟩ (logOf i e log) F) \/
     (barOk all i=true/\barOk all (i+1)=true/\okLog all log=true/\∃c g args R,o.op = .call c/\calleeX s.env c=some (g,args)/\FOk P ρ g args s.M s.nx R /\
       ∀r,R r->∃env,putX n s.env o.dst r.1=some env/\RD P ρ n all os (i+1) ⟨env,r.2.1,r.2.2⟩ [] F)
def endD (ops:List Oper) (Q:XS->Prop) (s:XS) (log:Log):Prop:=okLog ops log=true/\Q s
def inB (id:Nat):AExit->AExit
 | .exit i=>match Nat.beq i id with | true=>.normal | false=>.exit i
 | e=>e
def seqK (f:XS->Prop) (K:AExit->XS->Prop):AExit->XS->Prop
 | .normal,s=>f s
 | e,s=>K e s
def loopK (I:Nat->XS->Prop) (k:Nat) (K:AExit->XS->Prop):AExit->XS->Prop
 | .normal,s=>∃j,j<k/\I j s
 | e,s=>K e s
def wx (P:Program) (ρ:Rho) (n:Nat):Code->(AExit->XS->Prop)->XS->Prop
 | .skip,K,s=>K .normal s
 | .ret,K,s=>K .ret s
 | .exit id,K,s=>K (.exit id) s
 | .seq a b,K,s=>wx P ρ n a (seqK (wx P ρ n b K) K) s
 | .block id c,K,s=>wx P ρ n c (fun e s'=>K (inB id e) s') s
 | .cond c a b,K,s=>∃v,opv s.env c = .bool v/\(v=true->wx P ρ n a K s)/\(v=false->wx P ρ n b K s)
 | .loop c,K,s=>∃I:Nat->XS->Prop,(∃k,I k s)/\∀k s',I k s'->wx P ρ n c (loopK I k K) s'
 | .region _ ops draw,K,s=>match draw with
   | false=>RN P ρ n ops.toList ops.toList s (K .normal)
   | true=>edgesOk ops.toList=true/\slotsOk ops.toList=true/\RD P ρ n ops.toList ops.toList 0 s [] (endD ops.toList (K .normal))
 | _,_,_=>False
section
variable {P:Program} {a:Act} {w w' w0:World} {ρ:Rho} {σ σ' σ0:Sig} {M N M' M0:Hp} {env env':Env} {ds:List Deferred} {nx nx0 n:Nat}
theorem OX_ok {o:Oper} {fr:Option Nat} (hok:Ok ρ w σ M) (henv:EnvR ρ σ env a.tmps) (hfree:∀k,nx<=k->σ k=none) {R:Out->Prop} (h:OX P ρ env M nx o.op R)
 (K:Act->World->Prop) (Q:Exit->Act->World->Prop) (hK:∀v w',(∃r,R r/\CPost ρ w σ M nx r v w')->K (a.put o.dst v) w'):o.wpIn (FW fr) 0 P a w K Q:=by
 rcases h with ⟨e,he,hr⟩ | ⟨c,g,args,R',hop,hc,hF,hR⟩ | ⟨c,g,args,e,hi,hop,hc,hF,hR⟩ | ⟨it,L,_,hop,hL,hR⟩
 ·exact opIn (xop_nd he) (xop_ok g0_ok hok henv (hfree nx (Nat.le_refl _)) he K Q fun v w' hp=>hK v w' ⟨_,hr,.of hfree hp⟩)
 ·obtain⟨vs,h1,h2⟩:=callee_run (P:=P) (w:=w) henv hop hc
  refine opIn (fun c' hc'=>by rw[hop]at hc';cases hc') ?_
  unfold Oper.wp
  rw[h2]
  exact hF.1 w σ vs hok hfree h1 o a K Q fun v w' ⟨r,hr,hp⟩=>hK v w' ⟨r,hR r hr,hp⟩
 ·obtain⟨vs,h1,h2⟩:=callee_run (P:=P) (w:=w) henv hop hc
  refine opIn (fun c' hc'=>by rw[hop]at hc';cases hc') ?_
  unfold Oper.wp
  rw[h2]
  exact hF.run hok (fun k hk _=>hfree k hk) h1 K Q fun v w' hp=>hK v w' ⟨_,hR,hp⟩
 ·obtain⟨e,he,r,w',h1,h2⟩:=next_ok (P:=P) (key:=nx) (ty:=o.type) hok hL (opv_ok henv it)
  refine opIn (fun c' hc'=>by rw[hop]at hc';cases hc') ?_
  exact Does.made (s:=Instr.next (a.eval it) false o.type) (by simp only[execOp,hop]) h1 (⟨_,hR e he,.of hfree h2⟩:∃r',R r'/\CPost ρ w σ M nx r' r w') K Q hK
theorem RN_ok {all:List Oper} {fr:Option Nat} {Q:Exit->Act->World->Prop} {F:XS->Prop} :
 ∀(os:List Oper) (s:XS) (a:Act) (w:World) (σ:Sig),RN P ρ n all os s F->St ds ρ w0 σ0 M0 nx0 n s a w σ ->
  (∀s' a' w' σ',F s'->St ds ρ w0 σ0 M0 nx0 n s' a' w' σ'->Q .normal a' w')->wpListIn (FW fr) 0 P all.toArray Q os a w
 | [],s,a,w,σ,h,hs,hQ=>hQ s a w σ h hs
 | o::os,s,a,w,σ,h,hs,hQ=>by
   unfold RN at h
   unfold wpListIn
   split at h<;>rename_i hg
   ·exact h.elim
   ·rw[guard_ok hs.envr hg]
    rw[if_neg (by simp)]
    obtain⟨env',he,h⟩:=h
    exact⟨fun f _=>FW_fn fr f,RN_ok os _ _ w σ h (hs.skip he) hQ⟩
   ·rw[guard_ok hs.envr hg,if_pos rfl]
    refine OX_ok hs.ok hs.envr hs.free h _ _ fun v w' ⟨r,⟨env',he,h'⟩,hp⟩=>?_
    obtain⟨σ',hs'⟩:=hs.step hp he
    exact RN_ok os _ _ w' σ' h' hs' hQ
theorem ids_run (lo:Nat):∀(k:Nat) (xs:List Ent) (i:Nat) (s:PS) (S:Nat->Bool),runS S (List.replicate k ⟨none,.udf,[],[],lo,lo⟩++xs) i s=runS S xs (i+k) s
 | 0,_,_,_,_=>rfl
 | k+1,xs,i,s,S=>by
   simp only[List.replicate_succ,List.cons_append,runS]
   rw[ids_run lo k xs (i+1),show i+1+k=i+(k+1) by omega]
   congr 1
   split<;>rfl
theorem ids_log (lo:Nat):∀(k:Nat) (xs:List Ent) (i:Nat) (l:Log),logX (List.replicate k ⟨none,.udf,[],[],lo,lo⟩++xs) i l=logX xs (i+k) l
 | 0,_,_,_=>rfl
 | k+1,xs,i,l=>by
   simp only[List.replicate_succ,List.cons_append,logX]
   rw[ids_log lo k xs (i+1),show i+1+k=i+(k+1) by omega]
   rfl
theorem ids_range (lo:Nat) {xs:List Ent} {hi:Nat} (h:Ranges lo xs hi):∀(k:Nat),Ranges lo (List.replicate k ⟨none,.udf,[],[],lo,lo⟩++xs) hi
 | 0=>h
 | k+1=>⟨rfl,Nat.le_refl _,ids_range lo h k⟩
theorem RD_plan {all:List Oper} {F:XS->Log->Prop}:∀(os:List Oper) (i:Nat) (s:XS) (log:Log),RD P ρ n all os i s log F ->
 ∃(s':XS) (log':Log) (xs:List Ent),(s'.env,s'.M)=runS (fun _=>true) xs i (s.env,s.M)/\log'=logX xs i log/\Ranges s.nx xs s'.nx/\(∀x ∈ xs,∀t,x.dst=some t->t<n) /\
  (∀j o x,os[j]?=some o->xs[j]?=some x->Step P ρ g0 nc all o x (runS (fun _=>true) (xs.take j) i (s.env,s.M))) /\
  ((xs.length=os.length/\F s' log')\/∃o os',os.drop xs.length=o::os'/\guardX all s'.env o.guard=some true/\barOk all (i+xs.length)=true/\barOk all (i+xs.length+1)=true/\okLog all log'=true /\
   ∃c g args R,o.op = .call c/\calleeX s'.env c=some (g,args)/\FOk P ρ g args s'.M s'.nx R/\∀r,R r->∃env,putX n s'.env o.dst r.1=some env/\RD P ρ n all os' (i+xs.length+1) ⟨env,r.2.1,r.2.2⟩ [] F)
 | [],i,s,log,h=>⟨s,log,[],rfl,rfl,rfl,by simp,(fun j o x h=>by simp at h),.inl ⟨rfl,h⟩⟩
 | o::os,i,s,log,h=>by
   have mk:∀(x:Ent) (s1:XS) (log1:Log),Step P ρ g0 nc all o x (s.env,s.M)->(s1.env,s1.M)=x.app (s.env,s.M)->log1=logOf i ⟨.un,x.rd,x.upd⟩ log->x.lo=s.nx->x.hi=s1.nx->x.lo<=x.hi->(∀t,x.dst=some t->t<n) ->
    RD P ρ n all os (i+1) s1 log1 F ->
    ∃(s':XS) (log':Log) (xs:List Ent),(s'.env,s'.M)=runS (fun _=>true) xs i (s.env,s.M)/\log'=logX xs i log/\Ranges s.nx xs s'.nx/\(∀x ∈ xs,∀t,x.dst=some t->t<n) /\
     (∀j o' x,(o::os)[j]?=some o'->xs[j]?=some x->Step P ρ g0 nc all o' x (runS (fun _=>true) (xs.take j) i (s.env,s.M))) /\
     ((xs.length=(o::os).length/\F s' log')\/∃o' os',(o::os).drop xs.length=o'::os'/\guardX all s'.env o'.guard=some true/\barOk all (i+xs.length)=true/\barOk all (i+xs.length+1)=true/\okLog all log'=true /\
      ∃c g args R,o'.op = .call c/\calleeX s'.env c=some (g,args)/\FOk P ρ g args s'.M s'.nx R/\∀r,R r->∃env,putX n s'.env o'.dst r.1=some env/\RD P ρ n all os' (i+xs.length+1) ⟨env,r.2.1,r.2.2⟩ [] F):=by
    intro x s1 log1 hst h1 h2 h3 h4 h5 h6 h7
    obtain⟨s',log',xs,g3,g4,g5,g6,g7,gF⟩:=RD_plan os (i+1) s1 log1 h7
    refine⟨s',log',x::xs,?_,?_,⟨h3,h5,by rw[h4];exact g5⟩,fun y hy=>?_,fun j o' x' hj hx=>?_,?_⟩
    ·rw[g3,h1];rfl
    ·rw[g4,h2];rfl
    ·rcases List.mem_cons.1 hy with rfl | hy
     ·exact h6
     ·exact g6 y hy
    ·cases j with
     | zero =>
       simp only[List.getElem?_cons_zero,Option.some.injEq]at hj hx
       subst hj hx
       exact hst
     | succ j =>
       simp only[List.getElem?_cons_succ]at hj hx
       have:=g7 j o' x' hj hx
       rw[h1]at this
       exact this
    ·rcases gF with ⟨q1,q2⟩ | ⟨o',os',q1,q2,q3,q4,q5⟩
     ·exact .inl ⟨by simp[q1],q2⟩
     ·rw[show i+1+xs.length=i+(xs.length+1) by omega]at q3 q4 q5
      exact .inr ⟨o',os',by simpa using q1,q2,q3,q4,q5⟩
   unfold RD at h
   split at h<;>rename_i hg
   ·exact h.elim
   ·obtain⟨env',he,h⟩:=h
    obtain⟨rfl,e2⟩:=putX_eq he
    exact mk ⟨o.dst,.udf,[],[],s.nx,s.nx⟩ ⟨setE s.env o.dst .udf,s.M,s.nx⟩ log ⟨rfl,.inr ⟨hg,rfl,rfl,rfl,rfl⟩⟩ rfl rfl rfl rfl (Nat.le_refl _) e2 h
   ·rcases h with ⟨e,hi,env',hop,hle,he,h⟩ | ⟨b1,b2,b3,h⟩
    ·obtain⟨rfl,e2⟩:=putX_eq he
     exact mk ⟨o.dst,e.val,e.rd,e.upd,s.nx,hi⟩ ⟨setE s.env o.dst e.val,happ s.M e.upd,hi⟩ (logOf i e log) ⟨rfl,.inl ⟨hg,e,hop,rfl,rfl,rfl⟩⟩ rfl rfl rfl rfl hle e2 h
    ·exact⟨s,log,[],rfl,rfl,rfl,by simp,(fun j o x _ h=>by simp at h),.inr ⟨o,os,rfl,hg,b1,b2,b3,h⟩⟩
theorem RD_ok {all:List Oper} {F:XS->Prop} {fr:Option Nat} {Q:Exit->Act->World->Prop} (he:edgesOk all=true) (hsl:slotsOk all=true) :
 ∀(m:Nat) (os:List Oper) (i:Nat) (s:XS),os.length<=m->all.drop i=os->i<=all.length->(i=0\/barOk all i=true)->RD P ρ n all os i s [] (endD all F) ->
  ∀(fuel:Nat) (listed:Array Bool) (a:Act) (w:World) (σ:Sig),listed.size=all.length->(∀j,dn listed j=decide (j<i))->cnt all listed<=fuel->St ds ρ w0 σ0 M0 nx0 n s a w σ ->
   (∀s' a' w' σ',F s'->St ds ρ w0 σ0 M0 nx0 n s' a' w' σ'->Q .normal a' w')->wpAnyIn (FW fr) 0 P .any all.toArray Q fuel listed a w:=by
 intro m
 induction m with
 | zero =>
   intro os i s hm hos hil _ h fuel listed a w σ hsz hdn hcnt hs hQ
   have hi:i=all.length:=by
    have:(all.drop i).length=0:=by rw[hos];omega
    rw[List.length_drop]at this;omega
   have h0:os=[]:=List.length_eq_zero_iff.1 (by omega)
   subst h0
   obtain⟨_,hF⟩:=h
   have hr:Region.ready .any all.toArray listed=[]:=by
    cases hr:Region.ready .any all.toArray listed with
    | nil=>rfl
    | cons k l =>
      have:k ∈ Region.ready .any all.toArray listed:=by rw[hr];exact List.mem_cons_self
      obtain⟨o,ho,h1,_⟩:=(ready_iff hsz).1 this
      have:=(List.getElem?_eq_some_iff.1 ho).1
      rw[hdn,decide_eq_false_iff_not]at h1
      omega
   have hn:Q .normal a w:=hQ s a w σ hF hs
   cases fuel with
   | zero=>exact⟨hr,hn⟩
   | succ fuel=>exact⟨fun _=>hn,fun k hk=>by rw[hr]at hk;cases hk⟩
 | succ m ih =>
   intro os i s hm hos hil hbar h fuel listed a w σ hsz hdn hcnt hs hQ
   obtain⟨s',log,xs,hrun,hlog,hrange,hdt,hplan,hend⟩:=RD_plan os i s [] h
   have hol:os.length=all.length - i:=by rw[<-hos,List.length_drop]
   have hxl:xs.length<=os.length:=by
    rcases hend with ⟨q,_⟩ | ⟨o,os',q,_⟩
    ·omega
    ·refine Nat.le_of_not_lt fun hlt=>?_
     rw[List.drop_eq_nil_of_le (by omega)]at q
     cases q
   have hok:okLog all log=true:=by
    rcases hend with ⟨_,q⟩ | ⟨o,os',_,_,_,_,q,_⟩
    ·exact q.1
    ·exact q
   have hys:∀(j:Nat) (x:Ent),(List.replicate i (⟨none,.udf,[],[],s.nx,s.nx⟩:Ent)++xs)[j]?=some x->(j<i/\x=⟨none,.udf,[],[],s.nx,s.nx⟩)\/(i<=j/\xs[j - i]?=some x):=by
    intro j x hj
    by_cases hji:j<i
    ·rw[List.getElem?_append_left (by simpa using hji)]at hj
     rw[List.getElem?_replicate,if_pos hji]at hj
     cases hj
     exact .inl ⟨hji,rfl⟩
    ·rw[List.getElem?_append_right (by simp;omega),List.length_replicate]at hj
     exact .inr ⟨by omega,hj⟩
   have hos':∀j,all[i+j]?=os[j]?:=fun j=>by rw[<-hos,List.getElem?_drop]
   rw[hlog]at hok
   have hQ':∀fuel listed a' w' σ',listed.size=all.length->(∀j,dn listed j=decide (j<i+xs.length))->cnt all listed<=fuel->Sd ds ρ w0 σ0 M0 nx0 n (runS (fun _=>true) (List.replicate i ⟨none,.udf,[],[],s.nx,s.nx⟩++xs) 0 (s.env,s.M)) a' w' σ'->(∀k,s'.nx<=k->σ' k=none)->wpAnyIn (FW fr) 0 P .any all.toArray Q fuel listed a' w':=by
    intro fuel listed a' w' σ' hsz hdn hcnt hsd hfr
    rw[ids_run,Nat.zero_add,<-hrun]at hsd
    have hst:St ds ρ w0 σ0 M0 nx0 n s' a' w' σ':=⟨hsd.envr,hsd.size,hsd.ok,hfr,hsd.ext,Nat.le_trans hs.le hrange.le,hsd.old,hsd.def0⟩
    rcases hend with ⟨hl,hF⟩ | ⟨o,os',hd,hg,b1,b2,_,c,g,args,R,hop,hc,hFk,hR⟩
    ·have hi:i+xs.length=all.length:=by omega
     have hr:Region.ready .any all.toArray listed=[]:=by
      cases hr:Region.ready .any all.toArray listed with
      | nil=>rfl
      | cons k l =>
        have:k ∈ Region.ready .any all.toArray listed:=by rw[hr];exact List.mem_cons_self
        obtain⟨o,ho,h1,_⟩:=(ready_iff hsz).1 this
        have:=(List.getElem?_eq_some_iff.1 ho).1
        rw[hdn,decide_eq_false_iff_not]at h1
        omega
     have hn:Q .normal a' w':=hQ s' a' w' σ' hF.2 hst
     cases fuel with
     | zero=>exact⟨hr,hn⟩
     | succ fuel=>exact⟨fun _=>hn,fun k hk=>by rw[hr]at hk;cases hk⟩
    ·have hlt:i+xs.length<all.length:=by
      have:(os.drop xs.length).length=os'.length+1:=by rw[hd];rfl
      rw[List.length_drop]at this;omega
     have hoi:all[i+xs.length]?=some o:=by
      rw[hos']
      have:(os.drop xs.length)[0]?=some o:=by rw[hd];rfl
      rw[List.getElem?_drop]at this
      exact this
     have hnd:dn listed (i+xs.length)=false:=by rw[hdn];simp
     cases fuel with
     | zero=>have:=cnt_pos hlt hnd;omega
     | succ fuel =>
       refine⟨fun hr=>?_,fun k hk=>?_⟩
       ·have:=some_ready he hsz hr _ hlt
        rw[hnd]at this;cases this
       ·obtain⟨o1,ho1,hd1,hpre⟩:=(ready_iff hsz).1 hk
        have hkl:=(List.getElem?_eq_some_iff.1 ho1).1
        have hcl:Closed all (dn listed):=fun j o2 ho2 h2 e hm=>by
         have:=edgesOk_iff he ho2 e hm
         rw[hdn,decide_eq_true_eq]at h2 ⊢
         omega
        have hki:k=i+xs.length:=by
         rw[hdn,decide_eq_false_iff_not]at hd1
         refine Nat.le_antisymm (Nat.le_of_not_lt fun hlt2=>?_) (by omega)
         rcases anc_closed hcl (fun o2 ho2 e hm=>by rw[ho1]at ho2;cases ho2;exact hpre e hm) (barOk_iff b2 hkl (by omega) (Nat.lt_succ_self _)) with h | h
         ·omega
         ·rw[hnd]at h;cases h
        subst hki
        rw[hoi]at ho1
        cases ho1
        unfold wpOpIn
        simp only[List.getElem?_toArray,hoi]
        rw[guard_ok hst.envr hg,if_pos rfl]
        obtain⟨vs,h1,h2⟩:=callee_run (P:=P) (w:=w') hst.envr hop hc
        refine opIn (fun c' hc'=>by rw[hop]at hc';cases hc') ?_
        unfold Oper.wp
        rw[h2]
        refine hFk.1 w' σ' vs hst.ok hst.free h1 _ _ _ _ fun v w2 ⟨r,hr,hp⟩=>?_
        obtain⟨env',hput,hrd⟩:=hR r hr
        obtain⟨σ2,hs2⟩:=hst.step hp hput
        have hdn2:dn (listed.setIfInBounds (i+xs.length) true)=fun j=>dn listed j||decide (j=i+xs.length):=funext fun j=>dn_set (by omega) j
        refine ih os' (i+xs.length+1) ⟨env',r.2.1,r.2.2⟩ ?_ ?_ (by omega) (.inr b2) hrd fuel _ _ _ σ2 (by simp[hsz]) (fun j=>?_) ?_ hs2 hQ
        ·have:(os.drop xs.length).length=os'.length+1:=by rw[hd];rfl
         rw[List.length_drop]at this;omega
        ·rw[<-hos,List.drop_drop]at hd
         rw[show i+xs.length+1=(i+xs.length)+1 from rfl,<-List.drop_drop,hd]
         rfl
        ·rw[hdn2]
         simp only[hdn]
         rw[Bool.eq_iff_iff]
         simp
         omega
        ·have:=cnt_set hsz hlt hnd
         omega
   refine wpAny_seg (i0:=i) (i1:=i+xs.length) (s0:=(s.env,s.M)) (xs:=List.replicate i ⟨none,.udf,[],[],s.nx,s.nx⟩++xs) g0_ok nc_ok he hsl (by rw[ids_log,Nat.zero_add];exact hok) (by simp) (by omega) ?_ (fun j o x ho hx t ht=>?_) (fun j o x hij ho hx=>?_) (ids_range s.nx hrange i) hs.le (fun x hx t ht=>?_) hQ'
    fuel listed a w σ hsz hcnt (fun j hj=>by rw[hdn];simp[hj]) (fun j hj=>by rw[hdn];simp;omega) (fun j o2 ho2 h2 e hm=>by
     have:=edgesOk_iff he ho2 e hm
     rw[hdn,decide_eq_true_eq]at h2 ⊢
     omega) ?_ (fun k hk _=>hs.free k hk)
   ·rcases hend with ⟨q,_⟩ | ⟨o,os',_,_,q,_⟩
    ·left;omega
    ·right;exact q
   ·rcases hys j x hx with ⟨_,rfl⟩ | ⟨hij,hx⟩
    ·cases ht
    ·have ho':os[j - i]?=some o:=by rw[<-hos',show i+(j - i)=j by omega];exact ho
     have:=(hplan (j - i) o x ho' hx).1
     rw[<-this];exact ht
   ·rcases hys j x hx with ⟨h,_⟩ | ⟨hij,hx⟩
    ·omega
    ·have ho':os[j - i]?=some o:=by rw[<-hos',show i+(j - i)=j by omega];exact ho
     have:=hplan (j - i) o x ho' hx
     rw[List.take_append,List.length_replicate,List.take_replicate,Nat.min_eq_right (by omega),ids_run,Nat.zero_add]
     exact this
   ·rcases List.mem_append.1 hx with hx | hx
    ·rw[List.eq_of_mem_replicate hx]at ht;cases ht
    ·exact hdt x hx t ht
   ·rw[ids_run,runS_none]
    ·exact⟨hs.envr,hs.size,hs.ok,hs.ext,hs.old,hs.def0⟩
    ·intro j _
     rw[hdn];simp
theorem reg_ok (hp:P.follows .mixedOrders=true) {ops:Array Oper} {id:Nat} {draw:Bool} {s:XS} {fr:Option Nat} {F:XS->Prop} {Qm:Exit->Act->World->Prop}
 (h:match draw with
   | false=>RN P ρ n ops.toList ops.toList s F
   | true=>edgesOk ops.toList=true/\slotsOk ops.toList=true/\RD P ρ n ops.toList ops.toList 0 s [] (endD ops.toList F)) (hs:St ds ρ w0 σ0 M0 nx0 n s a w σ)
 (hQ:∀s' a' w' σ',F s'->St ds ρ w0 σ0 M0 nx0 n s' a' w' σ'->Qm .normal a' w'):(Code.region id ops draw).wpIn (FW fr) 0 P Qm a w:=by
 cases draw with
 | false =>
   refine wpIn_region_list ?_
   have:=RN_ok (fr:=fr) (Q:=Qm) ops.toList s a w σ h hs hQ
   simpa using this
 | true =>
   obtain⟨he,hsl,h⟩:=h
   refine wpIn_region_any hp ?_
   have hs1:St ds ρ w0 σ0 M0 nx0 n s a { w with drawn:=w.drawn+1 } σ :=
    ⟨hs.envr,hs.size,Ok.heap (w:=w) (w1:={ w with drawn:=w.drawn+1 }) rfl hs.ok,hs.free,⟨hs.ext.os,hs.ext.tape,hs.ext.output,hs.ext.size,hs.ext.blk,hs.ext.own,hs.ext.sig,hs.ext.held⟩,hs.le,hs.old,hs.def0⟩
   have:=RD_ok (fr:=fr) (Q:=Qm) he hsl ops.toList.length ops.toList 0 s (Nat.le_refl _) rfl (by simp) (.inl rfl) h ops.size (Array.replicate ops.size false) a { w with drawn:=w.drawn+1 } σ (by simp)
    (fun j=>by simp[dn,Array.getD_eq_getD_getElem?,Array.getElem?_replicate];split<;>rfl) (Nat.le_trans (List.length_filter_le _ _) (by simp)) hs1 hQ
   simpa using this
theorem wx_ok (hp:P.follows .mixedOrders=true) {fr:Option Nat} {B:Nat}:∀(c:Code) (K:AExit->XS->Prop) (s:XS) (a:Act) (w:World) (σ:Sig),wx P ρ n c K s->Sm ρ B w0 σ0 M0 nx0 n s a w σ ->
 ∀Qm:Exit->Act->World->Prop,(∀e s' a' w' σ',K e s'->Sm ρ B w0 σ0 M0 nx0 n s' a' w' σ'->Qm e.to a' w')->c.wpIn (FW fr) 0 P Qm a w:=by
 intro c
 induction c with
 | skip=>intro K s a w σ h hs Qm hQ;exact wpIn_skip (hQ .normal s a w σ h hs)
 | ret=>intro K s a w σ h hs Qm hQ;exact wpIn_ret (hQ .ret s a w σ h hs)
 | exit id=>intro K s a w σ h hs Qm hQ;exact wpIn_exit (hQ (.exit id) s a w σ h hs)
 | region id ops draw =>
   intro K s a w σ h ⟨ds,hs,hk⟩ Qm hQ
   exact reg_ok hp h hs.rebase fun s' a' w' σ' hF hst=>hQ .normal s' a' w' σ' hF ⟨ds,hs.join hst,hk.ext hst.ext⟩
 | seq x y ihx ihy =>
   intro K s a w σ h hs Qm hQ
   refine wpIn_seq (ihx _ s a w σ h hs _ fun e s' a' w' σ' hK hst=>?_)
   cases e with
   | normal=>exact ihy K s' a' w' σ' hK hst Qm hQ
   | exit id=>exact hQ (.exit id) s' a' w' σ' hK hst
   | ret=>exact hQ .ret s' a' w' σ' hK hst
 | cond c x y ihx ihy =>
   intro K s a w σ h hs Qm hQ
   obtain⟨b,hb,h1,h2⟩:=h
   have hv:VR ρ σ (opv s.env c) (a.eval c):=let ⟨_,hst,_⟩:=hs;opv_ok hst.envr c
   rw[hb]at hv
   simp only[VR]at hv
   exact wpIn_cond_split hv (fun e=>ihx K s a w σ (h1 e) hs Qm hQ) fun e=>ihy K s a w σ (h2 e) hs Qm hQ
 | block id c ih =>
   intro K s a w σ h hs Qm hQ
   refine wpIn_block (ih _ s a w σ h hs _ fun e s' a' w' σ' hK hst=>?_)
   have:=hQ (inB id e) s' a' w' σ' hK hst
   cases e with
   | normal=>exact this
   | ret=>exact this
   | exit i =>
     simp only[AExit.to,Exit.inBlock]
     simp only[inB]at this
     cases hb:Nat.beq i id with
     | true =>
       rw[hb]at this
       rw[if_pos (Nat.eq_of_beq_eq_true hb)]
       exact this
     | false =>
       rw[hb]at this
       rw[if_neg (Nat.ne_of_beq_eq_false hb)]
       exact this
 | loop c ih =>
   intro K s a w σ h hs Qm hQ
   obtain⟨I,⟨k0,h0⟩,hr⟩:=h
   refine wpIn_loop_ghost (fun k a w=>∃s σ,I k s/\Sm ρ B w0 σ0 M0 nx0 n s a w σ) k0 ⟨s,σ,h0,hs⟩ ?_
   rintro k a w ⟨s,σ,hi,hst⟩
   refine ih _ s a w σ (hr k s hi) hst _ fun e s' a' w' σ' hK hst'=>?_
   cases e with
   | normal =>
     obtain⟨j,hj,hj'⟩:=hK
     exact⟨j,hj,s',σ',hj',hst'⟩
   | exit id=>exact hQ (.exit id) s' a' w' σ' hK hst'
   | ret=>exact hQ .ret s' a' w' σ' hK hst'
 | _=>intro K s a w σ h;exact h.elim
def endK (P:Program) (rs:List ResultVar) (R:Out->Prop):AExit->XS->Prop
 | .exit _,_=>False
 | _,s=>∃vs,resXs P s rs=some vs/\R (oneOr vs,s.M,s.nx)
theorem OX_mono {o:Op} {K K':Out->Prop} (h:OX P ρ env M nx o K) (hK:∀r,K r->K' r):OX P ρ env M nx o K':=by
 rcases h with ⟨e,h1,h2⟩ | ⟨c,g,args,R,h1,h2,h3,h4⟩ | ⟨c,g,args,e,hi,h1,h2,h3,h4⟩ | ⟨it,L,h0,h1,h2,h3⟩
 ·exact .inl ⟨e,h1,hK _ h2⟩
 ·exact .inr (.inl ⟨c,g,args,R,h1,h2,h3,fun r hr=>hK _ (h4 r hr)⟩)
 ·exact .inr (.inr (.inl ⟨c,g,args,e,hi,h1,h2,h3,hK _ h4⟩))
 ·exact .inr (.inr (.inr ⟨it,L,h0,h1,h2,fun e he=>hK _ (h3 e he)⟩))
theorem RN_mono {all:List Oper} {Q Q':XS->Prop} (hQ:∀s,Q s->Q' s):∀(os:List Oper) (s:XS),RN P ρ n all os s Q->RN P ρ n all os s Q'
 | [],s,h=>hQ s h
 | o::os,s,h=>by
   unfold RN at h ⊢
   split at h
   ·exact h.elim
   ·obtain⟨env,h1,h2⟩:=h
    exact⟨env,h1,RN_mono hQ os _ h2⟩
   ·exact OX_mono h fun r ⟨env,h1,h2⟩=>⟨env,h1,RN_mono hQ os _ h2⟩
theorem RD_mono {all:List Oper} {Q Q':XS->Log->Prop} (hQ:∀s l,Q s l->Q' s l):∀(os:List Oper) (i:Nat) (s:XS) (l:Log),RD P ρ n all os i s l Q->RD P ρ n all os i s l Q'
 | [],_,s,l,h=>hQ s l h
 | o::os,i,s,l,h=>by
   unfold RD at h ⊢
   split at h
   ·exact h.elim
   ·obtain⟨env,h1,h2⟩:=h
    exact⟨env,h1,RD_mono hQ os _ _ _ h2⟩
   ·rcases h with ⟨e,hi,env,h1,h2,h3,h4⟩ | ⟨b1,b2,b3,c,g,args,R,h1,h2,h3,h4⟩
    ·exact .inl ⟨e,hi,env,h1,h2,h3,RD_mono hQ os _ _ _ h4⟩
    ·exact .inr ⟨b1,b2,b3,c,g,args,R,h1,h2,h3,fun r hr=>let ⟨env,q1,q2⟩:=h4 r hr;⟨env,q1,RD_mono hQ os _ _ _ q2⟩⟩
theorem wx_mono:∀(c:Code) (K K':AExit->XS->Prop) (s:XS),(∀e s,K e s->K' e s)->wx P ρ n c K s->wx P ρ n c K' s:=by
 intro c
 induction c with
 | skip=>intro K K' s hK h;exact hK _ _ h
 | ret=>intro K K' s hK h;exact hK _ _ h
 | exit id=>intro K K' s hK h;exact hK _ _ h
 | region id ops draw =>
   intro K K' s hK h
   cases draw with
   | false=>exact RN_mono (hK _) _ _ h
   | true=>exact⟨h.1,h.2.1,RD_mono (fun s l q=>⟨q.1,hK _ _ q.2⟩) _ _ _ _ h.2.2⟩
 | seq x y ihx ihy =>
   intro K K' s hK h
   refine ihx _ _ s (fun e s' q=>?_) h
   cases e with
   | normal=>exact ihy _ _ s' hK q
   | exit id=>exact hK _ _ q
   | ret=>exact hK _ _ q
 | cond c x y ihx ihy =>
   intro K K' s hK h
   obtain⟨v,hv,h1,h2⟩:=h
   exact⟨v,hv,fun e=>ihx _ _ s hK (h1 e),fun e=>ihy _ _ s hK (h2 e)⟩
 | block id c ih =>
   intro K K' s hK h
   exact ih _ _ s (fun e s' q=>hK _ _ q) h
 | loop c ih =>
   intro K K' s hK h
   obtain⟨I,h0,h1⟩:=h
   refine⟨I,h0,fun k s' hi=>ih _ _ s' (fun e s2 q=>?_) (h1 k s' hi)⟩
   cases e with
   | normal=>exact q
   | exit id=>exact hK _ _ q
   | ret=>exact hK _ _ q
 | _=>intro K K' s hK h;exact h.elim
theorem FOk0.mono {g:Nat} {args:List XV} {R R':Out->Prop} (h:FOk0 P ρ g args M nx R) (hR:∀r,R r->R' r):FOk0 P ρ g args M nx R' :=
 fun w σ vs hok hfree hargs o a K Q hK=>h w σ vs hok hfree hargs o a K Q fun v w' ⟨r,hr,hp⟩=>hK v w' ⟨r,hR r hr,hp⟩
theorem FOk.one {g:Nat} {args:List XV} {R:Out->Prop} (hd:ρ.det=true) (h:FOk P ρ g args M nx R):∃o:Option Out,(∀r,o=some r->R r)/\FOk P ρ g args M nx fun r=>o=some r:=by
 by_cases hR:∃r,R r
 ·obtain⟨r,h1,h2⟩:=h.2 hd hR
  exact⟨some r,(fun r' e=>by cases e;exact h1),h2.mono fun x e=>by rw[e],fun _ _=>⟨r,rfl,h2⟩⟩
 ·exact⟨none,(fun r e=>by cases e),h.1.mono fun r hr=>(hR ⟨r,hr⟩).elim,fun _ ⟨r,e⟩=>by cases e⟩
theorem RN_one {all:List Oper} {Q:XS->Prop} (hd:ρ.det=true):∀(os:List Oper) (s:XS),RN P ρ n all os s Q->∃o:Option XS,(∀s,o=some s->Q s)/\RN P ρ n all os s fun s=>o=some s
 | [],s,h=>⟨some s,(fun s' e=>by cases e;exact h),rfl⟩
 | o::os,s,h=>by
   unfold RN at h
   split at h<;>rename_i hg
   ·exact h.elim
   ·obtain⟨env,h1,h2⟩:=h
    obtain⟨x,q1,q2⟩:=RN_one hd os _ h2
    refine⟨x,q1,?_⟩
    unfold RN
    rw[hg]
    exact⟨env,h1,q2⟩
   ·have go:∀(r:Out),(∃env,putX n s.env o.dst r.1=some env/\RN P ρ n all os ⟨env,r.2.1,r.2.2⟩ Q)->∃x:Option XS,(∀s,x=some s->Q s)/\∃env,putX n s.env o.dst r.1=some env/\RN P ρ n all os ⟨env,r.2.1,r.2.2⟩ fun s=>x=some s:=by
     rintro r ⟨env,h1,h2⟩
     obtain⟨x,q1,q2⟩:=RN_one hd os _ h2
     exact⟨x,q1,env,h1,q2⟩
    unfold RN
    rw[hg]
    rcases h with ⟨e,h1,h2⟩ | ⟨c,g,args,R,h1,h2,h3,h4⟩ | ⟨c,g,args,e,hi,h1,h2,h3,h4⟩ | ⟨it,L,h0,_⟩
    ·obtain⟨x,q1,q2⟩:=go _ h2
     exact⟨x,q1,.inl ⟨e,h1,q2⟩⟩
    ·obtain⟨y,p1,p2⟩:=h3.one hd
     cases y with
     | none=>exact⟨none,(fun s e=>by cases e),.inr (.inl ⟨c,g,args,_,h1,h2,p2,fun r e=>by cases e⟩)⟩
     | some r =>
       obtain⟨x,q1,q2⟩:=go r (h4 r (p1 r rfl))
       exact⟨x,q1,.inr (.inl ⟨c,g,args,_,h1,h2,p2,fun r' e=>by cases e;exact q2⟩)⟩
    ·obtain⟨x,q1,q2⟩:=go _ h4
     exact⟨x,q1,.inr (.inr (.inl ⟨c,g,args,e,hi,h1,h2,h3,q2⟩))⟩
    ·rw[hd]at h0;cases h0
theorem RD_one {all:List Oper} {Q:XS->Log->Prop} (hd:ρ.det=true):∀(os:List Oper) (i:Nat) (s:XS) (l:Log),RD P ρ n all os i s l Q->∃o:Option (XS×Log),(∀s l,o=some (s,l)->Q s l)/\RD P ρ n all os i s l fun s l=>o=some (s,l)
 | [],_,s,l,h=>⟨some (s,l),(fun s' l' e=>by cases e;exact h),rfl⟩
 | o::os,i,s,l,h=>by
   unfold RD at h
   split at h<;>rename_i hg
   ·exact h.elim
   ·obtain⟨env,h1,h2⟩:=h
    obtain⟨x,q1,q2⟩:=RD_one hd os _ _ _ h2
    refine⟨x,q1,?_⟩
    unfold RD
    rw[hg]
    exact⟨env,h1,q2⟩
   ·unfold RD
    rw[hg]
    rcases h with ⟨e,hi,env,h1,h2,h3,h4⟩ | ⟨b1,b2,b3,c,g,args,R,h1,h2,h3,h4⟩
    ·obtain⟨x,q1,q2⟩:=RD_one hd os _ _ _ h4
     exact⟨x,q1,.inl ⟨e,hi,env,h1,h2,h3,q2⟩⟩
    ·obtain⟨y,p1,p2⟩:=h3.one hd
     cases y with
     | none=>exact⟨none,(fun s l e=>by cases e),.inr ⟨b1,b2,b3,c,g,args,_,h1,h2,p2,fun r e=>by cases e⟩⟩
     | some r =>
       obtain⟨env,h5,h6⟩:=h4 r (p1 r rfl)
       obtain⟨x,q1,q2⟩:=RD_one hd os _ _ _ h6
       exact⟨x,q1,.inr ⟨b1,b2,b3,c,g,args,_,h1,h2,p2,fun r' e=>by cases e;exact⟨env,h5,q2⟩⟩⟩
inductive LE (P:Program) (ρ:Rho) (n:Nat) (c:Code):Nat->XS->Option (AExit×XS)->Prop
 | die {k s}:wx P ρ n c (fun _ _=>False) s->LE P ρ n c k s none
 | stop {k s e s'}:wx P ρ n c (fun e1 s1=>e1=e/\s1=s') s->e ≠ .normal->LE P ρ n c k s (some (e,s'))
 | go {k j s s' o}:wx P ρ n c (fun e1 s1=>e1 = .normal/\s1=s') s->j<k->LE P ρ n c j s' o->LE P ρ n c k s o
theorem wx_one (hd:ρ.det=true):∀(c:Code) (K:AExit->XS->Prop) (s:XS),wx P ρ n c K s->∃o:Option (AExit×XS),(∀e s,o=some (e,s)->K e s)/\wx P ρ n c (fun e s=>o=some (e,s)) s:=by
 intro c
 induction c with
 | skip=>intro K s h;exact⟨some (.normal,s),(fun e s' q=>by cases q;exact h),rfl⟩
 | ret=>intro K s h;exact⟨some (.ret,s),(fun e s' q=>by cases q;exact h),rfl⟩
 | exit id=>intro K s h;exact⟨some (.exit id,s),(fun e s' q=>by cases q;exact h),rfl⟩
 | region id ops draw =>
   intro K s h
   cases draw with
   | false =>
     obtain⟨o,h1,h2⟩:=RN_one hd _ _ h
     cases o with
     | none=>exact⟨none,(fun e s q=>by cases q),RN_mono (fun s q=>by cases q) _ _ h2⟩
     | some s1=>exact⟨some (.normal,s1),(fun e s' q=>by cases q;exact h1 _ rfl),RN_mono (fun s' q=>by cases q;rfl) _ _ h2⟩
   | true =>
     obtain⟨o,h1,h2⟩:=RD_one hd _ _ _ _ h.2.2
     cases o with
     | none=>exact⟨none,(fun e s q=>by cases q),h.1,h.2.1,RD_mono (fun s l q=>by cases q) _ _ _ _ h2⟩
     | some r =>
       obtain⟨s1,l1⟩:=r
       have:=h1 s1 l1 rfl
       exact⟨some (.normal,s1),(fun e s' q=>by cases q;exact this.2),h.1,h.2.1,RD_mono (fun s' l' q=>by cases q;exact⟨this.1,rfl⟩) _ _ _ _ h2⟩
 | seq x y ihx ihy =>
   intro K s h
   obtain⟨o,h1,h2⟩:=ihx _ s h
   cases o with
   | none=>exact⟨none,(fun e s q=>by cases q),wx_mono x _ _ s (fun e s q=>by cases q) h2⟩
   | some r =>
     obtain⟨e1,s1⟩:=r
     have hk:=h1 e1 s1 rfl
     cases e1 with
     | normal =>
       obtain⟨o2,g1,g2⟩:=ihy _ s1 hk
       exact⟨o2,g1,wx_mono x _ _ s (fun e s' q=>by cases q;exact g2) h2⟩
     | exit id=>exact⟨some (.exit id,s1),(fun e s' q=>by cases q;exact hk),wx_mono x _ _ s (fun e s' q=>by cases q;rfl) h2⟩
     | ret=>exact⟨some (.ret,s1),(fun e s' q=>by cases q;exact hk),wx_mono x _ _ s (fun e s' q=>by cases q;rfl) h2⟩
 | cond c x y ihx ihy =>
   intro K s h
   obtain⟨v,hv,h1,h2⟩:=h
   cases v with
   | true =>
     obtain⟨o,g1,g2⟩:=ihx _ s (h1 rfl)
     exact⟨o,g1,true,hv,fun _=>g2,fun e=>by cases e⟩
   | false =>
     obtain⟨o,g1,g2⟩:=ihy _ s (h2 rfl)
     exact⟨o,g1,false,hv,(fun e=>by cases e),fun _=>g2⟩
 | block id c ih =>
   intro K s h
   obtain⟨o,h1,h2⟩:=ih _ s h
   cases o with
   | none=>exact⟨none,(fun e s q=>by cases q),wx_mono c _ _ s (fun e s q=>by cases q) h2⟩
   | some r =>
     obtain⟨e1,s1⟩:=r
     exact⟨some (inB id e1,s1),(fun e s' q=>by cases q;exact h1 _ _ rfl),wx_mono c _ _ s (fun e s' q=>by cases q;rfl) h2⟩
 | loop c ih =>
   intro K s h
   obtain⟨I,⟨k0,h0⟩,hr⟩:=h
   have ends:∀(k:Nat) (s:XS),I k s->∃o:Option (AExit×XS),(∀e s,o=some (e,s)->K e s)/\LE P ρ n c k s o:=by
    intro k
    induction k using Nat.strongRecOn with
    | _ k ihk =>
      intro s hi
      obtain⟨o,h1,h2⟩:=ih _ s (hr k s hi)
      cases o with
      | none=>exact⟨none,(fun e s q=>by cases q),.die (wx_mono c _ _ s (fun e s q=>by cases q) h2)⟩
      | some r =>
        obtain⟨e1,s1⟩:=r
        have hk:=h1 e1 s1 rfl
        have hx:wx P ρ n c (fun e s'=>e=e1/\s'=s1) s:=wx_mono c _ _ s (fun e s' q=>by cases q;exact⟨rfl,rfl⟩) h2
        cases e1 with
        | normal =>
          obtain⟨j,hj,hi'⟩:=hk
          obtain⟨o,g1,g2⟩:=ihk j hj s1 hi'
          exact⟨o,g1,.go hx hj g2⟩
        | exit id=>exact⟨some (.exit id,s1),(fun e s' q=>by cases q;exact hk),.stop hx (by simp)⟩
        | ret=>exact⟨some (.ret,s1),(fun e s' q=>by cases q;exact hk),.stop hx (by simp)⟩
   obtain⟨o,g1,g2⟩:=ends k0 s h0
   refine⟨o,g1,fun k s=>LE P ρ n c k s o,⟨k0,g2⟩,fun k s' hl=>?_⟩
   cases hl with
   | die q=>exact wx_mono c _ _ s' (fun e s q=>q.elim) q
   | stop q hne =>
     refine wx_mono c _ _ s' (fun e2 s2 q=>?_) q
     obtain⟨rfl,rfl⟩:=q
     cases e2 with
     | normal=>exact(hne rfl).elim
     | exit id=>rfl
     | ret=>rfl
   | go q hj hl' =>
     refine wx_mono c _ _ s' (fun e2 s2 q=>?_) q
     obtain⟨rfl,rfl⟩:=q
     exact⟨_,hj,hl'⟩
 | _=>intro K s h;exact h.elim
theorem FOk0.body (hp:P.follows .mixedOrders=true) {g:Nat} {fn:Func} {c:Code} {args:List XV} {R:Out->Prop} (hf:P.funcs[g]?=some fn) (hn:(fn.name == "runtime.NumGoroutine")=false) (hb:fn.body=some c)
 (h:wx P ρ (args.length+(fn.ntmps - args.length)) c (endK P fn.results.toList R) ⟨argsE args 0 .nil,M,nx⟩):FOk0 P ρ g args M nx R:=by
 intro w σ vs hok hfree hargs o a K Q hK
 have hrun:(callFunc g vs.toArray).run P w = .ok (.enter g vs.toArray) w:=by
  simp only[callFunc,Sem.run_bind,run_program,Result.andThen_ok,hf,hn,hb,Option.isNone_some,Bool.false_eq_true,if_false,Sem.run_pure]
 rw[hrun]
 show Calls P g vs.toArray w _
 refine(callsIn_wide (n:=0)).1 ?_
 refine callsIn_of_wp_marks (F:=FW none) hf hb (FW_fn none _) ?_
 refine wx_ok hp c _ _ _ w σ h (args_st hok hfree hargs) _ fun e s' a' w' σ' hK' hst'=>?_
 have fin:(∃vs,resXs P s' fn.results.toList=some vs/\R (oneOr vs,s'.M,s'.nx))->LeavesInM (FW none) 0 P fn a'.tmps (fun
  | .returned v,w''=>K (a.put o.dst v) w''
  | .panicked chain,w''=>Q (.panic chain) a w''
  | .outgrown,_=>LetsOut Q) a'.defers .returning w':=by
  rintro⟨vs',hvs,hR⟩
  exact end_ok hst' hfree hvs fun v w'' σ'' q1 q2 q3 q4 q5=>hK v w'' ⟨_,hR,σ'',q1,q2,q3,q4,q5⟩
 cases e with
 | normal=>exact fin hK'
 | ret=>exact fin hK'
 | exit id=>exact hK'.elim
theorem FOk.body (hp:P.follows .mixedOrders=true) {g:Nat} {fn:Func} {c:Code} {args:List XV} {R:Out->Prop} (hf:P.funcs[g]?=some fn) (hn:(fn.name == "runtime.NumGoroutine")=false) (hb:fn.body=some c)
 (h:wx P ρ (args.length+(fn.ntmps - args.length)) c (endK P fn.results.toList R) ⟨argsE args 0 .nil,M,nx⟩):FOk P ρ g args M nx R:=by
 refine⟨FOk0.body hp hf hn hb h,fun hd ⟨r0,hr0⟩=>?_⟩
 obtain⟨o,h1,h2⟩:=wx_one hd _ _ _ h
 have fin:∀(R':Out->Prop),(∀e s,o=some (e,s)->endK P fn.results.toList R' e s)->FOk0 P ρ g args M nx R':=fun R' hR'=>FOk0.body hp hf hn hb (wx_mono c _ _ _ hR' h2)
 cases o with
 | none=>exact⟨r0,hr0,fin _ fun e s q=>by cases q⟩
 | some r =>
   obtain⟨e1,s1⟩:=r
   have hk:=h1 e1 s1 rfl
   cases e1 with
   | normal =>
     obtain⟨vs,q1,q2⟩:=hk
     exact⟨_,q2,fin _ fun e s q=>by cases q;exact⟨vs,q1,rfl⟩⟩
   | ret =>
     obtain⟨vs,q1,q2⟩:=hk
     exact⟨_,q2,fin _ fun e s q=>by cases q;exact⟨vs,q1,rfl⟩⟩
   | exit id=>exact hk.elim
end
end
end Go.Xs
namespace Go.Xs
noncomputable section
inductive Fr where
 | sq (c:Code)
 | bk (id:Nat)
 | lp (I:Nat->XS->Prop) (k:Nat)
def pK (P:Program) (ρ:Rho) (n:Nat):List Fr->(AExit->XS->Prop)->AExit->XS->Prop
 | [],Q=>Q
 | .sq b::fs,Q=>seqK (wx P ρ n b (pK P ρ n fs Q)) (pK P ρ n fs Q)
 | .bk id::fs,Q=>fun e s=>pK P ρ n fs Q (inB id e) s
 | .lp I k::fs,Q=>loopK I k (pK P ρ n fs Q)
def W (P:Program) (ρ:Rho) (n:Nat) (c:Code) (fs:List Fr) (Q:AExit->XS->Prop) (s:XS):Prop:=wx P ρ n c (pK P ρ n fs Q) s
def T (P:Program) (ρ:Rho) (n:Nat) (fs:List Fr) (Q:AExit->XS->Prop) (e:AExit) (s:XS):Prop:=pK P ρ n fs Q e s
variable {P:Program} {ρ:Rho} {n:Nat} {fs:List Fr} {Q:AExit->XS->Prop} {s:XS} {a b c:Code} {env:Env} {M:Hp} {nx key i id:Nat} {Γ:Facts} {all os:List Oper} {F:XS->Prop} {G:XS->Log->Prop} {log:Log}
theorem W_seq:W P ρ n (.seq a b) fs Q s=W P ρ n a (.sq b::fs) Q s:=rfl
theorem W_block:W P ρ n (.block id c) fs Q s=W P ρ n c (.bk id::fs) Q s:=rfl
theorem W_skip:W P ρ n .skip fs Q s=T P ρ n fs Q .normal s:=rfl
theorem W_ret:W P ρ n .ret fs Q s=T P ρ n fs Q .ret s:=rfl
theorem W_exit:W P ρ n (.exit id) fs Q s=T P ρ n fs Q (.exit id) s:=rfl
theorem T_nil (e:AExit):T P ρ n [] Q e s=Q e s:=rfl
theorem T_sq:T P ρ n (.sq b::fs) Q .normal s=W P ρ n b fs Q s:=rfl
theorem T_sq_ret:T P ρ n (.sq b::fs) Q .ret s=T P ρ n fs Q .ret s:=rfl
theorem T_sq_exit:T P ρ n (.sq b::fs) Q (.exit i) s=T P ρ n fs Q (.exit i) s:=rfl
theorem T_bk:T P ρ n (.bk id::fs) Q .normal s=T P ρ n fs Q .normal s:=rfl
theorem T_bk_ret:T P ρ n (.bk id::fs) Q .ret s=T P ρ n fs Q .ret s:=rfl
theorem T_bk_exit:T P ρ n (.bk id::fs) Q (.exit i) s=if i=id then T P ρ n fs Q .normal s else T P ρ n fs Q (.exit i) s:=by
 unfold T
 simp only[pK,inB]
 by_cases h:i=id
 ·subst h;simp
 ·rw[if_neg h]
  cases hb:Nat.beq i id with
  | true=>exact(h (Nat.eq_of_beq_eq_true hb)).elim
  | false=>rfl
theorem T_lp {I:Nat->XS->Prop} {k:Nat}:T P ρ n (.lp I k::fs) Q .normal s = ∃j,j<k/\I j s:=rfl
theorem T_lp_ret {I:Nat->XS->Prop} {k:Nat}:T P ρ n (.lp I k::fs) Q .ret s=T P ρ n fs Q .ret s:=rfl
theorem T_lp_exit {I:Nat->XS->Prop} {k:Nat}:T P ρ n (.lp I k::fs) Q (.exit i) s=T P ρ n fs Q (.exit i) s:=rfl
theorem W_loop (I:Nat->XS->Prop) (k:Nat) (h0:I k s) (h:∀k s',I k s'->W P ρ n c (.lp I k::fs) Q s'):W P ρ n (.loop c) fs Q s:=⟨I,⟨k,h0⟩,h⟩
def cW (P:Program) (ρ:Rho) (n:Nat) (a b:Code) (fs:List Fr) (Q:AExit->XS->Prop) (s:XS):XV->Prop
 | .bool v=>(v=true->W P ρ n a fs Q s)/\(v=false->W P ρ n b fs Q s)
 | _=>False
theorem W_cond {x:Operand}:W P ρ n (.cond x a b) fs Q ⟨env,M,nx⟩=cW P ρ n a b fs Q ⟨env,M,nx⟩ (opv env x):=by
 refine propext ⟨fun⟨v,h,h1,h2⟩=>?_,fun h=>?_⟩
 ·simp only at h
  rw[h]
  exact⟨h1,h2⟩
 ·unfold cW at h
  split at h
  ·rename_i v hv
   exact⟨v,hv,h⟩
  ·exact h.elim
theorem cW_true:cW P ρ n a b fs Q s (.bool true)=W P ρ n a fs Q s:=propext ⟨fun h=>h.1 rfl,fun h=>⟨fun _=>h,(fun e=>by cases e)⟩⟩
theorem cW_false:cW P ρ n a b fs Q s (.bool false)=W P ρ n b fs Q s:=propext ⟨fun h=>h.2 rfl,fun h=>⟨(fun e=>by cases e),fun _=>h⟩⟩
theorem W_regN {l:List Oper}:W P ρ n (.region id l.toArray false) fs Q s=RN P ρ n l l s (T P ρ n fs Q .normal):=rfl
def eD (l:List Oper) (F:XS->Prop) (s:XS) (log:Log):Prop:=okLog l log=true/\F s
theorem W_regD {l:List Oper} (h:(edgesOk l&&slotsOk l)=true):W P ρ n (.region id l.toArray true) fs Q s=RD P ρ n l l 0 s [] (eD l (T P ρ n fs Q .normal)):=by
 rw[Bool.and_eq_true]at h
 exact propext ⟨fun q=>q.2.2,fun q=>⟨h.1,h.2,q⟩⟩
def sN (P:Program) (ρ:Rho) (n:Nat) (all os:List Oper) (env:Env) (M:Hp) (nx:Nat) (d:Option Nat) (F:XS->Prop):Option Eff->Prop
 | none=>False
 | some e=>∃env',putX n env d e.val=some env'/\RN P ρ n all os ⟨env',happ M e.upd,nx+1⟩ F
theorem sN_some {d:Nat} {v:XV} {rd:List Nat} {us:List (Nat×Option XObj)} (h:d<n):sN P ρ n all os env M nx (some d) F (some ⟨v,rd,us⟩)=RN P ρ n all os ⟨tset env d v,happ M us,nx+1⟩ F:=by
 have hb:Nat.blt d n=true:=by rw[Nat.blt_eq];exact h
 refine propext ⟨fun⟨e,h1,h2⟩=>?_,fun h=>⟨_,by simp only[putX,hb],h⟩⟩
 simp only[putX,hb,Option.some.injEq]at h1
 subst h1
 exact h2
theorem sN_none {v:XV} {rd:List Nat} {us:List (Nat×Option XObj)}:sN P ρ n all os env M nx none F (some ⟨v,rd,us⟩)=RN P ρ n all os ⟨env,happ M us,nx+1⟩ F :=
 propext ⟨fun⟨e,h1,h2⟩=>by simp only[putX,Option.some.injEq]at h1;subst h1;exact h2,fun h=>⟨_,rfl,h⟩⟩
def plainOp:Op->Bool
 | .call c=>match c.callee with | .builtin _=>true | _=>false
 | .next _ _=>false
 | _=>true
theorem callee_none {c:Call} (h:plainOp (.call c)=true):calleeX env c=none:=by
 unfold plainOp at h
 simp only at h
 split at h
 ·rename_i hc;unfold calleeX;rw[hc]
 ·cases h
theorem OX_plain {o:Op} {K:Out->Prop} (h:plainOp o=true):OX P ρ env M nx o K ↔ ∃e,xop P g0 env M nx o=some e/\K (e.val,happ M e.upd,nx+1):=by
 refine⟨fun hh=>?_,fun hh=>.inl hh⟩
 rcases hh with hh | ⟨c,g,args,R,hop,hc,_⟩ | ⟨c,g,args,e,hi,hop,hc,_⟩ | ⟨it,L,_,hop,_⟩
 ·exact hh
 ·subst hop;rw[callee_none h]at hc;cases hc
 ·subst hop;rw[callee_none h]at hc;cases hc
 ·subst hop;cases h
theorem sN_iff {d:Option Nat} {o:Option Eff}:(∃e,o=some e/\∃env',putX n env d e.val=some env'/\RN P ρ n all os ⟨env',happ M e.upd,nx+1⟩ F) ↔ sN P ρ n all os env M nx d F o:=by
 constructor
 ·rintro⟨e,rfl,h2⟩
  exact h2
 ·intro h
  cases o with
  | none=>exact h.elim
  | some e=>exact⟨e,rfl,h⟩
theorem RN_op {d:Option Nat} {op:Op} {ty:TypeId} {pos:String} {after:Array Edge} (h:plainOp op=true) :
 RN P ρ n all (⟨d,op,ty,pos,after,none⟩::os) ⟨env,M,nx⟩ F=sN P ρ n all os env M nx d F (xop P g0 env M nx op):=by
 refine propext ?_
 unfold RN
 simp only[guardX]
 rw[OX_plain h]
 exact sN_iff
theorem RN_nil:RN P ρ n all [] s F=F s:=rfl
def gN (P:Program) (ρ:Rho) (n:Nat) (all os:List Oper) (env:Env) (M:Hp) (nx:Nat) (d:Option Nat) (op:Op) (F:XS->Prop):Option Bool->Prop
 | none=>False
 | some false=>∃env',putX n env d .udf=some env'/\RN P ρ n all os ⟨env',M,nx⟩ F
 | some true=>sN P ρ n all os env M nx d F (xop P g0 env M nx op)
theorem RN_gd {d:Option Nat} {op:Op} {ty:TypeId} {pos:String} {after:Array Edge} {g:Nat×Bool} (h:plainOp op=true) :
 RN P ρ n all (⟨d,op,ty,pos,after,some g⟩::os) ⟨env,M,nx⟩ F=gN P ρ n all os env M nx d op F (guardX all env (some g)):=by
 refine propext ?_
 unfold RN gN
 simp only
 cases guardX all env (some g) with
 | none=>exact Iff.rfl
 | some b =>
   cases b with
   | false=>exact Iff.rfl
   | true =>
     simp only
     rw[OX_plain h]
     exact sN_iff
theorem gN_true {d:Option Nat} {op:Op}:gN P ρ n all os env M nx d op F (some true)=sN P ρ n all os env M nx d F (xop P g0 env M nx op):=rfl
theorem gN_false {d:Nat} {op:Op} (h:d<n):gN P ρ n all os env M nx (some d) op F (some false)=RN P ρ n all os ⟨tset env d .udf,M,nx⟩ F:=by
 have hb:Nat.blt d n=true:=by rw[Nat.blt_eq];exact h
 refine propext ⟨fun⟨e,h1,h2⟩=>?_,fun h=>⟨_,by simp only[putX,hb],h⟩⟩
 simp only[putX,hb,Option.some.injEq]at h1
 subst h1
 exact h2
def aN (P:Program) (ρ:Rho) (n:Nat) (all os:List Oper) (env:Env) (d:Option Nat) (F:XS->Prop) (r:Out):Prop:=∃env',putX n env d r.1=some env'/\RN P ρ n all os ⟨env',r.2.1,r.2.2⟩ F
theorem aN_some {d:Nat} {v:XV} {M:Hp} {nx:Nat} (h:d<n):aN P ρ n all os env (some d) F (v,M,nx)=RN P ρ n all os ⟨tset env d v,M,nx⟩ F:=by
 have hb:Nat.blt d n=true:=by rw[Nat.blt_eq];exact h
 refine propext ⟨fun⟨e,h1,h2⟩=>?_,fun h=>⟨_,by simp only[putX,hb],h⟩⟩
 simp only[putX,hb,Option.some.injEq]at h1
 subst h1
 exact h2
def CN (P:Program) (ρ:Rho) (n:Nat) (all os:List Oper) (env:Env) (M:Hp) (nx:Nat) (d:Option Nat) (F:XS->Prop):Option (Nat×List XV)->Prop
 | none=>False
 | some (g,args)=>(∃R,FOk P ρ g args M nx R/\∀r,R r->aN P ρ n all os env d F r)\/(∃e hi,Csem P ρ g args M nx e hi/\aN P ρ n all os env d F (e.val,happ M e.upd,hi))
theorem RN_call {d:Option Nat} {c:Call} {ty:TypeId} {pos:String} {after:Array Edge} (h:plainOp (.call c)=false) :
 RN P ρ n all (⟨d,.call c,ty,pos,after,none⟩::os) ⟨env,M,nx⟩ F=CN P ρ n all os env M nx d F (calleeX env c):=by
 refine propext ?_
 unfold RN
 simp only[guardX]
 have hx:xop P g0 env M nx (.call c)=none:=by
  unfold plainOp at h
  simp only at h
  split at h
  ·cases h
  ·rename_i hc
   cases hcal:c.callee with
   | builtin b=>exact(hc b hcal).elim
   | _=>simp only[xop,hcal]
 constructor
 ·rintro(⟨e,he,_⟩ | ⟨c',g,args,R,hop,hc,hF,hR⟩ | ⟨c',g,args,e,hi,hop,hc,hF,hR⟩ | ⟨it,L,_,hop,_⟩)
  ·rw[hx]at he;cases he
  ·cases hop;rw[hc];exact .inl ⟨R,hF,hR⟩
  ·cases hop;rw[hc];exact .inr ⟨e,hi,hF,hR⟩
  ·cases hop
 ·intro hh
  unfold CN at hh
  split at hh
  ·exact hh.elim
  ·rename_i g args hc
   rcases hh with ⟨R,hF,hR⟩ | ⟨e,hi,hF,hR⟩
   ·exact .inr (.inl ⟨c,g,args,R,rfl,hc,hF,hR⟩)
   ·exact .inr (.inr (.inl ⟨c,g,args,e,hi,rfl,hc,hF,hR⟩))
def gC (P:Program) (ρ:Rho) (n:Nat) (all os:List Oper) (env:Env) (M:Hp) (nx:Nat) (d:Option Nat) (c:Call) (F:XS->Prop):Option Bool->Prop
 | none=>False
 | some false=>∃env',putX n env d .udf=some env'/\RN P ρ n all os ⟨env',M,nx⟩ F
 | some true=>CN P ρ n all os env M nx d F (calleeX env c)
theorem RN_gc {d:Option Nat} {c:Call} {ty:TypeId} {pos:String} {after:Array Edge} {g:Nat×Bool} (h:plainOp (.call c)=false) :
 RN P ρ n all (⟨d,.call c,ty,pos,after,some g⟩::os) ⟨env,M,nx⟩ F=gC P ρ n all os env M nx d c F (guardX all env (some g)):=by
 have h0:=RN_call (P:=P) (ρ:=ρ) (n:=n) (all:=all) (os:=os) (env:=env) (M:=M) (nx:=nx) (F:=F) (d:=d) (ty:=ty) (pos:=pos) (after:=after) h
 unfold RN at h0 ⊢
 simp only[guardX]at h0
 unfold gC
 cases hg:guardX all env (some g) with
 | none=>simp only[hg]
 | some b =>
   cases b with
   | false=>simp only[hg]
   | true=>simp only[hg];exact h0
theorem gC_true {d:Option Nat} {c:Call}:gC P ρ n all os env M nx d c F (some true)=CN P ρ n all os env M nx d F (calleeX env c):=rfl
theorem gC_false {d:Nat} {c:Call} (h:d<n):gC P ρ n all os env M nx (some d) c F (some false)=RN P ρ n all os ⟨tset env d .udf,M,nx⟩ F:=by
 have hb:Nat.blt d n=true:=by rw[Nat.blt_eq];exact h
 refine propext ⟨fun⟨e,h1,h2⟩=>?_,fun h=>⟨_,by simp only[putX,hb],h⟩⟩
 simp only[putX,hb,Option.some.injEq]at h1
 subst h1
 exact h2
def slC:Option Oper->Option Nat
 | some o=>o.dst
 | none=>none
theorem slC_some (o:Oper):slC (some o)=o.dst:=rfl
theorem slotX_eq (j:Nat):slotX all j=slC all[j]?:=by unfold slotX slC;rfl
def gdB (want:Bool):Option XV->Option Bool
 | some (.bool b)=>some (b==want)
 | some .udf=>some false
 | _=>none
def gdA (env:Env) (want:Bool):Option Nat->Option Bool
 | none=>none
 | some d=>gdB want (tget env d)
theorem guard_eq (j:Nat) (want:Bool):guardX all env (some (j,want))=gdA env want (slotX all j):=by
 simp only[guardX,gdA,gdB]
 cases slotX all j with
 | none=>rfl
 | some d =>
   simp only
   cases tget env d with
   | none=>rfl
   | some v=>cases v<;>rfl
theorem gdA_some (want:Bool) (d:Nat):gdA env want (some d)=gdB want (tget env d):=rfl
theorem gdB_bool (want b:Bool):gdB want (some (.bool b))=some (b==want):=rfl
theorem gdB_udf (want:Bool):gdB want (some .udf)=some false:=rfl
theorem beq_tt:(true==true)=true:=rfl
theorem beq_tf:(true==false)=false:=rfl
theorem beq_ft:(false==true)=false:=rfl
theorem beq_ff:(false==false)=true:=rfl
theorem CN_fok {d:Option Nat} {g:Nat} {args:List XV} {R:Out->Prop} (h:FOk P ρ g args M nx R) (hR:∀r,R r->aN P ρ n all os env d F r):CN P ρ n all os env M nx d F (some (g,args)):=.inl ⟨R,h,hR⟩
def okLg (l:List Oper) (log:Log):Prop:=okLog l log=true
def sD (P:Program) (ρ:Rho) (n:Nat) (all os:List Oper) (i:Nat) (env:Env) (M:Hp) (nx:Nat) (log:Log) (d:Option Nat) (G:XS->Log->Prop):Option Eff->Prop
 | none=>False
 | some e=>∃env',putX n env d e.val=some env'/\RD P ρ n all os (i+1) ⟨env',happ M e.upd,nx+1⟩ (logOf i e log) G
theorem sD_some {d:Nat} {v:XV} {rd:List Nat} {us:List (Nat×Option XObj)} (h:d<n):sD P ρ n all os i env M nx log (some d) G (some ⟨v,rd,us⟩)=RD P ρ n all os (i+1) ⟨tset env d v,happ M us,nx+1⟩ (logOf i ⟨v,rd,us⟩ log) G:=by
 have hb:Nat.blt d n=true:=by rw[Nat.blt_eq];exact h
 refine propext ⟨fun⟨e,h1,h2⟩=>?_,fun h=>⟨_,by simp only[putX,hb],h⟩⟩
 simp only[putX,hb,Option.some.injEq]at h1
 subst h1
 exact h2
theorem sD_none {v:XV} {rd:List Nat} {us:List (Nat×Option XObj)}:sD P ρ n all os i env M nx log none G (some ⟨v,rd,us⟩)=RD P ρ n all os (i+1) ⟨env,happ M us,nx+1⟩ (logOf i ⟨v,rd,us⟩ log) G :=
 propext ⟨fun⟨e,h1,h2⟩=>by simp only[putX,Option.some.injEq]at h1;subst h1;exact h2,fun h=>⟨_,rfl,h⟩⟩
theorem opD_plain {o:Op} (h:plainOp o=true):opD P g0 nc env M nx o=match xop P g0 env M nx o with | some e=>some (e,nx+1) | none=>none:=by
 unfold opD
 cases hx:xop P g0 env M nx o with
 | some e=>rfl
 | none =>
   cases o with
   | call c=>simp only[callee_none h]
   | _=>rfl
theorem RD_op {d:Option Nat} {op:Op} {ty:TypeId} {pos:String} {after:Array Edge} (h:plainOp op=true) :
 RD P ρ n all (⟨d,op,ty,pos,after,none⟩::os) i ⟨env,M,nx⟩ log G=sD P ρ n all os i env M nx log d G (xop P g0 env M nx op):=by
 refine propext ?_
 unfold RD
 simp only[guardX,opD_plain h]
 constructor
 ·rintro(⟨e,hi,env',(h1 | ⟨c,g,args,hop,hc,_⟩),h2,h3,h4⟩ | ⟨_,_,_,c,g,args,_,hop,hc,_⟩)
  rotate_right
  ·subst hop
   rw[callee_none h]at hc
   cases hc
  ·split at h1<;>(try (cases h1;done))
   rename_i e' he
   cases h1
   rw[he]
   exact⟨env',h3,h4⟩
  ·subst hop
   rw[callee_none h]at hc
   cases hc
 ·intro hh
  unfold sD at hh
  split at hh
  ·exact hh.elim
  ·rename_i e he
   obtain⟨env',h1,h2⟩:=hh
   exact .inl ⟨e,nx+1,env',.inl (by rw[he]),Nat.le_succ _,h1,h2⟩
def gD (P:Program) (ρ:Rho) (n:Nat) (all os:List Oper) (i:Nat) (env:Env) (M:Hp) (nx:Nat) (log:Log) (d:Option Nat) (op:Op) (G:XS->Log->Prop):Option Bool->Prop
 | none=>False
 | some false=>∃env',putX n env d .udf=some env'/\RD P ρ n all os (i+1) ⟨env',M,nx⟩ log G
 | some true=>sD P ρ n all os i env M nx log d G (xop P g0 env M nx op)
theorem RD_gd {d:Option Nat} {op:Op} {ty:TypeId} {pos:String} {after:Array Edge} {g:Nat×Bool} (h:plainOp op=true) :
 RD P ρ n all (⟨d,op,ty,pos,after,some g⟩::os) i ⟨env,M,nx⟩ log G=gD P ρ n all os i env M nx log d op G (guardX all env (some g)):=by
 have h0:=RD_op (P:=P) (ρ:=ρ) (n:=n) (all:=all) (os:=os) (i:=i) (env:=env) (M:=M) (nx:=nx) (log:=log) (G:=G) (d:=d) (ty:=ty) (pos:=pos) (after:=after) h
 unfold RD at h0 ⊢
 simp only[guardX]at h0
 unfold gD
 cases hg:guardX all env (some g) with
 | none=>simp only[hg]
 | some b =>
   cases b with
   | false=>simp only[hg]
   | true=>simp only[hg];exact h0
theorem gD_true {d:Option Nat} {op:Op}:gD P ρ n all os i env M nx log d op G (some true)=sD P ρ n all os i env M nx log d G (xop P g0 env M nx op):=rfl
theorem gD_false {d:Nat} {op:Op} (h:d<n):gD P ρ n all os i env M nx log (some d) op G (some false)=RD P ρ n all os (i+1) ⟨tset env d .udf,M,nx⟩ log G:=by
 have hb:Nat.blt d n=true:=by rw[Nat.blt_eq];exact h
 refine propext ⟨fun⟨e,h1,h2⟩=>?_,fun h=>⟨_,by simp only[putX,hb],h⟩⟩
 simp only[putX,hb,Option.some.injEq]at h1
 subst h1
 exact h2
theorem RD_nil:RD P ρ n all [] i s log G=G s log:=rfl
def CD (P:Program) (ρ:Rho) (n:Nat) (all os:List Oper) (i:Nat) (env:Env) (M:Hp) (nx:Nat) (log:Log) (d:Option Nat) (G:XS->Log->Prop):Option (Nat×List XV)->Prop
 | none=>False
 | some (g,args)=>(∃e hi,Csem P ρ g args M nx e hi/\∃env',putX n env d e.val=some env'/\RD P ρ n all os (i+1) ⟨env',happ M e.upd,hi⟩ (logOf i e log) G) \/
   (barOk all i=true/\barOk all (i+1)=true/\okLg all log/\∃R,FOk P ρ g args M nx R/\∀r,R r->∃env',putX n env d r.1=some env'/\RD P ρ n all os (i+1) ⟨env',r.2.1,r.2.2⟩ [] G)
theorem RD_call {d:Option Nat} {c:Call} {ty:TypeId} {pos:String} {after:Array Edge} (h:plainOp (.call c)=false) :
 RD P ρ n all (⟨d,.call c,ty,pos,after,none⟩::os) i ⟨env,M,nx⟩ log G=CD P ρ n all os i env M nx log d G (calleeX env c):=by
 refine propext ?_
 have hx:xop P g0 env M nx (.call c)=none:=by
  unfold plainOp at h
  simp only at h
  split at h
  ·cases h
  ·rename_i hc
   cases hcal:c.callee with
   | builtin b=>exact(hc b hcal).elim
   | _=>simp only[xop,hcal]
 unfold RD
 simp only[guardX,opD,hx,nc]
 constructor
 ·rintro(⟨e,hi,env',(h1 | ⟨c',g,args,hop,hc,hS⟩),h2,h3,h4⟩ | ⟨b1,b2,b3,c',g,args,R,hop,hc,hF,hR⟩)
  ·split at h1
   ·simp at h1
   ·cases h1
  ·cases hop
   rw[hc]
   exact .inl ⟨e,hi,hS,env',h3,h4⟩
  ·cases hop
   rw[hc]
   exact .inr ⟨b1,b2,b3,R,hF,hR⟩
 ·intro hh
  unfold CD at hh
  split at hh
  ·exact hh.elim
  ·rename_i g args hc
   rcases hh with ⟨e,hi,hS,env',h1,h2⟩ | ⟨b1,b2,b3,R,hF,hR⟩
   ·exact .inl ⟨e,hi,env',.inr ⟨c,g,args,rfl,hc,hS⟩,hS.2.2.2.1,h1,h2⟩
   ·exact .inr ⟨b1,b2,b3,c,g,args,R,rfl,hc,hF,hR⟩
theorem CD_sem {d g hi:Nat} {args:List XV} {v:XV} {rd:List Nat} {us:List (Nat×Option XObj)} (h:Csem P ρ g args M nx ⟨v,rd,us⟩ hi) (hd:d<n) (hR:RD P ρ n all os (i+1) ⟨tset env d v,happ M us,hi⟩ (logOf i ⟨v,rd,us⟩ log) G):CD P ρ n all os i env M nx log (some d) G (some (g,args)):=by
 have hb:Nat.blt d n=true:=by rw[Nat.blt_eq];exact hd
 exact .inl ⟨_,hi,h,_,by simp only[putX,hb],hR⟩
def aD (P:Program) (ρ:Rho) (n:Nat) (all os:List Oper) (i:Nat) (env:Env) (d:Option Nat) (G:XS->Log->Prop) (r:Out):Prop:=∃env',putX n env d r.1=some env'/\RD P ρ n all os (i+1) ⟨env',r.2.1,r.2.2⟩ [] G
theorem aD_some {d:Nat} {v:XV} {M:Hp} {nx:Nat} (h:d<n):aD P ρ n all os i env (some d) G (v,M,nx)=RD P ρ n all os (i+1) ⟨tset env d v,M,nx⟩ [] G:=by
 have hb:Nat.blt d n=true:=by rw[Nat.blt_eq];exact h
 refine propext ⟨fun⟨e,h1,h2⟩=>?_,fun h=>⟨_,by simp only[putX,hb],h⟩⟩
 simp only[putX,hb,Option.some.injEq]at h1
 subst h1
 exact h2
theorem CD_fok {d:Option Nat} {g:Nat} {args:List XV} {R:Out->Prop} (h:FOk P ρ g args M nx R) (hb:(barOk all i&&barOk all (i+1))=true) (hl:okLg all log) (hR:∀r,R r->aD P ρ n all os i env d G r):CD P ρ n all os i env M nx log d G (some (g,args)):=by
 rw[Bool.and_eq_true]at hb
 exact .inr ⟨hb.1,hb.2,hl,R,h,hR⟩
theorem FOk.walk (hp:P.follows .mixedOrders=true) {g:Nat} {fn:Func} {c:Code} {m:Nat} {rs:List ResultVar} {args:List XV} {R:Out->Prop} (hf:P.funcs[g]?=some fn) (hn:(fn.name == "runtime.NumGoroutine")=false) (hb:fn.body=some c) (hm:args.length+(fn.ntmps - args.length)=m) (hr:fn.results.toList=rs)
 (h:W P ρ m c [] (endK P rs R) ⟨argsE args 0 .nil,M,nx⟩):FOk P ρ g args M nx R:=by
 subst hm hr
 exact FOk.body hp hf hn hb h
end
end Go.Xs
namespace Go.Xs
noncomputable section
variable {P:Program} {ρ:Rho} {n:Nat} {env:Env} {M:Hp} {key:Nat} {Γ:Facts}
def effV:Option XV->Option Eff
 | some v=>some ⟨v,[],[]⟩
 | none=>none
theorem effV_some (v:XV):effV (some v)=some ⟨v,[],[]⟩:=rfl
def opvC:Option XV->XV
 | some v=>v
 | none=>.un
theorem opvC_some (v:XV):opvC (some v)=v:=rfl
theorem opv_tmp (t:Nat):opv env (.tmp t)=opvC (tget env t):=by unfold opv opvC;rfl
theorem opv_const (v:Value):opv env (.const v)=leafV v:=rfl
theorem opv_func (f:Nat):opv env (.func f) = .fn (.func f) [] []:=rfl
theorem leaf_int (k:IntKind) (n:Int):leafV (.int k n) = .int k n:=rfl
theorem leaf_bool (b:Bool):leafV (.bool b) = .bool b:=rfl
theorem leaf_nils:leafV (.slice none 0 0) = .nils:=rfl
theorem leaf_nilp:leafV (.pointer none) = .nilp:=rfl
theorem leaf_nilf:leafV .nilFunc = .nilf:=rfl
theorem leaf_nilm:leafV (.map none) = .nilm:=rfl
theorem leaf_str (b:ByteArray):leafV (.string b) = .str (b.data.toList.map fun c=>c.toNat):=rfl
theorem opvs_nil:opvs env []=[]:=rfl
theorem opvs_cons (x:Operand) (l:List Operand):opvs env (x::l)=opv env x::opvs env l:=rfl
theorem pairs_nil:pairsX env []=[]:=rfl
theorem pairs_cons (i:Nat) (x:Operand) (l:List (Nat×Operand)):pairsX env ((i,x)::l)=(i,opv env x)::pairsX env l:=rfl
theorem happ_0 (M:Hp):happ M []=M:=rfl
theorem happ_1 (M:Hp) (k:Nat) (o:XObj) (us:List (Nat×Option XObj)):happ M ((k,some o)::us)=happ (tset M k o) us:=rfl
theorem happ_2 (M:Hp) (k:Nat) (us:List (Nat×Option XObj)):happ M ((k,none)::us)=happ (tdel M k) us:=rfl
theorem log_0 (i:Nat) (v:XV) (l:Log):logOf i ⟨v,[],[]⟩ l=l:=rfl
theorem log_1 (i:Nat) (v:XV) (k:Nat) (ks:List Nat) (us:List (Nat×Option XObj)) (l:Log):logOf i ⟨v,k::ks,us⟩ l=(i,k::ks,ukeys us)::l:=rfl
theorem log_2 (i:Nat) (v:XV) (rd:List Nat) (u:Nat×Option XObj) (us:List (Nat×Option XObj)) (l:Log):logOf i ⟨v,rd,u::us⟩ l=(i,rd,ukeys (u::us))::l:=by cases rd<;>rfl
theorem ukeys_0:ukeys []=[]:=rfl
theorem ukeys_1 (k:Nat) (o:Option XObj) (us:List (Nat×Option XObj)):ukeys ((k,o)::us)=k::ukeys us:=rfl
def sa (P:Program) (t:Nat):Option (Nat×Bool):=match tagg P t,tsz P t with | some b,some n=>some (n,b) | _,_=>none
def ocC:Option (Nat×Bool)->List XV->Option XV
 | some (n,true),cs=>match Nat.ble n cs.length with | true=>some (.agg (cs.take n)) | false=>none
 | some (_,false),v::_=>some v
 | _,_=>none
theorem ofCells_eq (t:Nat) (cs:List XV):ofCells P t cs=ocC (sa P t) cs:=by
 unfold ofCells sa
 cases tagg P t with
 | none=>rfl
 | some b=>cases tsz P t with
   | none=>cases b<;>rfl
   | some n=>cases b with
     | true=>rfl
     | false=>cases cs<;>rfl
theorem ocC_f (n:Nat) (v:XV) (cs:List XV):ocC (some (n,false)) (v::cs)=some v:=rfl
theorem ocC_t (n:Nat) (cs:List XV) (h:n<=cs.length):ocC (some (n,true)) cs=some (.agg (cs.take n)):=by
 simp only[ocC,Nat.ble_eq_true_of_le h]
def fz (P:Program) (s:Nat):List (Nat×Nat×Nat):=match P.underlying s with
 | some (.struct fs)=>fs.toList.map fun g=>(g.offset,(tsz P g.type).getD 0,g.type)
 | _=>[]
def faC (n off:Nat):Option (Nat×Nat×Nat)->Option XV
 | some (o,_+1,_)=>some (.mp n (off+o))
 | _=>none
theorem fieldAddr_eq (s f n off:Nat):fieldAddrX P s f (.mp n off)=faC n off ((fz P s)[f]?):=by
 unfold fieldAddrX fz
 cases P.underlying s with
 | none=>simp[faC]
 | some d =>
   cases d with
   | struct fs =>
     simp only[List.getElem?_map,Array.getElem?_toList]
     cases fs[f]? with
     | none=>rfl
     | some g =>
       simp only[Option.map_some]
       cases tsz P g.type with
       | none=>rfl
       | some m=>cases m<;>rfl
   | _=>simp[faC]
theorem faC_some (n off o m t:Nat):faC n off (some (o,m+1,t))=some (.mp n (off+o)):=rfl
def fvC (P:Program) (cs:List XV):Option (Nat×Nat×Nat)->Option XV
 | some (o,_,t)=>ofCells P t (cs.drop o)
 | none=>none
def es (P:Program) (t:Nat):Option Nat:=match P.underlying t with | some (.slice el)=>tsz P el | _=>none
def iaC (n esz off len:Nat) (i:Int):Option Nat->Option XV
 | some z=>match inRange i len,Nat.beq z esz with | true,true=>some (.mp n (off+i.toNat*esz)) | _,_=>none
 | none=>none
theorem indexAddr_eq (t n esz off len cap:Nat) (k:IntKind) (i:Int):indexAddrX P t (.sl n esz off len cap) (.int k i)=iaC n esz off len i (es P t):=by
 unfold indexAddrX es iaC
 cases P.underlying t with
 | none=>rfl
 | some d =>
   cases d with
   | slice el =>
     simp only
     cases tsz P el with
     | none=>cases inRange i len<;>rfl
     | some z=>cases inRange i len<;>cases hb:Nat.beq z esz<;>simp[hb]
   | _=>rfl
theorem inRange_of {i:Int} {len:Nat} (h0:0<=i) (h1:i<len):inRange i len=true:=by
 cases i with
 | ofNat k =>
   simp only[inRange,Nat.blt_eq]
   have:(k:Int)<len:=h1
   omega
 | negSucc k=>omega
theorem iaC_some (n esz off len:Nat) (i:Int) (h0:0<=i) (h1:i<len):iaC n esz off len i (some esz)=some (.mp n (off+i.toNat*esz)):=by
 simp only[iaC,inRange_of h0 h1,Nat.beq_refl]
def arr (P:Program) (t:Nat):Option (Nat×Nat×Nat):=match P.underlying t with
 | some (.array len el)=>match tsz P el with | some sz=>some (len,sz,el) | none=>none
 | _=>none
def ixC (P:Program) (cs:List XV) (i:Int):Option (Nat×Nat×Nat)->Option XV
 | some (len,sz,el)=>match inRange i len with | true=>ofCells P el (cs.drop (i.toNat*sz)) | false=>none
 | none=>none
theorem index_agg (t:Nat) (cs:List XV) (k:IntKind) (i:Int):indexX P t (.agg cs) (.int k i)=ixC P cs i (arr P t):=by
 unfold indexX ixC arr
 cases P.underlying t with
 | none=>rfl
 | some d =>
   cases d with
   | array len el =>
     simp only
     cases tsz P el with
     | none=>cases inRange i len<;>simp
     | some z=>cases h:inRange i len<;>simp[h]
   | _=>rfl
theorem ixC_some (cs:List XV) (i:Int) (len sz el:Nat) (h0:0<=i) (h1:i<len):ixC P cs i (some (len,sz,el))=ofCells P el (cs.drop (i.toNat*sz)):=by
 simp only[ixC,inRange_of h0 h1]
def apl (len sz:Nat) (i:Nat):Option (Nat×Nat):=some (i*sz,sz)
theorem apl_eq (len sz i:Nat):apl len sz i=some (i*sz,sz):=rfl
theorem x_move (x:Operand):xop P Γ env M key (.move x)=some ⟨opv env x,[],[]⟩:=rfl
theorem x_assign (x:Operand):xop P Γ env M key (.assign x)=some ⟨opv env x,[],[]⟩:=rfl
def pickC (a b:XV):XV->Option Eff
 | .bool true=>some ⟨a,[],[]⟩
 | .bool false=>some ⟨b,[],[]⟩
 | _=>none
theorem x_pick (c a b:Operand):xop P Γ env M key (.pick c a b)=pickC (opv env a) (opv env b) (opv env c):=by
 simp only[xop,pickC]
 cases opv env c with
 | bool b=>cases b<;>rfl
 | _=>rfl
theorem pickC_t (a b:XV):pickC a b (.bool true)=some ⟨a,[],[]⟩:=rfl
theorem pickC_f (a b:XV):pickC a b (.bool false)=some ⟨b,[],[]⟩:=rfl
def nckC (v:XV):Bool->Option Eff
 | true=>some ⟨v,[],[]⟩
 | false=>none
theorem x_nilCheck (x:Operand):xop P Γ env M key (.nilCheck x)=nckC (opv env x) (okNil (opv env x)):=rfl
theorem nck_mp (n o:Nat) (v:XV):nckC v (okNil (.mp n o))=some ⟨v,[],[]⟩:=rfl
theorem x_load (t:Nat) (a:Operand):xop P Γ env M key (.load t a)=loadX P M t (opv env a):=rfl
def ofC (n:Nat):Option XV->Option Eff
 | some v=>some ⟨v,[n],[]⟩
 | none=>none
theorem ofC_some (n:Nat) (v:XV):ofC n (some v)=some ⟨v,[n],[]⟩:=rfl
def ldC (P:Program) (t n off:Nat):Option XObj->Option Eff
 | some (.row cs) | some (.cst cs)=>ofC n (ofCells P t (cs.drop off))
 | _=>none
theorem ldC_row (t n off:Nat) (cs:List XV):ldC P t n off (some (.row cs))=ofC n (ofCells P t (cs.drop off)):=rfl
theorem load_eq (t n off:Nat):loadX P M t (.mp n off)=ldC P t n off (tget M n):=by
 simp only[loadX,hrd,ldC,ofC]
 cases tget M n with
 | none=>rfl
 | some o=>cases o<;>rfl
theorem x_store (t:Nat) (a x:Operand):xop P Γ env M key (.store t a x)=storeX P M t (opv env x) (opv env a):=rfl
def stC (n off:Nat) (x:XV) (sz:Option Nat):Option XObj->Option Eff
 | some (.row cs)=>match sz with
   | some sz=>match Nat.beq (cellsOf x).length sz,Nat.ble (off+sz) cs.length,(cellsOf x).all plain1 with
     | true,true,true=>some ⟨.udf,[n],[(n,some (.row (putAt cs off (cellsOf x))))]⟩
     | _,_,_=>none
   | none=>none
 | _=>none
theorem store_eq (t n off:Nat) (x:XV):storeX P M t x (.mp n off)=stC n off x (tsz P t) (tget M n):=by
 simp only[storeX,hrow,stC]
 cases tget M n with
 | none=>rfl
 | some o =>
   cases o with
   | row cs=>cases tsz P t<;>rfl
   | _=>rfl
theorem stC_row (n off sz:Nat) (x:XV) (cs:List XV) (h1:(cellsOf x).length=sz) (h2:off+sz<=cs.length) (h3:(cellsOf x).all plain1=true):stC n off x (some sz) (some (.row cs))=some ⟨.udf,[n],[(n,some (.row (putAt cs off (cellsOf x))))]⟩:=by
 subst h1
 simp only[stC,Nat.beq_refl,Nat.ble_eq_true_of_le h2,h3]
theorem cells_agg (cs:List XV):cellsOf (.agg cs)=cs:=rfl
theorem cells_int (k:IntKind) (i:Int):cellsOf (.int k i)=[.int k i]:=rfl
theorem cells_bool (b:Bool):cellsOf (.bool b)=[.bool b]:=rfl
theorem cells_mp (a b:Nat):cellsOf (.mp a b)=[.mp a b]:=rfl
theorem cells_sl (n e o l c:Nat):cellsOf (.sl n e o l c)=[.sl n e o l c]:=rfl
theorem cells_mm (a:Nat):cellsOf (.mm a)=[.mm a]:=rfl
theorem cells_nils:cellsOf .nils=[.nils]:=rfl
theorem cells_nilp:cellsOf .nilp=[.nilp]:=rfl
theorem cells_nilm:cellsOf .nilm=[.nilm]:=rfl
theorem cells_nilf:cellsOf .nilf=[.nilf]:=rfl
theorem cells_fn (f:Fn) (a b:List XV):cellsOf (.fn f a b)=[.fn f a b]:=rfl
theorem cells_str (s:List Nat):cellsOf (.str s)=[.str s]:=rfl
theorem plain_int (k:IntKind) (i:Int):plain1 (.int k i)=true:=rfl
theorem plain_bool (b:Bool):plain1 (.bool b)=true:=rfl
theorem plain_mp (a b:Nat):plain1 (.mp a b)=true:=rfl
theorem plain_sl (n e o l c:Nat):plain1 (.sl n e o l c)=true:=rfl
theorem plain_mm (a:Nat):plain1 (.mm a)=true:=rfl
theorem plain_nils:plain1 .nils=true:=rfl
theorem plain_nilp:plain1 .nilp=true:=rfl
theorem plain_nilm:plain1 .nilm=true:=rfl
theorem plain_nilf:plain1 .nilf=true:=rfl
theorem plain_fn (f:Fn) (a b:List XV):plain1 (.fn f a b)=true:=rfl
theorem plain_str (s:List Nat):plain1 (.str s)=true:=rfl
theorem x_fieldAddr (s f:Nat) (x:Operand):xop P Γ env M key (.fieldAddr s x f)=effV (fieldAddrX P s f (opv env x)):=rfl
theorem x_indexAddr (t:Nat) (x i:Operand):xop P Γ env M key (.indexAddr t x i)=effV (indexAddrX P t (opv env x) (opv env i)):=rfl
theorem x_index (t:Nat) (x i:Operand):xop P Γ env M key (.index t x i)=effV (indexX P t (opv env x) (opv env i)):=rfl
theorem x_lookup (t:Nat) (x i:Operand) (ok:Bool):xop P Γ env M key (.lookup t x i ok)=lookupX P M t (opv env x) (opv env i) ok:=rfl
theorem x_mapUpdate (t:Nat) (m k x:Operand):xop P Γ env M key (.mapUpdate t m k x)=mapUpdX P M t (opv env m) (opv env k) (opv env x):=rfl
theorem x_binOp (op:BinOp) (t:Nat) (x y:Operand) (g:_):xop P Γ env M key (.binOp op t x y g)=effV (binX P Γ t op (isC y) (opv env x) (opv env y)):=rfl
theorem x_unOp (op:UnOp) (t:Nat) (x:Operand):xop P Γ env M key (.unOp op t x)=effV (unX op (opv env x)):=rfl
theorem x_convert (s d:Nat) (x:Operand):xop P Γ env M key (.convert s d x)=convX P key M s d (opv env x):=rfl
def alC (key:Nat):Option (List XV)->Option Eff
 | some zs=>some ⟨.mp key 0,[],[(key,some (.row zs))]⟩
 | none=>none
theorem x_alloc (t:Nat):xop P Γ env M key (.alloc t)=alC key (tzero P t):=rfl
theorem alC_some (zs:List XV):alC key (some zs)=some ⟨.mp key 0,[],[(key,some (.row zs))]⟩:=rfl
def bxC (key:Nat) (cs:List XV):Bool->Option Eff
 | true=>some ⟨.mp key 0,[],[(key,some (.row cs))]⟩
 | false=>none
theorem x_box (t:Nat) (x:Operand):xop P Γ env M key (.box t x)=bxC key (cellsOf (opv env x)) ((cellsOf (opv env x)).all plain1):=rfl
theorem bxC_true (cs:List XV):bxC key cs true=some ⟨.mp key 0,[],[(key,some (.row cs))]⟩:=rfl
theorem x_makeMap (t:Nat):xop P Γ env M key (.makeMap t none)=some ⟨.mm key,[],[(key,some (.map [] 0))]⟩:=rfl
theorem x_makeFunc (f:Fn) (first caps:Array Operand):xop P Γ env M key (.makeFunc f first caps)=some ⟨.fn f (opvs env first.toList) (opvs env caps.toList),[],[]⟩:=rfl
def exC (i:Nat):XV->Option Eff
 | .tup vs=>effV vs[i]?
 | _=>none
theorem x_extract (x:Operand) (i:Nat):xop P Γ env M key (.extract x i)=exC i (opv env x):=by
 simp only[xop,exC,effV,Eff.pure]
 cases opv env x with
 | tup vs=>simp only;cases vs[i]? <;> rfl
 | _=>rfl
theorem exC_tup (i:Nat) (vs:List XV):exC i (.tup vs)=effV vs[i]?:=rfl
def fillC (place:Nat->Option (Nat×Nat)) (cs:List XV) (v:XV) (rest:List (Nat×XV)):Option (Nat×Nat)->Option (List XV)
 | some (off,sz)=>match Nat.beq (cellsOf v).length sz,(cellsOf v).all plain1,Nat.ble (off+sz) cs.length with
   | true,true,true=>fillX place (putAt cs off (cellsOf v)) rest
   | _,_,_=>none
 | none=>none
theorem fillX_cons (place:Nat->Option (Nat×Nat)) (cs:List XV) (i:Nat) (v:XV) (rest:List (Nat×XV)):fillX place cs ((i,v)::rest)=fillC place cs v rest (place i):=by
 unfold fillX fillC
 cases place i with
 | none=>rfl
 | some p=>rfl
theorem fillX_nil (place:Nat->Option (Nat×Nat)) (cs:List XV):fillX place cs []=some cs:=rfl
theorem fillC_some (place:Nat->Option (Nat×Nat)) (cs:List XV) (v:XV) (rest:List (Nat×XV)) (off sz:Nat) (h1:(cellsOf v).length=sz) (h2:(cellsOf v).all plain1=true) (h3:off+sz<=cs.length):fillC place cs v rest (some (off,sz))=fillX place (putAt cs off (cellsOf v)) rest:=by
 subst h1
 simp only[fillC,Nat.beq_refl,h2,Nat.ble_eq_true_of_le h3]
theorem putAt_0 (cs vs:List XV):putAt cs 0 vs=putAt.over cs vs:=by unfold putAt;rfl
theorem putAt_s (c:XV) (cs vs:List XV) (n:Nat):putAt (c::cs) (n+1) vs=c::putAt cs n vs:=rfl
theorem over_0 (cs:List XV):putAt.over cs []=cs:=by cases cs<;>rfl
theorem over_s (c v:XV) (cs vs:List XV):putAt.over (c::cs) (v::vs)=v::putAt.over cs vs:=rfl
def spl (pl:List (Nat×Nat×Nat)) (i:Nat):Option (Nat×Nat):=pl[i]?.map fun g=>(g.1,g.2.1)
def bdC:Option (List XV)->Option XV
 | some cs=>some (.agg cs)
 | none=>none
theorem bdC_some (cs:List XV):bdC (some cs)=some (.agg cs):=rfl
theorem fplaces_fz {fs:List Field}:∀{pl:List (Nat×Nat)},fplaces P fs=some pl->pl=fs.map fun g=>(g.offset,(tsz P g.type).getD 0):=by
 induction fs with
 | nil=>intro pl h;cases h;rfl
 | cons f fs ih =>
   intro pl h
   unfold fplaces at h
   split at h<;>(try (cases h;done))
   rename_i n l h1 h2
   cases h
   rw[ih h2,List.map_cons,h1]
   rfl
def stt (P:Program) (t:Nat):Bool:=match P.underlying t with
 | some (.struct fs)=>(fplaces P fs.toList).isSome
 | _=>false
theorem build_struct (t:Nat) (ps:List (Nat×XV)) (zs:List XV) (hz:tzero P t=some zs) (hs:stt P t=true):buildX P t ps=bdC (fillX (spl (fz P t)) zs ps):=by
 unfold buildX stt at *
 rw[hz]
 split at hs
 ·rename_i fs hfs
  rw[hfs]
  simp only
  cases hp:fplaces P fs.toList with
  | none=>rw[hp]at hs;cases hs
  | some pl =>
    have:=fplaces_fz hp
    have hpl:(fun i=>pl[i]?)=spl (fz P t):=by
     funext i
     simp only[spl,fz,hfs,this,List.getElem?_map,Option.map_map]
     rfl
    simp only[hpl,bdC]
    rfl
 ·cases hs
theorem build_arr (t:Nat) (ps:List (Nat×XV)) (zs:List XV) (len sz el:Nat) (hz:tzero P t=some zs) (ha:arr P t=some (len,sz,el)):buildX P t ps=bdC (fillX (apl len sz) zs ps):=by
 unfold arr at ha
 unfold buildX
 rw[hz]
 split at ha
 ·rename_i len' el' hu
  rw[hu]
  simp only
  split at ha
  ·rename_i z hz'
   cases ha
   rw[hz']
   rfl
  ·cases ha
 ·cases ha
def bd4 (P:Program) (t:Nat) (ps:List (Nat×XV)):Option (List XV)->Bool->Option (Nat×Nat×Nat)->Option XV
 | some zs,true,_=>bdC (fillX (spl (fz P t)) zs ps)
 | some zs,false,some (len,sz,_)=>bdC (fillX (apl len sz) zs ps)
 | _,_,_=>buildX P t ps
theorem build_eq (t:Nat) (ps:List (Nat×XV)):buildX P t ps=bd4 P t ps (tzero P t) (stt P t) (arr P t):=by
 unfold bd4
 split
 ·rename_i zs h1 h2
  exact build_struct t ps zs h1 h2
 ·rename_i zs len sz el h1 h2 h3
  exact build_arr t ps zs len sz el h1 h3
 ·rfl
theorem bd4_s (t:Nat) (ps:List (Nat×XV)) (zs:List XV) (a:Option (Nat×Nat×Nat)):bd4 P t ps (some zs) true a=bdC (fillX (spl (fz P t)) zs ps):=rfl
theorem bd4_a (t:Nat) (ps:List (Nat×XV)) (zs:List XV) (len sz el:Nat):bd4 P t ps (some zs) false (some (len,sz,el))=bdC (fillX (apl len sz) zs ps):=rfl
theorem x_build (t:Nat) (ps:Array (Nat×Operand)):xop P Γ env M key (.build t ps)=effV (buildX P t (pairsX env ps.toList)):=rfl
theorem x_buildSlice (t len:Nat) (ps:Array (Nat×Operand)):xop P Γ env M key (.buildSlice t len ps)=buildSliceX P key t len (pairsX env ps.toList):=rfl
def ez (P:Program) (t:Nat):Option (Nat×Nat×List XV):=match P.underlying t with
 | some (.slice el)=>match tsz P el,ebytes P el,tzero P el with | some a,some b,some c=>some (a,b,c) | _,_,_=>none
 | _=>none
def bsC (key sz len:Nat):Option (List XV)->Option Eff
 | some cs=>some ⟨.sl key sz 0 len len,[],[(key,some (.row cs))]⟩
 | none=>none
theorem bsC_some (key sz len:Nat) (cs:List XV):bsC key sz len (some cs)=some ⟨.sl key sz 0 len len,[],[(key,some (.row cs))]⟩:=rfl
def spa (sz i:Nat):Option (Nat×Nat):=some (i*sz,sz)
def bs2 (P:Program) (key t len:Nat) (ps:List (Nat×XV)):Option (Nat×Nat×List XV)->Option Eff
 | some (sz,_,zs)=>match Nat.ble (len*sz) 16777216,Nat.beq zs.length sz,Nat.ble 1 sz with
   | true,true,true=>bsC key sz len (fillX (spa sz) (repX zs len) ps)
   | _,_,_=>none
 | none=>buildSliceX P key t len ps
theorem buildSlice_eq (t len:Nat) (ps:List (Nat×XV)):buildSliceX P key t len ps=bs2 P key t len ps (ez P t):=by
 unfold bs2 ez
 cases hu:P.underlying t with
 | none=>rfl
 | some d =>
   cases d with
   | slice el =>
     simp only
     cases h1:tsz P el with
     | none=>rfl
     | some a=>cases h2:ebytes P el with
       | none=>rfl
       | some b=>cases h3:tzero P el with
         | none=>rfl
         | some c =>
           simp only[buildSliceX,hu,h1,h3]
           cases Nat.ble (len*a) 16777216<;>cases Nat.beq c.length a<;>cases Nat.ble 1 a<;>rfl
   | _=>rfl
theorem bs2_some (key t len sz b:Nat) (ps:List (Nat×XV)) (zs:List XV) (h1:len*sz<=16777216) (h2:zs.length=sz) (h3:1<=sz):bs2 P key t len ps (some (sz,b,zs))=bsC key sz len (fillX (spa sz) (repX zs len) ps):=by
 subst h2
 simp only[bs2,Nat.ble_eq_true_of_le h1,Nat.beq_refl,Nat.ble_eq_true_of_le h3]
theorem spa_eq (sz i:Nat):spa sz i=some (i*sz,sz):=rfl
theorem repX_0 (zs:List XV):repX zs 0=[]:=rfl
theorem repX_1 (zs:List XV) (n:Nat):repX zs (n+1)=zs++repX zs n:=rfl
theorem bin_int (t:Nat) (op:BinOp) (yc:Bool) (k k':IntKind) (a b:Int):binX P Γ t op yc (.int k a) (.int k' b)=binInt op k a k' b:=rfl
theorem bi_add (k:IntKind) (a b:Int):binInt .add k a k b=some (.int k (k.wrap (a+b))):=by simp[binInt]
theorem bi_sub (k:IntKind) (a b:Int):binInt .sub k a k b=some (.int k (k.wrap (a - b))):=by simp[binInt]
theorem bi_mul (k:IntKind) (a b:Int):binInt .mul k a k b=some (.int k (k.wrap (a*b))):=by simp[binInt]
theorem bi_eql (k:IntKind) (a b:Int):binInt .eql k a k b=some (.bool (decide (a=b))):=by simp only[binInt,decide_true];rfl
theorem bi_neq (k:IntKind) (a b:Int):binInt .neq k a k b=some (.bool (!(decide (a=b)))):=by simp only[binInt,decide_true];rfl
theorem bi_lss (k:IntKind) (a b:Int):binInt .lss k a k b=some (.bool (decide (a<b))):=by simp[binInt]
theorem bi_leq (k:IntKind) (a b:Int):binInt .leq k a k b=some (.bool (decide (a<=b))):=by simp[binInt]
theorem bi_gtr (k:IntKind) (a b:Int):binInt .gtr k a k b=some (.bool (decide (b<a))):=by simp[binInt]
theorem bi_geq (k:IntKind) (a b:Int):binInt .geq k a k b=some (.bool (decide (b<=a))):=by simp[binInt]
theorem un_not (b:Bool):unX .not (.bool b)=some (.bool (!b)):=rfl
def ikd (P:Program) (t:Nat):Option IntKind:=match P.underlying t with | some (.int k)=>some k | _=>none
def cvC (P:Program) (key:Nat) (M:Hp) (s d:Nat) (k0:IntKind) (n:Int):Option IntKind->Option IntKind->Option Eff
 | some _,some k=>some ⟨.int k (k.wrap n),[],[]⟩
 | _,_=>convX P key M s d (.int k0 n)
theorem conv_int (s d:Nat) (k0:IntKind) (n:Int):convX P key M s d (.int k0 n)=cvC P key M s d k0 n (ikd P s) (ikd P d):=by
 unfold cvC
 split
 ·rename_i k k' h1 h2
  unfold ikd at h1 h2
  cases e1:P.underlying s with
  | none=>rw[e1]at h1;cases h1
  | some d1 =>
    cases e2:P.underlying d with
    | none=>rw[e2]at h2;cases h2
    | some d2 =>
      rw[e2]at h2
      cases d2<;>(try (cases h2;done))
      cases h2
      simp only[convX,e1,e2]
      rfl
 ·rfl
theorem cvC_some (s d:Nat) (k0 k k':IntKind) (n:Int):cvC P key M s d k0 n (some k) (some k')=some ⟨.int k' (k'.wrap n),[],[]⟩:=rfl
inductive NT where
 | pt | sl | mp | fn | no
def nt (P:Program) (t:Nat):NT:=match P.underlying t with
 | some (.pointer _)=>.pt | some (.slice _)=>.sl | some (.map ..)=>.mp | some (.func ..)=>.fn | _=>.no
def nlC (P:Program) (Γ:Facts) (t:Nat) (op:BinOp) (yc b:Bool) (x y:XV):Bool->Option XV
 | true=>match op with | .eql=>some (.bool b) | .neq=>some (.bool (!b)) | _=>none
 | false=>binX P Γ t op yc x y
def isPt:NT->Bool | .pt=>true | _=>false
def isSl:NT->Bool | .sl=>true | _=>false
def isMp:NT->Bool | .mp=>true | _=>false
theorem nil_mp (t:Nat) (op:BinOp) (yc:Bool) (n o:Nat):binX P Γ t op yc (.mp n o) .nilp=nlC P Γ t op yc false (.mp n o) .nilp (isPt (nt P t)):=by
 unfold nlC isPt nt
 cases hu:P.underlying t with
 | none=>rfl
 | some d =>
   cases d<;>first | rfl | skip
   simp only[binX,eqX,hu,nilCmp]
   cases op<;>rfl
theorem nil_nilp (t:Nat) (op:BinOp) (yc:Bool):binX P Γ t op yc .nilp .nilp=nlC P Γ t op yc true .nilp .nilp (isPt (nt P t)):=by
 unfold nlC isPt nt
 cases hu:P.underlying t with
 | none=>rfl
 | some d =>
   cases d<;>first | rfl | skip
   simp only[binX,eqX,hu,nilCmp]
   cases op<;>rfl
theorem nil_sl (t:Nat) (op:BinOp) (yc:Bool) (n e o l c:Nat):binX P Γ t op yc (.sl n e o l c) .nils=nlC P Γ t op yc false (.sl n e o l c) .nils (isSl (nt P t)):=by
 unfold nlC isSl nt
 cases hu:P.underlying t with
 | none=>rfl
 | some d =>
   cases d<;>first | rfl | skip
   simp only[binX,eqX,hu,nilCmp]
   cases op<;>rfl
theorem nil_nils (t:Nat) (op:BinOp) (yc:Bool):binX P Γ t op yc .nils .nils=nlC P Γ t op yc true .nils .nils (isSl (nt P t)):=by
 unfold nlC isSl nt
 cases hu:P.underlying t with
 | none=>rfl
 | some d =>
   cases d<;>first | rfl | skip
   simp only[binX,eqX,hu,nilCmp]
   cases op<;>rfl
theorem nil_mm (t:Nat) (op:BinOp) (yc:Bool) (n:Nat):binX P Γ t op yc (.mm n) .nilm=nlC P Γ t op yc false (.mm n) .nilm (isMp (nt P t)):=by
 unfold nlC isMp nt
 cases hu:P.underlying t with
 | none=>rfl
 | some d =>
   cases d<;>first | rfl | skip
   simp only[binX,eqX,hu,nilCmp]
   cases op<;>rfl
theorem nil_nilm (t:Nat) (op:BinOp) (yc:Bool):binX P Γ t op yc .nilm .nilm=nlC P Γ t op yc true .nilm .nilm (isMp (nt P t)):=by
 unfold nlC isMp nt
 cases hu:P.underlying t with
 | none=>rfl
 | some d =>
   cases d<;>first | rfl | skip
   simp only[binX,eqX,hu,nilCmp]
   cases op<;>rfl
theorem nlC_eql (t:Nat) (yc b:Bool) (x y:XV):nlC P Γ t .eql yc b x y true=some (.bool b):=rfl
theorem isPt_pt:isPt .pt=true:=rfl
theorem isSl_sl:isSl .sl=true:=rfl
theorem isMp_mp:isMp .mp=true:=rfl
theorem x_builtin (b:Builtin) (args:Array Operand) (ats:Array TypeId):xop P Γ env M key (.call ⟨.builtin b,args,ats⟩)=builtinX P M key b ats.toList (opvs env args.toList):=rfl
theorem b_len (t:Nat) (ts:List Nat) (x:XV):builtinX P M key .len (t::ts) [x]=lenX P M t x:=rfl
def lnC (P:Program) (M:Hp) (t:Nat) (x:XV) (n:Nat):Bool->Option Eff
 | true=>some ⟨.int .i64 n,[],[]⟩
 | false=>lenX P M t x
theorem len_sl (t n e o l c:Nat):lenX P M t (.sl n e o l c)=lnC P M t (.sl n e o l c) l (isSl (nt P t)):=by
 unfold lnC isSl nt
 cases hu:P.underlying t with
 | none=>rfl
 | some d =>
   cases d<;>first | rfl | skip
   simp only[lenX,hu]
   rfl
theorem len_nils (t:Nat):lenX P M t .nils=lnC P M t .nils 0 (isSl (nt P t)):=by
 unfold lnC isSl nt
 cases hu:P.underlying t with
 | none=>rfl
 | some d =>
   cases d<;>first | rfl | skip
   simp only[lenX,hu]
   rfl
theorem lnC_true (t:Nat) (x:XV) (n:Nat):lnC P M t x n true=some ⟨.int .i64 n,[],[]⟩:=rfl
def apC (P:Program) (M:Hp) (key t:Nat) (s x:XV):Option (Nat×Nat×List XV)->Option (List XV×Nat×List Nat)->Option Eff
 | some (sz,eb,zs),some (ys,n,r)=>match Nat.ble eb 128,Nat.ble 1 sz,Nat.beq zs.length sz,Nat.ble n big,ys.all plain1 with
   | true,true,true,true,true=>match s with
     | .nils=>match n with
       | 0=>some ⟨.nils,r,[]⟩
       | m+1=>some ⟨.sl key sz 0 (m+1) (m+1),r,[(key,some (.row ys))]⟩
     | .sl k esz off len cap=>match hrow M k,Nat.beq esz sz with
       | some cs,true=>match Nat.ble (len+n) cap with
         | true=>match Nat.ble (off+(len+n)*esz) cs.length with
           | true=>some ⟨.sl k esz off (len+n) cap,k::r,[(k,some (.row (putAt cs (off+len*esz) ys)))]⟩
           | false=>none
         | false=>match Nat.beq off 0,Nat.ble (len*esz) cs.length,Nat.ble (len+n) big,lmem r k with
           | true,true,true,false=>some ⟨.sl key esz 0 (len+n) (len+n),k::r,[(k,none),(key,some (.row (cs.take (len*esz)++ys)))]⟩
           | _,_,_,_=>none
       | _,_=>none
     | _=>none
   | _,_,_,_,_=>none
 | _,_=>none
def elz (P:Program) (M:Hp) (t:Nat) (x:XV):Option (List XV×Nat×List Nat):=match es P t with | some sz=>elemsX M sz x | none=>none
theorem b_append (t t':Nat) (s x:XV):builtinX P M key .append [t,t'] [s,x]=match P.underlying t' with
 | some (.slice _) | some .string=>appendX P M key t s x
 | _=>none:=rfl
def apD (P:Program) (M:Hp) (key t t':Nat) (s x:XV):Bool->Option Eff
 | true=>appendX P M key t s x
 | false=>builtinX P M key .append [t,t'] [s,x]
theorem b_append' (t t':Nat) (s x:XV):builtinX P M key .append [t,t'] [s,x]=apD P M key t t' s x (isSl (nt P t')):=by
 unfold apD isSl nt
 cases hu:P.underlying t' with
 | none=>rfl
 | some d =>
   cases d<;>first | rfl | skip
   simp only[b_append,hu]
theorem apD_true (t t':Nat) (s x:XV):apD P M key t t' s x true=appendX P M key t s x:=rfl
theorem append_eq (t:Nat) (s x:XV):appendX P M key t s x=apC P M key t s x (ez P t) (elz P M t x):=by
 unfold appendX apC ez elz es
 cases hu:P.underlying t with
 | none=>rfl
 | some d =>
   cases d with
   | slice el =>
     simp only
     cases h1:tsz P el with
     | none=>rfl
     | some a=>cases h2:ebytes P el with
       | none=>rfl
       | some b=>cases h3:tzero P el with
         | none=>rfl
         | some c =>
           simp only
           cases h4:elemsX M a x with
           | none=>cases Nat.ble b 128<;>cases Nat.ble 1 a<;>cases Nat.beq c.length a<;>rfl
           | some y =>
             obtain⟨ys,m,r⟩:=y
             simp only
             cases Nat.ble b 128<;>cases Nat.ble 1 a<;>cases Nat.beq c.length a<;>(try rfl)
             simp only
             cases Nat.ble m big<;>cases ys.all plain1<;>cases s<;>rfl
   | _=>rfl
theorem apC_nils (t sz eb m:Nat) (zs ys:List XV) (r:List Nat) (x:XV) (h1:eb<=128) (h2:1<=sz) (h3:zs.length=sz) (h4:m+1<=big) (h5:ys.all plain1=true):apC P M key t .nils x (some (sz,eb,zs)) (some (ys,m+1,r))=some ⟨.sl key sz 0 (m+1) (m+1),r,[(key,some (.row ys))]⟩:=by
 simp only[apC,Nat.ble_eq_true_of_le h1,Nat.ble_eq_true_of_le h2,h3,Nat.beq_refl,Nat.ble_eq_true_of_le h4,h5]
def apE (M:Hp) (key k sz len n:Nat) (ys:List XV) (r:List Nat):Option XObj->Option Eff
 | some (.row cs)=>match Nat.ble (len*sz) cs.length,lmem r k with
   | true,false=>some ⟨.sl key sz 0 (len+n) (len+n),k::r,[(k,none),(key,some (.row (cs.take (len*sz)++ys)))]⟩
   | _,_=>none
 | _=>none
theorem apC_full (t sz eb k len n:Nat) (zs ys:List XV) (r:List Nat) (x:XV) (h1:eb<=128) (h2:1<=sz) (h3:zs.length=sz) (h4:1<=n) (h6:len+n<=big) (h5:ys.all plain1=true):apC P M key t (.sl k sz 0 len len) x (some (sz,eb,zs)) (some (ys,n,r))=apE M key k sz len n ys r (tget M k):=by
 have h7:Nat.ble (len+n) len=false:=by
  cases h:Nat.ble (len+n) len with
  | false=>rfl
  | true=>have:=Nat.le_of_ble_eq_true h;omega
 have h8:n<=big:=by omega
 simp only[apC,Nat.ble_eq_true_of_le h1,Nat.ble_eq_true_of_le h2,h3,Nat.beq_refl,Nat.ble_eq_true_of_le h8,h5,hrow,apE,h7,Nat.ble_eq_true_of_le h6]
 cases tget M k with
 | none=>rfl
 | some o =>
   cases o<;>first | rfl | skip
   simp only
   cases Nat.ble (len*sz) _<;>cases lmem r k<;>rfl
theorem apE_row (key k sz len n:Nat) (cs ys:List XV) (r:List Nat) (h1:len*sz<=cs.length) (h2:k ∉ r):apE M key k sz len n ys r (some (.row cs))=some ⟨.sl key sz 0 (len+n) (len+n),k::r,[(k,none),(key,some (.row (cs.take (len*sz)++ys)))]⟩:=by
 have h3:lmem r k=false:=by
  cases h:lmem r k with
  | false=>rfl
  | true=>exact(h2 ((lmem_iff _ _).1 h)).elim
 simp only[apE,Nat.ble_eq_true_of_le h1,h3]
def elC (M:Hp) (n sz off len:Nat):Option XObj->Option (List XV×Nat×List Nat)
 | some (.row cs) | some (.cst cs)=>match Nat.ble (off+len*sz) cs.length with
   | true=>some ((cs.drop off).take (len*sz),len,[n])
   | false=>none
 | _=>none
def el2 (M:Hp) (x:XV):Option Nat->Option (List XV×Nat×List Nat)
 | some sz=>elemsX M sz x
 | none=>none
theorem elz_el2 (t:Nat) (x:XV):elz P M t x=el2 M x (es P t):=by unfold elz el2;cases es P t<;>rfl
theorem el2_sl (n sz off len cap:Nat):el2 M (.sl n sz off len cap) (some sz)=elC M n sz off len (tget M n):=by
 simp only[el2,elemsX,hrd,elC,Nat.beq_refl]
 cases tget M n with
 | none=>rfl
 | some o=>cases o<;>rfl
theorem el2_nils (sz:Nat):el2 M .nils (some sz)=some ([],0,[]):=rfl
theorem elC_row (n sz off len:Nat) (cs:List XV) (h:off+len*sz<=cs.length):elC M n sz off len (some (.row cs))=some ((cs.drop off).take (len*sz),len,[n]):=by
 simp only[elC,Nat.ble_eq_true_of_le h]
theorem elC_cst (n sz off len:Nat) (cs:List XV) (h:off+len*sz<=cs.length):elC M n sz off len (some (.cst cs))=some ((cs.drop off).take (len*sz),len,[n]):=by
 simp only[elC,Nat.ble_eq_true_of_le h]
def clC (as:List XV):XV->Option (Nat×List XV)
 | .fn (.func g) first caps=>some (g,first++as++caps)
 | _=>none
theorem callee_eq (f:Operand) (args:Array Operand) (ats:Array TypeId):calleeX env ⟨.value f,args,ats⟩=clC (opvs env args.toList) (opv env f):=by
 unfold calleeX clC
 simp only
 cases opv env f with
 | fn g a b=>cases g<;>rfl
 | _=>rfl
theorem clC_fn (as:List XV) (g:Nat) (a b:List XV):clC as (.fn (.func g) a b)=some (g,a++as++b):=rfl
theorem endK_ret (rs:List ResultVar) (R:Out->Prop) (s:XS):endK P rs R .ret s = ∃vs,resXs P s rs=some vs/\R (oneOr vs,s.M,s.nx):=rfl
theorem endK_normal (rs:List ResultVar) (R:Out->Prop) (s:XS):endK P rs R .normal s = ∃vs,resXs P s rs=some vs/\R (oneOr vs,s.M,s.nx):=rfl
end
end Go.Xs
namespace Go.Xs
noncomputable section
variable {P:Program} {Γ:Facts} {M:Hp} {key:Nat}
inductive CK where
 | i (k:IntKind)
 | b
def aggT (P:Program) (t:Nat):Bool:=match P.underlying t with | some (.struct _)=>true | _=>false
def fshG (P:Program) (f:Nat->Option (List CK)):List Field->Nat->Option (List CK)
 | [],_=>some []
 | g::fs,o=>match g.name == "_",Nat.beq g.offset o,sa P g.type,f g.type with
   | false,true,some (n,ag),some l=>match Nat.beq l.length n,(ag==aggT P g.type),(ag||Nat.beq n 1),fshG P f fs (o+n) with
     | true,true,true,some l'=>some (l++l')
     | _,_,_,_=>none
   | _,_,_,_=>none
def fsh (P:Program):Nat->Nat->Option (List CK)
 | 0,_=>none
 | d+1,t=>match P.underlying t with
   | some (.int k)=>some [.i k]
   | some .bool=>some [.b]
   | some (.struct fs)=>match P.stoodInHeld t,P.eqGuardType P.depth t with
     | false,false=>fshG P (fsh P d) fs.toList 0
     | _,_=>none
   | _=>none
def okC:List CK->List XV->Bool
 | [],[]=>true
 | .i k::l,.int k' _::xs=>decide (k=k')&&okC l xs
 | .b::l,.bool _::xs=>okC l xs
 | _,_=>false
def eqAll:List XV->List XV->Bool
 | .int _ a::xs,.int _ b::ys=>decide (a=b)&&eqAll xs ys
 | .bool a::xs,.bool b::ys=>decide (a=b)&&eqAll xs ys
 | _,_=>true
theorem okC_len:∀{l:List CK} {xs:List XV},okC l xs=true->xs.length=l.length
 | [],[],_=>rfl
 | [],_::_,h=>by simp[okC]at h
 | .i k::l,[],h=>by simp[okC]at h
 | .b::l,[],h=>by simp[okC]at h
 | .i k::l,x::xs,h=>by
   cases x<;>simp only[okC,Bool.and_eq_true,Bool.false_eq_true]at h
   simp[okC_len h.2]
 | .b::l,x::xs,h=>by
   cases x<;>simp only[okC,Bool.false_eq_true]at h
   simp[okC_len h]
theorem okC_app:∀{l l':List CK} {xs:List XV},okC (l++l') xs=true->okC l (xs.take l.length)=true/\okC l' (xs.drop l.length)=true
 | [],_,_,h=>⟨rfl,h⟩
 | .i k::l,l',xs,h=>by
   cases xs with
   | nil=>simp[okC]at h
   | cons x xs =>
     cases x<;>simp only[List.cons_append,okC,Bool.and_eq_true,Bool.false_eq_true]at h
     have:=okC_app h.2
     simp only[List.length_cons,List.take_succ_cons,List.drop_succ_cons,okC,h.1,Bool.true_and]
     exact this
 | .b::l,l',xs,h=>by
   cases xs with
   | nil=>simp[okC]at h
   | cons x xs =>
     cases x<;>simp only[List.cons_append,okC,Bool.false_eq_true]at h
     have:=okC_app h
     simp only[List.length_cons,List.take_succ_cons,List.drop_succ_cons,okC]
     exact this
theorem eqAll_app:∀{l:List CK} {xs ys:List XV},okC l (xs.take l.length)=true->okC l (ys.take l.length)=true->eqAll xs ys=(eqAll (xs.take l.length) (ys.take l.length)&&eqAll (xs.drop l.length) (ys.drop l.length))
 | [],xs,ys,_,_=>by simp[eqAll]
 | .i k::l,xs,ys,h1,h2=>by
   cases xs with
   | nil=>simp[okC]at h1
   | cons x xs =>
     cases ys with
     | nil=>simp[okC]at h2
     | cons y ys =>
       cases x<;>simp only[List.length_cons,List.take_succ_cons,okC,Bool.and_eq_true,Bool.false_eq_true]at h1
       cases y<;>simp only[List.length_cons,List.take_succ_cons,okC,Bool.and_eq_true,Bool.false_eq_true]at h2
       simp only[List.length_cons,List.take_succ_cons,List.drop_succ_cons,eqAll,eqAll_app h1.2 h2.2,Bool.and_assoc]
 | .b::l,xs,ys,h1,h2=>by
   cases xs with
   | nil=>simp[okC]at h1
   | cons x xs =>
     cases ys with
     | nil=>simp[okC]at h2
     | cons y ys =>
       cases x<;>simp only[List.length_cons,List.take_succ_cons,okC,Bool.false_eq_true]at h1
       cases y<;>simp only[List.length_cons,List.take_succ_cons,okC,Bool.false_eq_true]at h2
       simp only[List.length_cons,List.take_succ_cons,List.drop_succ_cons,eqAll,eqAll_app h1 h2,Bool.and_assoc]
def wrapV (P:Program) (t:Nat) (cs:List XV):XV:=match aggT P t with | true=>.agg cs | false=>match cs with | v::_=>v | []=>.un
theorem eqG {f:Nat->Option (List CK)} {eq:Nat->XV->XV->Option Bool} (hf:∀t l xs ys,f t=some l->okC l xs=true->okC l ys=true->eq t (wrapV P t xs) (wrapV P t ys)=some (eqAll xs ys)) :
 ∀(fs:List Field) (o:Nat) (l:List CK) (xs ys:List XV),fshG P f fs o=some l->okC l (xs.drop o)=true->okC l (ys.drop o)=true->eqFsX P eq fs xs ys=some (eqAll (xs.drop o) (ys.drop o))
 | [],o,l,xs,ys,h,h1,h2=>by
   cases h
   have e1:xs.drop o=[]:=by cases hx:xs.drop o with | nil=>rfl | cons a b=>rw[hx]at h1;simp[okC]at h1
   rw[e1]
   simp only[eqFsX,eqAll]
 | g::fs,o,l,xs,ys,h,h1,h2=>by
   unfold fshG at h
   split at h<;>(try (cases h;done))
   rename_i n ag l1 hn ho hs hl
   split at h<;>(try (cases h;done))
   rename_i l2 hln hag hn1 hr
   cases h
   have ho:=Nat.eq_of_beq_eq_true ho
   have hln:=Nat.eq_of_beq_eq_true hln
   subst ho hln
   obtain⟨a1,a2⟩:=okC_app h1
   obtain⟨b1,b2⟩:=okC_app h2
   rw[List.drop_drop]at a2 b2
   have hag:ag=aggT P g.type:=by simpa using hag
   have one:∀(zs:List XV),okC l1 ((zs.drop g.offset).take l1.length)=true->ofCells P g.type (zs.drop g.offset)=some (wrapV P g.type ((zs.drop g.offset).take l1.length)):=by
    intro zs hz
    have hlen:=okC_len hz
    rw[ofCells_eq,hs]
    unfold wrapV
    rw[<-hag]
    cases ag with
    | true =>
      refine ocC_t _ _ ?_
      simp at hlen ⊢;omega
    | false =>
      have h1':l1.length=1:=by simpa using hn1
      rw[h1']at hlen ⊢
      cases hzz:zs.drop g.offset with
      | nil=>rw[hzz]at hlen;simp at hlen
      | cons v vs=>rfl
   unfold eqFsX
   rw[hn,one xs a1,one ys b1]
   simp only[hf _ _ _ _ hl a1 b1]
   rw[eqAll_app a1 b1,List.drop_drop,List.drop_drop]
   cases eqAll ((xs.drop g.offset).take l1.length) ((ys.drop g.offset).take l1.length) with
   | false=>rfl
   | true =>
     simp only[Bool.true_and]
     exact eqG hf fs _ _ xs ys hr a2 b2
theorem eq_flat:∀(d t:Nat) (l:List CK) (xs ys:List XV),fsh P d t=some l->okC l xs=true->okC l ys=true->eqX P Γ d t (wrapV P t xs) (wrapV P t ys)=some (eqAll xs ys)
 | 0,t,l,xs,ys,h,_,_=>by cases h
 | d+1,t,l,xs,ys,h,h1,h2=>by
   unfold fsh at h
   cases hu:P.underlying t with
   | none=>rw[hu]at h;cases h
   | some td =>
     rw[hu]at h
     cases td<;>(try (cases h;done))
     ·cases h
      have l1:=okC_len h1
      have l2:=okC_len h2
      match xs,ys,h1,h2,l1,l2 with
      | [x],[y],h1,h2,_,_ =>
        cases x<;>simp only[okC,Bool.and_eq_true,Bool.false_eq_true]at h1
        cases y<;>simp only[okC,Bool.and_eq_true,Bool.false_eq_true]at h2
        simp only[wrapV,aggT,hu,eqX,eqAll,Bool.and_true,Bool.beq_eq_decide_eq]
     ·rename_i k
      cases h
      have l1:=okC_len h1
      have l2:=okC_len h2
      match xs,ys,h1,h2,l1,l2 with
      | [x],[y],h1,h2,_,_ =>
        cases x<;>simp only[okC,Bool.and_eq_true,Bool.false_eq_true,decide_eq_true_eq]at h1
        cases y<;>simp only[okC,Bool.and_eq_true,Bool.false_eq_true,decide_eq_true_eq]at h2
        obtain⟨rfl,_⟩:=h1
        obtain⟨rfl,_⟩:=h2
        simp only[wrapV,aggT,hu,eqX,eqAll,Bool.and_true,decide_true]
        rfl
     ·rename_i fs
      simp only at h
      split at h<;>(try (cases h;done))
      rename_i g1 g2
      simp only[wrapV,aggT,hu,eqX,g1,g2]
      exact eqG (fun t l xs ys=>eq_flat d t l xs ys) fs.toList 0 l xs ys h h1 h2
def egC (P:Program) (Γ:Facts) (t:Nat) (op:BinOp) (yc:Bool) (xs ys:List XV):Option (List CK)->Bool->Option XV
 | some l,true=>match okC l xs,okC l ys with
   | true,true=>match op with
     | .eql=>some (.bool (eqAll xs ys))
     | .neq=>some (.bool (!(eqAll xs ys)))
     | _=>none
   | _,_=>binX P Γ t op yc (.agg xs) (.agg ys)
 | _,_=>binX P Γ t op yc (.agg xs) (.agg ys)
theorem bin_agg (t:Nat) (op:BinOp) (yc:Bool) (xs ys:List XV):binX P Γ t op yc (.agg xs) (.agg ys)=egC P Γ t op yc xs ys (fsh P 40 t) (aggT P t):=by
 unfold egC
 split
 ·rename_i l h1 h2
  split
  ·rename_i g1 g2
   have:=eq_flat (Γ:=Γ) 40 t l xs ys h1 g1 g2
   simp only[wrapV,h2]at this
   simp only[binX,this]
   cases op<;>rfl
  ·rfl
 ·rfl
theorem egC_eql (t:Nat) (yc:Bool) (xs ys:List XV) (l:List CK) (h1:okC l xs=true) (h2:okC l ys=true):egC P Γ t .eql yc xs ys (some l) true=some (.bool (eqAll xs ys)):=by simp only[egC,h1,h2]
theorem egC_neq (t:Nat) (yc:Bool) (xs ys:List XV) (l:List CK) (h1:okC l xs=true) (h2:okC l ys=true):egC P Γ t .neq yc xs ys (some l) true=some (.bool (!(eqAll xs ys))):=by simp only[egC,h1,h2]
theorem eqAll_int (k k':IntKind) (a b:Int) (xs ys:List XV):eqAll (.int k a::xs) (.int k' b::ys)=(decide (a=b)&&eqAll xs ys):=rfl
theorem eqAll_bool (a b:Bool) (xs ys:List XV):eqAll (.bool a::xs) (.bool b::ys)=(decide (a=b)&&eqAll xs ys):=rfl
theorem eqAll_nil:eqAll [] []=true:=rfl
theorem okC_nil:okC [] []=true:=rfl
theorem okC_int (k:IntKind) (l:List CK) (a:Int) (xs:List XV):okC (.i k::l) (.int k a::xs)=okC l xs:=by simp[okC]
theorem okC_bool (l:List CK) (a:Bool) (xs:List XV):okC (.b::l) (.bool a::xs)=okC l xs:=rfl
end
end Go.Xs
namespace Go.Xs
noncomputable section
def ordB (l:List Oper) (i j:Nat):Bool:=lmem (anc l j) i||lmem (anc l i) j
def okP2 (l:List Oper) (x y:Nat×List Nat×List Nat):Prop:=okPair l x y=true
def okRow (l:List Oper) (x:Nat×List Nat×List Nat) (log:Log):Prop:=log.all (okPair l x)=true
variable {P:Program} {ρ:Rho} {n:Nat} {F:XS->Prop} {s:XS} {l:List Oper} {log:Log}
theorem eD_eq:eD l F s log=(okLg l log/\F s):=rfl
theorem okLg_nil:okLg l []=True:=by simp[okLg,okLog]
theorem okLg_cons (x:Nat×List Nat×List Nat):okLg l (x::log)=(okRow l x log/\okLg l log):=by simp[okLg,okLog,okRow]
theorem okRow_nil (x:Nat×List Nat×List Nat):okRow l x []=True:=by simp[okRow]
theorem okRow_cons (x y:Nat×List Nat×List Nat):okRow l x (y::log)=(okP2 l x y/\okRow l x log):=by simp[okRow,okP2]
theorem okP2_rd (i j:Nat) (rd rd':List Nat):okP2 l (i,rd,[]) (j,rd',[])=True:=by
 simp only[okP2,okPair,disj,Bool.and_self,Bool.true_or]
theorem okP2_ord (i j:Nat) (a b:List Nat×List Nat) (h:ordB l i j=true):okP2 l (i,a) (j,b)=True:=by
 simp only[ordB,Bool.or_eq_true]at h
 simp only[okP2,okPair,Bool.or_eq_true,eq_iff_iff,iff_true]
 rcases h with h | h
 ·exact .inl (.inr h)
 ·exact .inr h
theorem disj_of {k l:List Nat} (h:∀x ∈ k,x ∉ l):disj k l=true:=by
 induction k with
 | nil=>rfl
 | cons a k ih =>
   have h1:lmem l a=false:=by
    cases hh:lmem l a with
    | false=>rfl
    | true=>exact(h a List.mem_cons_self ((lmem_iff _ _).1 hh)).elim
   simp only[disj,h1]
   exact ih fun x hx=>h x (List.mem_cons_of_mem _ hx)
theorem okP2_ap (i j:Nat) (rd us rd' us':List Nat) (h1:∀x ∈ us,x ∉ rd') (h2:∀x ∈ us,x ∉ us') (h3:∀x ∈ us',x ∉ rd):okP2 l (i,rd,us) (j,rd',us'):=by
 simp only[okP2,okPair,disj_of h1,disj_of h2,disj_of h3,Bool.and_self,Bool.true_or]
end
end Go.Xs
namespace Go.Xs
noncomputable section
variable {P:Program} {Γ:Facts} {M:Hp} {key:Nat} {β:Type}
def entU (vf:β->XV) (l:List (Nat×Int×β)):List (Nat×XV×XV):=l.map fun e=>(e.1,.int .u64 e.2.1,vf e.2.2)
def keyA (ks:List Int):XV:=.agg (ks.map fun k=>.int .u64 k)
def entA (vf:β->XV) (l:List (Nat×List Int×β)):List (Nat×XV×XV):=l.map fun e=>(e.1,keyA e.2.1,vf e.2.2)
def vI (k:IntKind) (i:Int):XV:=.int k i
def vB (b:Bool):XV:=.bool b
def vX (x:XV):XV:=x
variable {κ:Type} [DecidableEq κ]
def alook:List (Nat×κ×β)->κ->Option β
 | [],_=>none
 | (_,k',v)::l,k=>if k=k' then some v else alook l k
def aidx:List (Nat×κ×β)->κ->Nat->Option (Nat×β)
 | [],_,_=>none
 | (_,k',v)::l,k,i=>if k=k' then some (i,v) else aidx l k (i+1)
def aput:List (Nat×κ×β)->Nat->κ->β->List (Nat×κ×β)
 | [],c,k,v=>[(c,k,v)]
 | (b,k',u)::l,c,k,v=>if k=k' then (b,k',v)::l else (b,k',u)::aput l c k v
def acl (l:List (Nat×κ×β)) (c:Nat) (k:κ):Nat:=if (alook l k).isSome then c else c+1
theorem aidx_look:∀(l:List (Nat×κ×β)) (k:κ) (i:Nat),(aidx l k i).map (·.2)=alook l k
 | [],_,_=>rfl
 | (b,k',v)::l,k,i=>by
   simp only[aidx,alook]
   split
   ·rfl
   ·exact aidx_look l k (i+1)
theorem alook_put_same:∀(l:List (Nat×κ×β)) (c:Nat) (k:κ) (v:β),alook (aput l c k v) k=some v
 | [],c,k,v=>by simp[aput,alook]
 | (b,k',u)::l,c,k,v=>by
   simp only[aput]
   split
   ·rename_i h;simp[alook,h]
   ·rename_i h;simp only[alook,if_neg h];exact alook_put_same l c k v
theorem alook_put_ne:∀(l:List (Nat×κ×β)) (c:Nat) (k j:κ) (v:β),j≠k->alook (aput l c k v) j=alook l j
 | [],c,k,j,v,h=>by simp[aput,alook,h]
 | (b,k',u)::l,c,k,j,v,h=>by
   simp only[aput]
   split
   ·rename_i e;subst e;simp[alook,h]
   ·simp only[alook]
    split
    ·rfl
    ·exact alook_put_ne l c k j v h
theorem alook_put (l:List (Nat×κ×β)) (c:Nat) (k j:κ) (v:β):alook (aput l c k v) j=if j=k then some v else alook l j:=by
 by_cases h:j=k
 ·subst h;rw[if_pos rfl];exact alook_put_same l c j v
 ·rw[if_neg h];exact alook_put_ne l c k j v h
def setV (v:β):List (Nat×κ×β)->Nat->List (Nat×κ×β)
 | [],_=>[]
 | (b,k,_)::l,0=>(b,k,v)::l
 | e::l,i+1=>e::setV v l i
omit [DecidableEq κ] in
theorem setVal_map {kf:κ->XV} {vf:β->XV}:∀(l:List (Nat×κ×β)) (i:Nat) (v:β),setVal (vf v) (l.map fun e=>(e.1,kf e.2.1,vf e.2.2)) i=(setV v l i).map fun e=>(e.1,kf e.2.1,vf e.2.2)
 | [],_,_=>rfl
 | (b,k,u)::l,0,v=>rfl
 | (b,k,u)::l,i+1,v=>by simp only[List.map_cons,setVal,setV,setVal_map l i v]
theorem aput_found:∀(l:List (Nat×κ×β)) (c:Nat) (k:κ) (v:β) (i j:Nat) (u:β),aidx l k i=some (i+j,u)->setV v l j=aput l c k v
 | [],_,_,_,_,_,_,h=>by cases h
 | (b,k',u')::l,c,k,v,i,j,u,h=>by
   simp only[aidx]at h
   simp only[aput]
   split at h
   ·rename_i e
    have:j=0:=by simp at h;omega
    subst this
    rw[if_pos e]
    rfl
   ·rename_i e
    rw[if_neg e]
    have hle:∀(l:List (Nat×κ×β)) (i n:Nat) (u:β),aidx l k i=some (n,u)->i<=n:=by
     intro l
     induction l with
     | nil=>intro i n u h;cases h
     | cons x l ih =>
       obtain⟨b,k',w⟩:=x
       intro i n u h
       simp only[aidx]at h
       split at h
       ·simp at h;omega
       ·have:=ih (i+1) n u h;omega
    have h1:=hle _ _ _ _ h
    obtain⟨j',rfl⟩:∃j',j=j'+1:=⟨j - 1,by omega⟩
    simp only[setV]
    rw[aput_found l c k v (i+1) j' u (by rw[h];congr 2;omega)]
theorem aput_new:∀(l:List (Nat×κ×β)) (c:Nat) (k:κ) (v:β),alook l k=none->aput l c k v=l++[(c,k,v)]
 | [],_,_,_,_=>rfl
 | (b,k',u)::l,c,k,v,h=>by
   simp only[alook]at h
   split at h
   ·cases h
   ·rename_i e
    simp only[aput,if_neg e,List.cons_append,aput_new l c k v h]
theorem find_map {kf:κ->XV} {vf:β->XV} {kt:Nat} (hk:∀a b,keq P kt (kf a) (kf b)=some (decide (a=b))):∀(l:List (Nat×κ×β)) (k:κ) (i:Nat),
 findX P kt (kf k) (l.map fun e=>(e.1,kf e.2.1,vf e.2.2)) i=some ((aidx l k i).map fun r=>(r.1,vf r.2))
 | [],_,_=>rfl
 | (b,k',v)::l,k,i=>by
   simp only[List.map_cons,findX,hk,aidx]
   by_cases e:k=k'
   ·rw[if_pos e,decide_eq_true e];rfl
   ·rw[if_neg e,decide_eq_false e];exact find_map hk l k (i+1)
inductive MQ where
 | i (kt:Nat) (z:XV)
 | a (kt:Nat) (z:XV) (m:Nat)
 | no
def allU:List CK->Bool
 | []=>true
 | .i .u64::l=>allU l
 | _=>false
def mq (P:Program) (t:Nat):MQ:=match P.underlying t with
 | some (.map kt el)=>match zeroX P el,P.underlying kt with
   | some z,some (.int .u64)=>.i kt z
   | some z,some (.struct _)=>match fsh P 40 kt with
     | some l=>match allU l,flatTy P 20 kt l.length,aggT P kt with
       | true,true,true=>.a kt z l.length
       | _,_,_=>.no
     | none=>.no
   | _,_=>.no
 | _=>.no
theorem keq_u (kt:Nat) (a b:Int):keq P kt (.int .u64 a) (.int .u64 b)=some (decide (a=b)):=by simp only[keq,keyEq,decide_true];rfl
theorem okC_keys:∀{l:List CK} {ks:List Int},allU l=true->ks.length=l.length->okC l (ks.map fun k=>XV.int .u64 k)=true
 | [],[],_,_=>rfl
 | [],_::_,_,h=>by simp at h
 | c::l,[],_,h=>by simp at h
 | c::l,k::ks,h,hl=>by
   unfold allU at h
   split at h
   ·rename_i e;cases e
   ·rename_i l' e
    cases e
    simp only[List.map_cons,okC,decide_true,Bool.true_and]
    exact okC_keys h (by simpa using hl)
   ·cases h
theorem eqAll_keys:∀{as bs:List Int},as.length=bs.length->eqAll (as.map fun k=>XV.int .u64 k) (bs.map fun k=>XV.int .u64 k)=decide (as=bs)
 | [],[],_=>by simp[eqAll]
 | [],_::_,h=>by simp at h
 | _::_,[],h=>by simp at h
 | a::as,b::bs,h=>by
   simp only[List.map_cons,eqAll,eqAll_keys (as:=as) (bs:=bs) (by simpa using h),List.cons.injEq,Bool.decide_and]
theorem keyEq_keys:∀{as bs:List Int},as.length=bs.length->keyEq.go (as.map fun k=>XV.int .u64 k) (bs.map fun k=>XV.int .u64 k)=some (decide (as=bs))
 | [],[],_=>by simp[keyEq.go]
 | [],_::_,h=>by simp at h
 | _::_,[],h=>by simp at h
 | a::as,b::bs,h=>by
   simp only[List.map_cons,keyEq.go,decide_true]
   by_cases e:a=b
   ·subst e
    simp only[beq_self_eq_true,keyEq_keys (as:=as) (bs:=bs) (by simpa using h),List.cons.injEq,true_and]
   ·have:(a==b)=false:=by simpa using e
    simp only[this,List.cons.injEq,e,false_and,decide_false]
theorem keq_a {kt m:Nat} {l:List CK} (h1:fsh P 40 kt=some l) (h2:allU l=true) (h3:aggT P kt=true) (hm:l.length=m) {as bs:List Int} (ha:as.length=m) (hb:bs.length=m):keq P kt (keyA as) (keyA bs)=some (decide (as=bs)):=by
 subst hm
 have e1:=eq_flat (P:=P) (Γ:=fun _ _ _=>none) 40 kt l _ _ h1 (okC_keys h2 ha) (okC_keys h2 hb)
 simp only[wrapV,h3]at e1
 rw[eqAll_keys (by omega)]at e1
 have e2:=keyEq_keys (as:=as) (bs:=bs) (by omega)
 simp only[keq,keyA,keyEq,e2,e1]
 by_cases e:as=bs<;>simp[e]
def rowsA (m:Nat) (l:List (Nat×List Int×β)):Prop:=∀e ∈ l,e.2.1.length=m
def outO (ok:Bool) (z:XV) (o:Option XV):XV:=match ok with | true=>.tup [o.getD z,.bool o.isSome] | false=>o.getD z
theorem outO_f (z:XV) (o:Option XV):outO false z o=o.getD z:=rfl
theorem outO_t (z:XV) (o:Option XV):outO true z o = .tup [o.getD z,.bool o.isSome]:=rfl
theorem getD_vI (k:IntKind) (o:Option Int) (z:Int):(o.map (vI k)).getD (.int k z) = .int k (o.getD z):=by cases o<;>rfl
theorem getD_vB (o:Option Bool) (z:Bool):(o.map vB).getD (.bool z) = .bool (o.getD z):=by cases o<;>rfl
theorem isSome_map (f:β->XV) (o:Option β):(o.map f).isSome=o.isSome:=by cases o<;>rfl
def lkA (P:Program) (M:Hp) (t n:Nat) (ix:XV) (ok:Bool):MQ->Option Eff
 | .i kt z=>match ix,tget M n with
   | .int .u64 k,some (.map es _)=>match findX P kt (.int .u64 k) es 0 with
     | some o=>some ⟨outO ok z (o.map (·.2)),[n],[]⟩
     | none=>none
   | _,_=>none
 | .a kt z _=>match ix,tget M n with
   | .agg xs,some (.map es _)=>match keyOk P kt (.agg xs),findX P kt (.agg xs) es 0 with
     | true,some o=>some ⟨outO ok z (o.map (·.2)),[n],[]⟩
     | _,_=>none
   | _,_=>none
 | .no=>none
theorem lookup_mq {t n:Nat} {ix:XV} {ok:Bool} {e:Eff} (h:lkA P M t n ix ok (mq P t)=some e):lookupX P M t (.mm n) ix ok=some e:=by
 unfold mq at h
 unfold lookupX
 split at h
 ·rename_i kt el hu
  rw[hu]
  simp only
  split at h
  ·rename_i z hz hk
   unfold lkA at h
   simp only at h
   split at h<;>(try (cases h;done))
   rename_i k es c hM
   split at h<;>(try (cases h;done))
   rename_i o ho
   cases h
   simp only[keyOk,hk,hz,findIn,hM,ho]
   cases o with
   | none=>cases ok<;>rfl
   | some r=>obtain⟨i,v⟩:=r;cases ok<;>rfl
  ·rename_i z _ hz hk
   split at h
   ·rename_i l hl
    split at h
    ·unfold lkA at h
     simp only at h
     split at h<;>(try (cases h;done))
     rename_i xs es c hM
     split at h<;>(try (cases h;done))
     rename_i o hko ho
     cases h
     simp only[hko,hz,findIn,hM,ho]
     cases o with
     | none=>cases ok<;>rfl
     | some r=>obtain⟨i,v⟩:=r;cases ok<;>rfl
    ·cases h
   ·cases h
  ·cases h
 ·cases h
theorem mq_a {t kt m:Nat} {z:XV} (h:mq P t = .a kt z m):∃c,fsh P 40 kt=some c/\allU c=true/\aggT P kt=true/\c.length=m/\flatTy P 20 kt m=true/\(∃el,P.underlying t=some (.map kt el))/\∃fs,P.underlying kt=some (.struct fs):=by
 unfold mq at h
 split at h
 ·rename_i kt' el hu
  split at h
  ·cases h
  ·rename_i z' fs hz hk
   split at h
   ·rename_i l hl
    split at h
    ·rename_i g1 g2 g3
     cases h
     exact⟨l,hl,g1,g3,rfl,g2,⟨el,hu⟩,fs,hk⟩
    ·cases h
   ·cases h
  ·cases h
 ·cases h
theorem keyOk_a {t kt m:Nat} {z:XV} (h:mq P t = .a kt z m) {ks:List Int} (hk:ks.length=m):keyOk P kt (keyA ks)=true:=by
 obtain⟨c,_,_,_,_,h5,_,fs,h7⟩:=mq_a h
 have e:=keyEq_keys (as:=ks) (bs:=ks) rfl
 simp only[decide_true]at e
 simp only[keyOk,h7,keyA,keyEq,e,List.length_map,hk,h5]
theorem find_kt (kt kt':Nat) (k:Int):∀(es:List (Nat×XV×XV)) (i:Nat),findX P kt (.int .u64 k) es i=findX P kt' (.int .u64 k) es i
 | [],_=>rfl
 | (b,x,v)::es,i=>by
   simp only[findX,keq]
   cases keyEq (.int .u64 k) x with
   | none=>rfl
   | some b=>cases b<;>simp only[find_kt kt kt' k es]
def lkI (P:Program) (M:Hp) (t n:Nat) (k:Int) (ok:Bool) (q:MQ) (o:Option XObj):Option Eff:=match q,o with
 | .i _ z,some (.map es _)=>match findX P 0 (.int .u64 k) es 0 with
   | some r=>some ⟨outO ok z (r.map (·.2)),[n],[]⟩
   | none=>lookupX P M t (.mm n) (.int .u64 k) ok
 | _,_=>lookupX P M t (.mm n) (.int .u64 k) ok
theorem look_int (t n:Nat) (k:Int) (ok:Bool):lookupX P M t (.mm n) (.int .u64 k) ok=lkI P M t n k ok (mq P t) (tget M n):=by
 unfold lkI
 split
 ·rename_i kt z es c h1 h2
  split
  ·rename_i r hr
   refine lookup_mq ?_
   rw[h1]
   simp only[lkA,h2]
   rw[find_kt kt 0,hr]
  ·rfl
 ·rfl
theorem lkI_some {vf:β->XV} (t n kt c:Nat) (k:Int) (ok:Bool) (z:XV) (l:List (Nat×Int×β)):lkI P M t n k ok (.i kt z) (some (.map (entU vf l) c))=some ⟨outO ok z ((alook l k).map vf),[n],[]⟩:=by
 have:=find_map (P:=P) (kf:=fun k=>XV.int .u64 k) (vf:=vf) (kt:=0) (fun a b=>keq_u 0 a b) l k 0
 simp only[lkI,entU,this,Option.map_map]
 rw[<-aidx_look l k 0]
 cases aidx l k 0<;>rfl
def unU:List XV->List Int
 | .int _ k::xs=>k::unU xs
 | _=>[]
def okU:List XV->Bool
 | []=>true
 | .int .u64 _::xs=>okU xs
 | _=>false
theorem okU_map:∀{xs:List XV},okU xs=true->xs=(unU xs).map fun k=>XV.int .u64 k
 | [],_=>rfl
 | x::xs,h=>by
   unfold okU at h
   split at h
   ·rename_i e;cases e
   ·rename_i k xs' e
    cases e
    simp only[unU,List.map_cons]
    rw[<-okU_map h]
   ·cases h
theorem okU_nil:okU []=true:=rfl
theorem okU_int (k:Int) (xs:List XV):okU (.int .u64 k::xs)=okU xs:=rfl
theorem unU_nil:unU []=[]:=rfl
theorem unU_int (kk:IntKind) (k:Int) (xs:List XV):unU (.int kk k::xs)=k::unU xs:=rfl
def upI (P:Program) (M:Hp) (t n:Nat) (k:Int) (v:XV) (q:MQ) (o:Option XObj):Option Eff:=match q,o with
 | .i _ _,some (.map es c)=>match findX P 0 (.int .u64 k) es 0 with
   | some (some (i,_))=>some ⟨.udf,[n],[(n,some (.map (setVal v es i) c))]⟩
   | some none=>some ⟨.udf,[n],[(n,some (.map (es++[(c,.int .u64 k,v)]) (c+1)))]⟩
   | none=>mapUpdX P M t (.mm n) (.int .u64 k) v
 | _,_=>mapUpdX P M t (.mm n) (.int .u64 k) v
theorem upd_int (t n:Nat) (k:Int) (v:XV):mapUpdX P M t (.mm n) (.int .u64 k) v=upI P M t n k v (mq P t) (tget M n):=by
 unfold upI
 split
 ·rename_i kt z es c h1 h2
  have hx:∃el,P.underlying t=some (.map kt el)/\P.underlying kt=some (.int .u64):=by
   unfold mq at h1
   split at h1
   ·rename_i kt' el hu
    split at h1
    ·rename_i z' hz hk
     cases h1
     exact⟨el,hu,hk⟩
    ·split at h1
     ·split at h1<;>cases h1
     ·cases h1
    ·cases h1
   ·cases h1
  obtain⟨el,hu,hk⟩:=hx
  split
  ·rename_i i u hr
   unfold mapUpdX
   simp only[hu,keyOk,hk,h2]
   rw[find_kt kt 0,hr]
  ·rename_i hr
   unfold mapUpdX
   simp only[hu,keyOk,hk,h2]
   rw[find_kt kt 0,hr]
  ·rfl
 ·rfl
theorem upI_gen {vf:β->XV} (t n kt c:Nat) (k:Int) (z:XV) (v:β) (l:List (Nat×Int×β)):upI P M t n k (vf v) (.i kt z) (some (.map (entU vf l) c))=some ⟨.udf,[n],[(n,some (.map (entU vf (aput l c k v)) (acl l c k)))]⟩:=by
 have hf:=find_map (P:=P) (kf:=fun k=>XV.int .u64 k) (vf:=vf) (kt:=0) (fun a b=>keq_u 0 a b) l k 0
 have hl:=aidx_look l k 0
 simp only[upI,entU,hf]
 cases ha:aidx l k 0 with
 | none =>
   rw[ha]at hl
   simp only[Option.map_none,acl,<-hl,Option.isSome_none,Bool.false_eq_true,if_false]
   rw[aput_new l c k v hl.symm]
   simp only[List.map_append,List.map_cons,List.map_nil]
 | some r =>
   obtain⟨j,u⟩:=r
   rw[ha]at hl
   simp only[Option.map_some,acl,<-hl,Option.isSome_some,if_true]
   rw[setVal_map,aput_found l c k v 0 j u (by rw[ha];congr 2;omega)]
theorem upI_I (t n kt c:Nat) (k b:Int) (kk:IntKind) (z:XV) (l:List (Nat×Int×Int)):upI P M t n k (.int kk b) (.i kt z) (some (.map (entU (vI kk) l) c))=some ⟨.udf,[n],[(n,some (.map (entU (vI kk) (aput l c k b)) (acl l c k)))]⟩:=upI_gen (vf:=vI kk) t n kt c k z b l
theorem upI_B (t n kt c:Nat) (k:Int) (b:Bool) (z:XV) (l:List (Nat×Int×Bool)):upI P M t n k (.bool b) (.i kt z) (some (.map (entU vB l) c))=some ⟨.udf,[n],[(n,some (.map (entU vB (aput l c k b)) (acl l c k)))]⟩:=upI_gen (vf:=vB) t n kt c k z b l
theorem upI_X (t n kt c:Nat) (k:Int) (b z:XV) (l:List (Nat×Int×XV)):upI P M t n k b (.i kt z) (some (.map (entU vX l) c))=some ⟨.udf,[n],[(n,some (.map (entU vX (aput l c k b)) (acl l c k)))]⟩:=upI_gen (vf:=vX) t n kt c k z b l
def keyInts:XV->List Int
 | .agg xs=>unU xs
 | _=>[]
theorem unU_map:∀(ks:List Int),unU (ks.map fun k=>XV.int .u64 k)=ks
 | []=>rfl
 | k::ks=>by simp only[List.map_cons,unU,unU_map ks]
theorem keyInts_keyA (ks:List Int):keyInts (keyA ks)=ks:=unU_map ks
def findK (ks:List Int):List (Nat×XV×XV)->Nat->Option (Nat×XV)
 | [],_=>none
 | (_,k,v)::es,i=>if ks=keyInts k then some (i,v) else findK ks es (i+1)
def RowsX (m:Nat) (es:List (Nat×XV×XV)):Prop:=∀e ∈ es,∃ks:List Int,ks.length=m/\e.2.1=keyA ks
theorem findK_ent {vf:β->XV}:∀(l:List (Nat×List Int×β)) (ks:List Int) (i:Nat),findK ks (entA vf l) i=(aidx l ks i).map fun r=>(r.1,vf r.2)
 | [],_,_=>rfl
 | (b,k,v)::l,ks,i=>by
   simp only[entA,List.map_cons,findK,keyInts_keyA,aidx]
   split
   ·rfl
   ·exact findK_ent l ks (i+1)
theorem rowsX_ent {vf:β->XV} {m:Nat} {l:List (Nat×List Int×β)} (h:rowsA m l):RowsX m (entA vf l):=by
 intro e he
 simp only[entA,List.mem_map]at he
 obtain⟨x,hx,rfl⟩:=he
 exact⟨x.2.1,h x hx,rfl⟩
theorem findX_K {t kt m:Nat} {z:XV} (hq:mq P t = .a kt z m) {xs:List XV} (h1:okU xs=true) (h2:xs.length=m):∀(es:List (Nat×XV×XV)) (i:Nat),RowsX m es->findX P kt (.agg xs) es i=some (findK (unU xs) es i)
 | [],_,_=>rfl
 | (b,k,v)::es,i,h=>by
   obtain⟨ks,hk,e⟩:=h (b,k,v) List.mem_cons_self
   simp only at e
   subst e
   obtain⟨c,g1,g2,g3,g4,_⟩:=mq_a hq
   have e:=okU_map h1
   have hl:(unU xs).length=m:=by rw[<-h2];conv=>rhs;rw[e];simp
   have hq':=keq_a g1 g2 g3 g4 hl hk
   simp only[keyA]at hq'
   rw[<-e]at hq'
   simp only[findX,keyA,hq',findK,keyInts,unU_map]
   by_cases e2:unU xs=ks
   ·rw[if_pos e2,decide_eq_true e2]
   ·rw[if_neg e2,decide_eq_false e2]
    exact findX_K hq h1 h2 es (i+1) fun x hx=>h x (List.mem_cons_of_mem _ hx)
open Classical in
def lkR (P:Program) (M:Hp) (t n:Nat) (xs:List XV) (ok:Bool) (q:MQ) (o:Option XObj):Option Eff:=match q,o with
 | .a _ z m,some (.map es _)=>if okU xs=true/\xs.length=m/\RowsX m es then some ⟨outO ok z ((findK (unU xs) es 0).map (·.2)),[n],[]⟩ else lookupX P M t (.mm n) (.agg xs) ok
 | _,_=>lookupX P M t (.mm n) (.agg xs) ok
theorem keyOk_xs {t kt m:Nat} {z:XV} (hq:mq P t = .a kt z m) {xs:List XV} (h1:okU xs=true) (h2:xs.length=m):keyOk P kt (.agg xs)=true:=by
 have e:=okU_map h1
 have hl:(unU xs).length=m:=by rw[<-h2];conv=>rhs;rw[e];simp
 have:=keyOk_a hq hl
 simp only[keyA]at this
 rw[<-e]at this
 exact this
theorem look_agg (t n:Nat) (xs:List XV) (ok:Bool):lookupX P M t (.mm n) (.agg xs) ok=lkR P M t n xs ok (mq P t) (tget M n):=by
 unfold lkR
 split
 ·rename_i kt z m es c h1 h2
  split
  ·rename_i h
   obtain⟨g1,g2,g3⟩:=h
   refine lookup_mq ?_
   rw[h1]
   simp only[lkA,h2,keyOk_xs h1 g1 g2,findX_K h1 g1 g2 es 0 g3]
  ·rfl
 ·rfl
theorem lkR_some {vf:β->XV} (t n kt c m:Nat) (xs:List XV) (ok:Bool) (z:XV) (l:List (Nat×List Int×β)) (h1:okU xs=true) (h2:xs.length=m) (h3:rowsA m l):lkR P M t n xs ok (.a kt z m) (some (.map (entA vf l) c))=some ⟨outO ok z ((alook l (unU xs)).map vf),[n],[]⟩:=by
 simp only[lkR]
 rw[if_pos ⟨h1,h2,rowsX_ent h3⟩,findK_ent]
 simp only[Option.map_map]
 rw[<-aidx_look l (unU xs) 0]
 cases aidx l (unU xs) 0<;>rfl
open Classical in
def upR (P:Program) (M:Hp) (t n:Nat) (xs:List XV) (v:XV) (q:MQ) (o:Option XObj):Option Eff:=match q,o with
 | .a _ _ m,some (.map es c)=>if okU xs=true/\xs.length=m/\RowsX m es then (match findK (unU xs) es 0 with
    | some (i,_)=>some ⟨.udf,[n],[(n,some (.map (setVal v es i) c))]⟩
    | none=>some ⟨.udf,[n],[(n,some (.map (es++[(c,.agg xs,v)]) (c+1)))]⟩) else mapUpdX P M t (.mm n) (.agg xs) v
 | _,_=>mapUpdX P M t (.mm n) (.agg xs) v
theorem upd_agg (t n:Nat) (xs:List XV) (v:XV):mapUpdX P M t (.mm n) (.agg xs) v=upR P M t n xs v (mq P t) (tget M n):=by
 unfold upR
 split
 ·rename_i kt z m es c h1 h2
  split
  ·rename_i h
   obtain⟨g1,g2,g3⟩:=h
   obtain⟨_,_,_,_,_,_,⟨el,hu⟩,_⟩:=mq_a h1
   unfold mapUpdX
   simp only[hu,keyOk_xs h1 g1 g2,h2,findX_K h1 g1 g2 es 0 g3]
   cases findK (unU xs) es 0 with
   | none=>rfl
   | some r=>rfl
  ·rfl
 ·rfl
theorem upR_gen {vf:β->XV} (t n kt c m:Nat) (xs:List XV) (v:β) (z:XV) (l:List (Nat×List Int×β)) (h1:okU xs=true) (h2:xs.length=m) (h3:rowsA m l):upR P M t n xs (vf v) (.a kt z m) (some (.map (entA vf l) c))=some ⟨.udf,[n],[(n,some (.map (entA vf (aput l c (unU xs) v)) (acl l c (unU xs))))]⟩:=by
 simp only[upR]
 rw[if_pos ⟨h1,h2,rowsX_ent h3⟩,findK_ent]
 have hl:=aidx_look l (unU xs) 0
 cases ha:aidx l (unU xs) 0 with
 | none =>
   rw[ha]at hl
   simp only[Option.map_none,acl,<-hl,Option.isSome_none,Bool.false_eq_true,if_false]
   rw[aput_new l c (unU xs) v hl.symm]
   simp only[entA,List.map_append,List.map_cons,List.map_nil,keyA]
   rw[<-okU_map h1]
 | some r =>
   obtain⟨j,u⟩:=r
   rw[ha]at hl
   simp only[Option.map_some,acl,<-hl,Option.isSome_some,if_true]
   simp only[entA]
   rw[setVal_map,aput_found l c (unU xs) v 0 j u (by rw[ha];congr 2;omega)]
theorem upR_I (t n kt c m:Nat) (xs:List XV) (kk:IntKind) (b:Int) (z:XV) (l:List (Nat×List Int×Int)) (h1:okU xs=true) (h2:xs.length=m) (h3:rowsA m l):upR P M t n xs (.int kk b) (.a kt z m) (some (.map (entA (vI kk) l) c))=some ⟨.udf,[n],[(n,some (.map (entA (vI kk) (aput l c (unU xs) b)) (acl l c (unU xs))))]⟩:=upR_gen (vf:=vI kk) t n kt c m xs b z l h1 h2 h3
theorem rowsA_put {m c:Nat} {k:List Int} {v:β}:∀{l:List (Nat×List Int×β)},rowsA m l->k.length=m->rowsA m (aput l c k v)
 | [],_,hk=>by
   intro e he
   simp only[aput,List.mem_singleton]at he
   subst he;exact hk
 | (b,k',u)::l,h,hk=>by
   intro e he
   simp only[aput]at he
   split at he
   ·rcases List.mem_cons.1 he with rfl | he
    ·exact h (b,k',u) List.mem_cons_self
    ·exact h e (List.mem_cons_of_mem _ he)
   ·rcases List.mem_cons.1 he with rfl | he
    ·exact h (b,k',u) List.mem_cons_self
    ·exact rowsA_put (l:=l) (fun x hx=>h x (List.mem_cons_of_mem _ hx)) hk e he
end
end Go.Xs
namespace Go.Xs
noncomputable section
variable {P:Program} {ρ:Rho} {n:Nat} {env:Env} {M:Hp} {nx i:Nat} {all os:List Oper} {F:XS->Prop} {G:XS->Log->Prop} {log:Log} {d:Option Nat} {ty:TypeId} {pos:String} {after:Array Edge} {g:Nat×Bool}
theorem tgetE (t:Tr XV) (k n:Nat) (v:XV):tget (tset t k v) n=if k=n then some v else tget t n:=tget_tset t k n v
def KEq (a b:Nat):Prop:=a=b
instance (a b:Nat):Decidable (KEq a b):=inferInstanceAs (Decidable (a=b))
theorem tgetH (t:Tr XObj) (k n:Nat) (v:XObj):tget (tset t k v) n=if KEq k n then some v else tget t n:=tget_tset t k n v
theorem tdelH (t:Tr XObj) (k n:Nat):tget (tdel t k) n=if KEq k n then none else tget t n:=tget_tdel t k n
theorem KEq_self (a:Nat):KEq a a=True:=by simp[KEq]
theorem KEq_ne (a b:Nat) (h:a≠b):KEq a b=False:=by simp[KEq,h]
theorem b_max (ts:List Nat) (k:IntKind) (a b:Int):builtinX P M nx .max ts [.int k a,.int k b]=some ⟨.int k (max a b),[],[]⟩:=by simp[builtinX,foldInts,Eff.pure]
theorem bi_quo (k:IntKind) (a b:Int) (h:b≠0):binInt .quo k a k b=some (.int k (k.wrap (a.tdiv b))):=by simp[binInt,h]
theorem bi_rem (k:IntKind) (a b:Int) (h:b≠0):binInt .rem k a k b=some (.int k (a.tmod b)):=by simp[binInt,h]
def lkN (P:Program) (M:Hp) (t:Nat) (k:Int) (ok:Bool):MQ->Option Eff
 | .i _ z=>some ⟨outO ok z none,[],[]⟩
 | _=>lookupX P M t .nilm (.int .u64 k) ok
theorem look_nil (t:Nat) (k:Int) (ok:Bool):lookupX P M t .nilm (.int .u64 k) ok=lkN P M t k ok (mq P t):=by
 unfold lkN
 split
 ·rename_i kt z h
  unfold mq at h
  unfold lookupX
  split at h
  ·rename_i kt' el hu
   rw[hu]
   simp only
   split at h
   ·rename_i z' hz hk
    cases h
    simp only[keyOk,hk,hz,findIn]
    cases ok<;>rfl
   ·split at h
    ·split at h<;>cases h
    ·cases h
   ·cases h
  ·cases h
 ·rfl
theorem lkN_i (t kt:Nat) (k:Int) (ok:Bool) (z:XV):lkN P M t k ok (.i kt z)=some ⟨outO ok z none,[],[]⟩:=rfl
theorem sN_s {d:Nat} {v:XV} {rd:List Nat} {us:List (Nat×Option XObj)}:sN P ρ n all os env M nx (some d) F (some ⟨v,rd,us⟩)=if d<n then RN P ρ n all os ⟨tset env d v,happ M us,nx+1⟩ F else False:=by
 split
 ·rename_i h;exact sN_some h
 ·rename_i h
  have hb:Nat.blt d n=false:=by cases hb:Nat.blt d n with | false=>rfl | true=>rw[Nat.blt_eq]at hb;exact(h hb).elim
  simp only[sN,putX,hb]
  simp
theorem sD_s {d:Nat} {v:XV} {rd:List Nat} {us:List (Nat×Option XObj)}:sD P ρ n all os i env M nx log (some d) G (some ⟨v,rd,us⟩)=if d<n then RD P ρ n all os (i+1) ⟨tset env d v,happ M us,nx+1⟩ (logOf i ⟨v,rd,us⟩ log) G else False:=by
 split
 ·rename_i h;exact sD_some h
 ·rename_i h
  have hb:Nat.blt d n=false:=by cases hb:Nat.blt d n with | false=>rfl | true=>rw[Nat.blt_eq]at hb;exact(h hb).elim
  simp only[sD,putX,hb]
  simp
theorem aN_s {d:Nat} {v:XV}:aN P ρ n all os env (some d) F (v,M,nx)=if d<n then RN P ρ n all os ⟨tset env d v,M,nx⟩ F else False:=by
 split
 ·rename_i h;exact aN_some h
 ·rename_i h
  have hb:Nat.blt d n=false:=by cases hb:Nat.blt d n with | false=>rfl | true=>rw[Nat.blt_eq]at hb;exact(h hb).elim
  simp only[aN,putX,hb]
  simp
theorem aD_s {d:Nat} {v:XV}:aD P ρ n all os i env (some d) G (v,M,nx)=if d<n then RD P ρ n all os (i+1) ⟨tset env d v,M,nx⟩ [] G else False:=by
 split
 ·rename_i h;exact aD_some h
 ·rename_i h
  have hb:Nat.blt d n=false:=by cases hb:Nat.blt d n with | false=>rfl | true=>rw[Nat.blt_eq]at hb;exact(h hb).elim
  simp only[aD,putX,hb]
  simp
theorem gN_s {d:Nat} {op:Op}:gN P ρ n all os env M nx (some d) op F (some false)=if d<n then RN P ρ n all os ⟨tset env d .udf,M,nx⟩ F else False:=by
 split
 ·rename_i h;exact gN_false h
 ·rename_i h
  have hb:Nat.blt d n=false:=by cases hb:Nat.blt d n with | false=>rfl | true=>rw[Nat.blt_eq]at hb;exact(h hb).elim
  simp only[gN,putX,hb]
  simp
theorem gC_s {d:Nat} {c:Call}:gC P ρ n all os env M nx (some d) c F (some false)=if d<n then RN P ρ n all os ⟨tset env d .udf,M,nx⟩ F else False:=by
 split
 ·rename_i h;exact gC_false h
 ·rename_i h
  have hb:Nat.blt d n=false:=by cases hb:Nat.blt d n with | false=>rfl | true=>rw[Nat.blt_eq]at hb;exact(h hb).elim
  simp only[gC,putX,hb]
  simp
theorem gD_s {d:Nat} {op:Op}:gD P ρ n all os i env M nx log (some d) op G (some false)=if d<n then RD P ρ n all os (i+1) ⟨tset env d .udf,M,nx⟩ log G else False:=by
 split
 ·rename_i h;exact gD_false h
 ·rename_i h
  have hb:Nat.blt d n=false:=by cases hb:Nat.blt d n with | false=>rfl | true=>rw[Nat.blt_eq]at hb;exact(h hb).elim
  simp only[gD,putX,hb]
  simp
theorem RN_move (x:Operand):RN P ρ n all (⟨d,.move x,ty,pos,after,none⟩::os) ⟨env,M,nx⟩ F=sN P ρ n all os env M nx d F (xop P g0 env M nx (.move x)):=RN_op rfl
theorem RG_move (x:Operand):RN P ρ n all (⟨d,.move x,ty,pos,after,some g⟩::os) ⟨env,M,nx⟩ F=gN P ρ n all os env M nx d (.move x) F (guardX all env (some g)):=RN_gd rfl
theorem RD_move (x:Operand):RD P ρ n all (⟨d,.move x,ty,pos,after,none⟩::os) i ⟨env,M,nx⟩ log G=sD P ρ n all os i env M nx log d G (xop P g0 env M nx (.move x)):=RD_op rfl
theorem RH_move (x:Operand):RD P ρ n all (⟨d,.move x,ty,pos,after,some g⟩::os) i ⟨env,M,nx⟩ log G=gD P ρ n all os i env M nx log d (.move x) G (guardX all env (some g)):=RD_gd rfl
theorem RN_assign (x:Operand):RN P ρ n all (⟨d,.assign x,ty,pos,after,none⟩::os) ⟨env,M,nx⟩ F=sN P ρ n all os env M nx d F (xop P g0 env M nx (.assign x)):=RN_op rfl
theorem RD_assign (x:Operand):RD P ρ n all (⟨d,.assign x,ty,pos,after,none⟩::os) i ⟨env,M,nx⟩ log G=sD P ρ n all os i env M nx log d G (xop P g0 env M nx (.assign x)):=RD_op rfl
theorem RN_pick (c a b:Operand):RN P ρ n all (⟨d,.pick c a b,ty,pos,after,none⟩::os) ⟨env,M,nx⟩ F=sN P ρ n all os env M nx d F (xop P g0 env M nx (.pick c a b)):=RN_op rfl
theorem RG_pick (c a b:Operand):RN P ρ n all (⟨d,.pick c a b,ty,pos,after,some g⟩::os) ⟨env,M,nx⟩ F=gN P ρ n all os env M nx d (.pick c a b) F (guardX all env (some g)):=RN_gd rfl
theorem RD_pick (c a b:Operand):RD P ρ n all (⟨d,.pick c a b,ty,pos,after,none⟩::os) i ⟨env,M,nx⟩ log G=sD P ρ n all os i env M nx log d G (xop P g0 env M nx (.pick c a b)):=RD_op rfl
theorem RN_alloc (t:TypeId):RN P ρ n all (⟨d,.alloc t,ty,pos,after,none⟩::os) ⟨env,M,nx⟩ F=sN P ρ n all os env M nx d F (xop P g0 env M nx (.alloc t)):=RN_op rfl
theorem RD_alloc (t:TypeId):RD P ρ n all (⟨d,.alloc t,ty,pos,after,none⟩::os) i ⟨env,M,nx⟩ log G=sD P ρ n all os i env M nx log d G (xop P g0 env M nx (.alloc t)):=RD_op rfl
theorem RN_box (t:TypeId) (v:Operand):RN P ρ n all (⟨d,.box t v,ty,pos,after,none⟩::os) ⟨env,M,nx⟩ F=sN P ρ n all os env M nx d F (xop P g0 env M nx (.box t v)):=RN_op rfl
theorem RD_box (t:TypeId) (v:Operand):RD P ρ n all (⟨d,.box t v,ty,pos,after,none⟩::os) i ⟨env,M,nx⟩ log G=sD P ρ n all os i env M nx log d G (xop P g0 env M nx (.box t v)):=RD_op rfl
theorem RN_build (t:TypeId) (ps:Array (Nat×Operand)):RN P ρ n all (⟨d,.build t ps,ty,pos,after,none⟩::os) ⟨env,M,nx⟩ F=sN P ρ n all os env M nx d F (xop P g0 env M nx (.build t ps)):=RN_op rfl
theorem RD_build (t:TypeId) (ps:Array (Nat×Operand)):RD P ρ n all (⟨d,.build t ps,ty,pos,after,none⟩::os) i ⟨env,M,nx⟩ log G=sD P ρ n all os i env M nx log d G (xop P g0 env M nx (.build t ps)):=RD_op rfl
theorem RN_buildSlice (t:TypeId) (len:Nat) (ps:Array (Nat×Operand)):RN P ρ n all (⟨d,.buildSlice t len ps,ty,pos,after,none⟩::os) ⟨env,M,nx⟩ F=sN P ρ n all os env M nx d F (xop P g0 env M nx (.buildSlice t len ps)):=RN_op rfl
theorem RD_buildSlice (t:TypeId) (len:Nat) (ps:Array (Nat×Operand)):RD P ρ n all (⟨d,.buildSlice t len ps,ty,pos,after,none⟩::os) i ⟨env,M,nx⟩ log G=sD P ρ n all os i env M nx log d G (xop P g0 env M nx (.buildSlice t len ps)):=RD_op rfl
theorem RN_load (t:TypeId) (a:Operand):RN P ρ n all (⟨d,.load t a,ty,pos,after,none⟩::os) ⟨env,M,nx⟩ F=sN P ρ n all os env M nx d F (xop P g0 env M nx (.load t a)):=RN_op rfl
theorem RG_load (t:TypeId) (a:Operand):RN P ρ n all (⟨d,.load t a,ty,pos,after,some g⟩::os) ⟨env,M,nx⟩ F=gN P ρ n all os env M nx d (.load t a) F (guardX all env (some g)):=RN_gd rfl
theorem RD_load (t:TypeId) (a:Operand):RD P ρ n all (⟨d,.load t a,ty,pos,after,none⟩::os) i ⟨env,M,nx⟩ log G=sD P ρ n all os i env M nx log d G (xop P g0 env M nx (.load t a)):=RD_op rfl
theorem RH_load (t:TypeId) (a:Operand):RD P ρ n all (⟨d,.load t a,ty,pos,after,some g⟩::os) i ⟨env,M,nx⟩ log G=gD P ρ n all os i env M nx log d (.load t a) G (guardX all env (some g)):=RD_gd rfl
theorem RN_store (t:TypeId) (a v:Operand):RN P ρ n all (⟨d,.store t a v,ty,pos,after,none⟩::os) ⟨env,M,nx⟩ F=sN P ρ n all os env M nx d F (xop P g0 env M nx (.store t a v)):=RN_op rfl
theorem RD_store (t:TypeId) (a v:Operand):RD P ρ n all (⟨d,.store t a v,ty,pos,after,none⟩::os) i ⟨env,M,nx⟩ log G=sD P ρ n all os i env M nx log d G (xop P g0 env M nx (.store t a v)):=RD_op rfl
theorem RN_nilCheck (x:Operand):RN P ρ n all (⟨d,.nilCheck x,ty,pos,after,none⟩::os) ⟨env,M,nx⟩ F=sN P ρ n all os env M nx d F (xop P g0 env M nx (.nilCheck x)):=RN_op rfl
theorem RG_nilCheck (x:Operand):RN P ρ n all (⟨d,.nilCheck x,ty,pos,after,some g⟩::os) ⟨env,M,nx⟩ F=gN P ρ n all os env M nx d (.nilCheck x) F (guardX all env (some g)):=RN_gd rfl
theorem RD_nilCheck (x:Operand):RD P ρ n all (⟨d,.nilCheck x,ty,pos,after,none⟩::os) i ⟨env,M,nx⟩ log G=sD P ρ n all os i env M nx log d G (xop P g0 env M nx (.nilCheck x)):=RD_op rfl
theorem RN_binOp (op:BinOp) (t:TypeId) (x y:Operand) (u:TypeId):RN P ρ n all (⟨d,.binOp op t x y u,ty,pos,after,none⟩::os) ⟨env,M,nx⟩ F=sN P ρ n all os env M nx d F (xop P g0 env M nx (.binOp op t x y u)):=RN_op rfl
theorem RG_binOp (op:BinOp) (t:TypeId) (x y:Operand) (u:TypeId):RN P ρ n all (⟨d,.binOp op t x y u,ty,pos,after,some g⟩::os) ⟨env,M,nx⟩ F=gN P ρ n all os env M nx d (.binOp op t x y u) F (guardX all env (some g)):=RN_gd rfl
theorem RD_binOp (op:BinOp) (t:TypeId) (x y:Operand) (u:TypeId):RD P ρ n all (⟨d,.binOp op t x y u,ty,pos,after,none⟩::os) i ⟨env,M,nx⟩ log G=sD P ρ n all os i env M nx log d G (xop P g0 env M nx (.binOp op t x y u)):=RD_op rfl
theorem RH_binOp (op:BinOp) (t:TypeId) (x y:Operand) (u:TypeId):RD P ρ n all (⟨d,.binOp op t x y u,ty,pos,after,some g⟩::os) i ⟨env,M,nx⟩ log G=gD P ρ n all os i env M nx log d (.binOp op t x y u) G (guardX all env (some g)):=RD_gd rfl
theorem RN_unOp (op:UnOp) (t:TypeId) (x:Operand):RN P ρ n all (⟨d,.unOp op t x,ty,pos,after,none⟩::os) ⟨env,M,nx⟩ F=sN P ρ n all os env M nx d F (xop P g0 env M nx (.unOp op t x)):=RN_op rfl
theorem RG_unOp (op:UnOp) (t:TypeId) (x:Operand):RN P ρ n all (⟨d,.unOp op t x,ty,pos,after,some g⟩::os) ⟨env,M,nx⟩ F=gN P ρ n all os env M nx d (.unOp op t x) F (guardX all env (some g)):=RN_gd rfl
theorem RD_unOp (op:UnOp) (t:TypeId) (x:Operand):RD P ρ n all (⟨d,.unOp op t x,ty,pos,after,none⟩::os) i ⟨env,M,nx⟩ log G=sD P ρ n all os i env M nx log d G (xop P g0 env M nx (.unOp op t x)):=RD_op rfl
theorem RH_unOp (op:UnOp) (t:TypeId) (x:Operand):RD P ρ n all (⟨d,.unOp op t x,ty,pos,after,some g⟩::os) i ⟨env,M,nx⟩ log G=gD P ρ n all os i env M nx log d (.unOp op t x) G (guardX all env (some g)):=RD_gd rfl
theorem RN_convert (s t:TypeId) (x:Operand):RN P ρ n all (⟨d,.convert s t x,ty,pos,after,none⟩::os) ⟨env,M,nx⟩ F=sN P ρ n all os env M nx d F (xop P g0 env M nx (.convert s t x)):=RN_op rfl
theorem RG_convert (s t:TypeId) (x:Operand):RN P ρ n all (⟨d,.convert s t x,ty,pos,after,some g⟩::os) ⟨env,M,nx⟩ F=gN P ρ n all os env M nx d (.convert s t x) F (guardX all env (some g)):=RN_gd rfl
theorem RD_convert (s t:TypeId) (x:Operand):RD P ρ n all (⟨d,.convert s t x,ty,pos,after,none⟩::os) i ⟨env,M,nx⟩ log G=sD P ρ n all os i env M nx log d G (xop P g0 env M nx (.convert s t x)):=RD_op rfl
theorem RN_makeFunc (q:Fn) (xs ys:Array Operand):RN P ρ n all (⟨d,.makeFunc q xs ys,ty,pos,after,none⟩::os) ⟨env,M,nx⟩ F=sN P ρ n all os env M nx d F (xop P g0 env M nx (.makeFunc q xs ys)):=RN_op rfl
theorem RN_makeMap (t:TypeId) (r:Option Operand):RN P ρ n all (⟨d,.makeMap t r,ty,pos,after,none⟩::os) ⟨env,M,nx⟩ F=sN P ρ n all os env M nx d F (xop P g0 env M nx (.makeMap t r)):=RN_op rfl
theorem RD_makeMap (t:TypeId) (r:Option Operand):RD P ρ n all (⟨d,.makeMap t r,ty,pos,after,none⟩::os) i ⟨env,M,nx⟩ log G=sD P ρ n all os i env M nx log d G (xop P g0 env M nx (.makeMap t r)):=RD_op rfl
theorem RN_fieldAddr (t:TypeId) (x:Operand) (k:Nat):RN P ρ n all (⟨d,.fieldAddr t x k,ty,pos,after,none⟩::os) ⟨env,M,nx⟩ F=sN P ρ n all os env M nx d F (xop P g0 env M nx (.fieldAddr t x k)):=RN_op rfl
theorem RG_fieldAddr (t:TypeId) (x:Operand) (k:Nat):RN P ρ n all (⟨d,.fieldAddr t x k,ty,pos,after,some g⟩::os) ⟨env,M,nx⟩ F=gN P ρ n all os env M nx d (.fieldAddr t x k) F (guardX all env (some g)):=RN_gd rfl
theorem RD_fieldAddr (t:TypeId) (x:Operand) (k:Nat):RD P ρ n all (⟨d,.fieldAddr t x k,ty,pos,after,none⟩::os) i ⟨env,M,nx⟩ log G=sD P ρ n all os i env M nx log d G (xop P g0 env M nx (.fieldAddr t x k)):=RD_op rfl
theorem RH_fieldAddr (t:TypeId) (x:Operand) (k:Nat):RD P ρ n all (⟨d,.fieldAddr t x k,ty,pos,after,some g⟩::os) i ⟨env,M,nx⟩ log G=gD P ρ n all os i env M nx log d (.fieldAddr t x k) G (guardX all env (some g)):=RD_gd rfl
theorem RN_indexAddr (t:TypeId) (x y:Operand):RN P ρ n all (⟨d,.indexAddr t x y,ty,pos,after,none⟩::os) ⟨env,M,nx⟩ F=sN P ρ n all os env M nx d F (xop P g0 env M nx (.indexAddr t x y)):=RN_op rfl
theorem RG_indexAddr (t:TypeId) (x y:Operand):RN P ρ n all (⟨d,.indexAddr t x y,ty,pos,after,some g⟩::os) ⟨env,M,nx⟩ F=gN P ρ n all os env M nx d (.indexAddr t x y) F (guardX all env (some g)):=RN_gd rfl
theorem RD_indexAddr (t:TypeId) (x y:Operand):RD P ρ n all (⟨d,.indexAddr t x y,ty,pos,after,none⟩::os) i ⟨env,M,nx⟩ log G=sD P ρ n all os i env M nx log d G (xop P g0 env M nx (.indexAddr t x y)):=RD_op rfl
theorem RH_indexAddr (t:TypeId) (x y:Operand):RD P ρ n all (⟨d,.indexAddr t x y,ty,pos,after,some g⟩::os) i ⟨env,M,nx⟩ log G=gD P ρ n all os i env M nx log d (.indexAddr t x y) G (guardX all env (some g)):=RD_gd rfl
theorem RN_index (t:TypeId) (x y:Operand):RN P ρ n all (⟨d,.index t x y,ty,pos,after,none⟩::os) ⟨env,M,nx⟩ F=sN P ρ n all os env M nx d F (xop P g0 env M nx (.index t x y)):=RN_op rfl
theorem RN_lookup (t:TypeId) (x y:Operand) (ok:Bool):RN P ρ n all (⟨d,.lookup t x y ok,ty,pos,after,none⟩::os) ⟨env,M,nx⟩ F=sN P ρ n all os env M nx d F (xop P g0 env M nx (.lookup t x y ok)):=RN_op rfl
theorem RG_lookup (t:TypeId) (x y:Operand) (ok:Bool):RN P ρ n all (⟨d,.lookup t x y ok,ty,pos,after,some g⟩::os) ⟨env,M,nx⟩ F=gN P ρ n all os env M nx d (.lookup t x y ok) F (guardX all env (some g)):=RN_gd rfl
theorem RD_lookup (t:TypeId) (x y:Operand) (ok:Bool):RD P ρ n all (⟨d,.lookup t x y ok,ty,pos,after,none⟩::os) i ⟨env,M,nx⟩ log G=sD P ρ n all os i env M nx log d G (xop P g0 env M nx (.lookup t x y ok)):=RD_op rfl
theorem RD_mapUpdate (t:TypeId) (m k v:Operand):RD P ρ n all (⟨d,.mapUpdate t m k v,ty,pos,after,none⟩::os) i ⟨env,M,nx⟩ log G=sD P ρ n all os i env M nx log d G (xop P g0 env M nx (.mapUpdate t m k v)):=RD_op rfl
theorem RD_mapEntry (t:TypeId) (m k:Operand):RD P ρ n all (⟨d,.mapEntry t m k,ty,pos,after,none⟩::os) i ⟨env,M,nx⟩ log G=sD P ρ n all os i env M nx log d G (xop P g0 env M nx (.mapEntry t m k)):=RD_op rfl
theorem RD_entryStore (t:TypeId) (m k v:Operand):RD P ρ n all (⟨d,.entryStore t m k v,ty,pos,after,none⟩::os) i ⟨env,M,nx⟩ log G=sD P ρ n all os i env M nx log d G (xop P g0 env M nx (.entryStore t m k v)):=RD_op rfl
theorem RN_range (t:TypeId) (x:Operand):RN P ρ n all (⟨d,.range t x,ty,pos,after,none⟩::os) ⟨env,M,nx⟩ F=sN P ρ n all os env M nx d F (xop P g0 env M nx (.range t x)):=RN_op rfl
theorem RN_entry (x:Operand):RN P ρ n all (⟨d,.entry x,ty,pos,after,none⟩::os) ⟨env,M,nx⟩ F=sN P ρ n all os env M nx d F (xop P g0 env M nx (.entry x)):=RN_op rfl
theorem RN_extract (x:Operand) (k:Nat):RN P ρ n all (⟨d,.extract x k,ty,pos,after,none⟩::os) ⟨env,M,nx⟩ F=sN P ρ n all os env M nx d F (xop P g0 env M nx (.extract x k)):=RN_op rfl
theorem RD_extract (x:Operand) (k:Nat):RD P ρ n all (⟨d,.extract x k,ty,pos,after,none⟩::os) i ⟨env,M,nx⟩ log G=sD P ρ n all os i env M nx log d G (xop P g0 env M nx (.extract x k)):=RD_op rfl
theorem RN_builtin (b:Builtin) (xs:Array Operand) (ts:Array TypeId):RN P ρ n all (⟨d,.call ⟨.builtin b,xs,ts⟩,ty,pos,after,none⟩::os) ⟨env,M,nx⟩ F=sN P ρ n all os env M nx d F (xop P g0 env M nx (.call ⟨.builtin b,xs,ts⟩)):=RN_op rfl
theorem RG_builtin (b:Builtin) (xs:Array Operand) (ts:Array TypeId):RN P ρ n all (⟨d,.call ⟨.builtin b,xs,ts⟩,ty,pos,after,some g⟩::os) ⟨env,M,nx⟩ F=gN P ρ n all os env M nx d (.call ⟨.builtin b,xs,ts⟩) F (guardX all env (some g)):=RN_gd rfl
theorem RD_builtin (b:Builtin) (xs:Array Operand) (ts:Array TypeId):RD P ρ n all (⟨d,.call ⟨.builtin b,xs,ts⟩,ty,pos,after,none⟩::os) i ⟨env,M,nx⟩ log G=sD P ρ n all os i env M nx log d G (xop P g0 env M nx (.call ⟨.builtin b,xs,ts⟩)):=RD_op rfl
theorem RH_builtin (b:Builtin) (xs:Array Operand) (ts:Array TypeId):RD P ρ n all (⟨d,.call ⟨.builtin b,xs,ts⟩,ty,pos,after,some g⟩::os) i ⟨env,M,nx⟩ log G=gD P ρ n all os i env M nx log d (.call ⟨.builtin b,xs,ts⟩) G (guardX all env (some g)):=RD_gd rfl
theorem RN_value (f:Operand) (xs:Array Operand) (ts:Array TypeId):RN P ρ n all (⟨d,.call ⟨.value f,xs,ts⟩,ty,pos,after,none⟩::os) ⟨env,M,nx⟩ F=CN P ρ n all os env M nx d F (calleeX env ⟨.value f,xs,ts⟩):=RN_call rfl
theorem RG_value (f:Operand) (xs:Array Operand) (ts:Array TypeId):RN P ρ n all (⟨d,.call ⟨.value f,xs,ts⟩,ty,pos,after,some g⟩::os) ⟨env,M,nx⟩ F=gC P ρ n all os env M nx d ⟨.value f,xs,ts⟩ F (guardX all env (some g)):=RN_gc rfl
theorem RD_value (f:Operand) (xs:Array Operand) (ts:Array TypeId):RD P ρ n all (⟨d,.call ⟨.value f,xs,ts⟩,ty,pos,after,none⟩::os) i ⟨env,M,nx⟩ log G=CD P ρ n all os i env M nx log d G (calleeX env ⟨.value f,xs,ts⟩):=RD_call rfl
end
end Go.Xs
namespace Go.Xs
def rr0:=And.intro @W_seq<|And.intro @W_block<|And.intro @W_skip<|And.intro @W_ret<|And.intro @W_exit<|And.intro @T_nil<|And.intro @T_sq<|And.intro @T_sq_ret<|And.intro @T_sq_exit<|And.intro @T_bk<|And.intro @T_bk_ret<|And.intro @T_bk_exit<|And.intro @T_lp<|And.intro @T_lp_ret<|And.intro @T_lp_exit<|And.intro @W_cond<|And.intro @cW_true<|And.intro @cW_false<|And.intro @W_regN<|And.intro @W_regD<|And.intro @sN_none<|And.intro @RN_nil<|And.intro @gN_true<|And.intro @gC_true<|And.intro @slC_some<|And.intro @slotX_eq<|And.intro @guard_eq<|And.intro @gdA_some<|And.intro @gdB_bool <| @gdB_udf
def rr1:=And.intro @beq_tt<|And.intro @beq_tf<|And.intro @beq_ft<|And.intro @beq_ff<|And.intro @sD_none<|And.intro @gD_true<|And.intro @RD_nil<|And.intro @effV_some<|And.intro @opvC_some<|And.intro @opv_tmp<|And.intro @opv_const<|And.intro @opv_func<|And.intro @leaf_int<|And.intro @leaf_bool<|And.intro @leaf_nils<|And.intro @leaf_nilp<|And.intro @leaf_nilf<|And.intro @leaf_nilm<|And.intro @leaf_str<|And.intro @opvs_nil<|And.intro @opvs_cons<|And.intro @pairs_nil<|And.intro @pairs_cons<|And.intro @happ_0<|And.intro @happ_1<|And.intro @happ_2<|And.intro @log_0<|And.intro @log_1<|And.intro @log_2 <| @ukeys_0
def rr2:=And.intro @ukeys_1<|And.intro @ofCells_eq<|And.intro @ocC_f<|And.intro @ocC_t<|And.intro @fieldAddr_eq<|And.intro @faC_some<|And.intro @indexAddr_eq<|And.intro @iaC_some<|And.intro @index_agg<|And.intro @ixC_some<|And.intro @apl_eq<|And.intro @x_move<|And.intro @x_assign<|And.intro @x_pick<|And.intro @pickC_t<|And.intro @pickC_f<|And.intro @x_nilCheck<|And.intro @nck_mp<|And.intro @x_load<|And.intro @ofC_some<|And.intro @ldC_row<|And.intro @load_eq<|And.intro @x_store<|And.intro @store_eq<|And.intro @stC_row<|And.intro @cells_agg<|And.intro @cells_int<|And.intro @cells_bool<|And.intro @cells_mp <| @cells_sl
def rr3:=And.intro @cells_mm<|And.intro @cells_nils<|And.intro @cells_fn<|And.intro @cells_str<|And.intro @plain_int<|And.intro @plain_bool<|And.intro @plain_mp<|And.intro @plain_sl<|And.intro @plain_mm<|And.intro @plain_nils<|And.intro @plain_nilf<|And.intro @plain_fn<|And.intro @plain_str<|And.intro @x_fieldAddr<|And.intro @x_indexAddr<|And.intro @x_index<|And.intro @x_lookup<|And.intro @x_mapUpdate<|And.intro @x_binOp<|And.intro @x_unOp<|And.intro @x_convert<|And.intro @x_alloc<|And.intro @alC_some<|And.intro @x_box<|And.intro @bxC_true<|And.intro @x_makeMap<|And.intro @x_makeFunc<|And.intro @x_extract<|And.intro @exC_tup <| @fillX_cons
def rr4:=And.intro @fillX_nil<|And.intro @fillC_some<|And.intro @putAt_0<|And.intro @putAt_s<|And.intro @over_0<|And.intro @over_s<|And.intro @bdC_some<|And.intro @build_eq<|And.intro @bd4_s<|And.intro @bd4_a<|And.intro @x_build<|And.intro @x_buildSlice<|And.intro @bsC_some<|And.intro @buildSlice_eq<|And.intro @bs2_some<|And.intro @spa_eq<|And.intro @repX_0<|And.intro @repX_1<|And.intro @bin_int<|And.intro @bi_add<|And.intro @bi_sub<|And.intro @bi_mul<|And.intro @bi_eql<|And.intro @bi_neq<|And.intro @bi_lss<|And.intro @bi_leq<|And.intro @bi_gtr<|And.intro @bi_geq<|And.intro @un_not <| @conv_int
def rr5:=And.intro @cvC_some<|And.intro @nil_mp<|And.intro @nil_nilp<|And.intro @nil_nils<|And.intro @nil_mm<|And.intro @nil_nilm<|And.intro @nlC_eql<|And.intro @isPt_pt<|And.intro @isSl_sl<|And.intro @isMp_mp<|And.intro @x_builtin<|And.intro @b_len<|And.intro @len_sl<|And.intro @len_nils<|And.intro @lnC_true<|And.intro @b_append'<|And.intro @apD_true<|And.intro @append_eq<|And.intro @apC_nils<|And.intro @apC_full<|And.intro @apE_row<|And.intro @elz_el2<|And.intro @el2_sl<|And.intro @elC_row<|And.intro @callee_eq<|And.intro @clC_fn<|And.intro @endK_ret<|And.intro @endK_normal<|And.intro @bin_agg <| @egC_eql
def rr6:=And.intro @egC_neq<|And.intro @eqAll_int<|And.intro @eqAll_bool<|And.intro @eqAll_nil<|And.intro @okC_nil<|And.intro @okC_int<|And.intro @okC_bool<|And.intro @eD_eq<|And.intro @okLg_nil<|And.intro @okLg_cons<|And.intro @okRow_nil<|And.intro @okRow_cons<|And.intro @okP2_rd<|And.intro @okP2_ord<|And.intro @tgetE<|And.intro @tgetH<|And.intro @tdelH<|And.intro @KEq_self<|And.intro @KEq_ne<|And.intro @b_max<|And.intro @bi_quo<|And.intro @bi_rem<|And.intro @look_nil<|And.intro @lkN_i<|And.intro @sN_s<|And.intro @sD_s<|And.intro @aN_s<|And.intro @aD_s<|And.intro @gN_s <| @gC_s
def rr7:=And.intro @gD_s<|And.intro @RN_move<|And.intro @RG_move<|And.intro @RD_move<|And.intro @RH_move<|And.intro @RN_assign<|And.intro @RD_assign<|And.intro @RN_pick<|And.intro @RG_pick<|And.intro @RD_pick<|And.intro @RN_alloc<|And.intro @RD_alloc<|And.intro @RN_box<|And.intro @RD_box<|And.intro @RN_build<|And.intro @RD_build<|And.intro @RN_buildSlice<|And.intro @RD_buildSlice<|And.intro @RN_load<|And.intro @RG_load<|And.intro @RD_load<|And.intro @RH_load<|And.intro @RN_store<|And.intro @RD_store<|And.intro @RN_nilCheck<|And.intro @RG_nilCheck<|And.intro @RD_nilCheck<|And.intro @RN_binOp<|And.intro @RG_binOp <| @RD_binOp
def rr8:=And.intro @RH_binOp<|And.intro @RN_unOp<|And.intro @RG_unOp<|And.intro @RD_unOp<|And.intro @RH_unOp<|And.intro @RN_convert<|And.intro @RG_convert<|And.intro @RD_convert<|And.intro @RN_makeFunc<|And.intro @RN_makeMap<|And.intro @RD_makeMap<|And.intro @RN_fieldAddr<|And.intro @RG_fieldAddr<|And.intro @RD_fieldAddr<|And.intro @RH_fieldAddr<|And.intro @RN_indexAddr<|And.intro @RG_indexAddr<|And.intro @RD_indexAddr<|And.intro @RH_indexAddr<|And.intro @RN_index<|And.intro @RN_lookup<|And.intro @RG_lookup<|And.intro @RD_lookup<|And.intro @RD_mapUpdate<|And.intro @RD_mapEntry<|And.intro @RD_entryStore<|And.intro @RN_range<|And.intro @RN_entry<|And.intro @RN_extract <| @RD_extract
def rr9:=And.intro @RN_builtin<|And.intro @RG_builtin<|And.intro @RD_builtin<|And.intro @RH_builtin<|And.intro @RN_value<|And.intro @RG_value<|And.intro @RD_value<|And.intro @outO_f<|And.intro @outO_t<|And.intro @getD_vI<|And.intro @getD_vB<|And.intro @isSome_map<|And.intro @look_int<|And.intro @lkI_some<|And.intro @upd_int<|And.intro @upI_I<|And.intro @upI_B<|And.intro @upI_X<|And.intro @okU_nil<|And.intro @okU_int<|And.intro @unU_nil<|And.intro @unU_int<|And.intro @look_agg<|And.intro @lkR_some<|And.intro @upd_agg <| @upR_I
def rr:=And.intro @rr0<|And.intro @rr1<|And.intro @rr2<|And.intro @rr3<|And.intro @rr4<|And.intro @rr5<|And.intro @rr6<|And.intro @rr7<|And.intro @rr8 <| @rr9
theorem dd :
 (∀(cs:List XV),cellsOf (XV.agg cs)=cs) /\
 (∀(k:IntKind) (i:Int),cellsOf (XV.int k i)=[XV.int k i]) /\
 (∀(b:Bool),cellsOf (XV.bool b)=[XV.bool b]) /\
 (∀(a b:Nat),cellsOf (XV.mp a b)=[XV.mp a b]) /\
 (∀(n e o l c:Nat),cellsOf (XV.sl n e o l c)=[XV.sl n e o l c]) /\
 (∀(a:Nat),cellsOf (XV.mm a)=[XV.mm a]) /\
 (cellsOf XV.nils=[XV.nils]) /\
 (cellsOf XV.nilp=[XV.nilp]) /\
 (cellsOf XV.nilm=[XV.nilm]) /\
 (cellsOf XV.nilf=[XV.nilf]) /\
 (∀(f:Fn) (a b:List XV),cellsOf (XV.fn f a b)=[XV.fn f a b]) /\
 (∀(s:List Nat),cellsOf (XV.str s)=[XV.str s]) /\
 (∀(k:IntKind) (i:Int),plain1 (XV.int k i)=true) /\
 (∀(b:Bool),plain1 (XV.bool b)=true) /\
 (∀(a b:Nat),plain1 (XV.mp a b)=true) /\
 (∀(n e o l c:Nat),plain1 (XV.sl n e o l c)=true) /\
 (∀(a:Nat),plain1 (XV.mm a)=true) /\
 (plain1 XV.nils=true) /\
 (plain1 XV.nilp=true) /\
 (plain1 XV.nilm=true) /\
 (plain1 XV.nilf=true) /\
 (∀(f:Fn) (a b:List XV),plain1 (XV.fn f a b)=true) /\
 (∀(s:List Nat),plain1 (XV.str s)=true) /\
 (okC [] []=true) /\
 (∀(k:IntKind) (l:List CK) (a:Int) (xs:List XV),okC (CK.i k::l) (XV.int k a::xs)=okC l xs) /\
 (∀(l:List CK) (a:Bool) (xs:List XV),okC (CK.b::l) (XV.bool a::xs)=okC l xs) /\
 (okU []=true) /\
 (∀(k:Int) (xs:List XV),okU (XV.int IntKind.u64 k::xs)=okU xs) :=
 ⟨@cells_agg,@cells_int,@cells_bool,@cells_mp,@cells_sl,@cells_mm,@cells_nils,@cells_nilp,@cells_nilm,@cells_nilf,@cells_fn,@cells_str,@plain_int,@plain_bool,@plain_mp,@plain_sl,@plain_mm,@plain_nils,@plain_nilp,@plain_nilm,@plain_nilf,@plain_fn,@plain_str,@okC_nil,@okC_int,@okC_bool,@okU_nil,@okU_int⟩
def zde:=And.intro @dd<|And.intro @List.length_cons.{0} <| And.intro @List.length_nil.{0} <| And.intro @List.all_cons.{0} <| And.intro @List.all_nil.{0} <| And.intro @Bool.and_true <| @Bool.true_and
def zdf:=And.intro @dd<|And.intro @List.length_cons.{0} <| And.intro @List.length_nil.{0} <| And.intro @List.length_map.{0,0} <| And.intro @List.length_append.{0} <| And.intro @List.length_take.{0} <| And.intro @List.length_drop.{0} <| And.intro @List.all_cons.{0} <| And.intro @List.all_nil.{0} <| And.intro @Bool.and_true<|And.intro @Bool.true_and<|And.intro @List.mem_cons.{0} <| And.intro @List.not_mem_nil.{0} <| @or_false
def zst:=And.intro @rr<|And.intro @Nat.zero_add<|And.intro @Nat.add_zero<|And.intro @Nat.add_assoc<|And.intro @Nat.one_mul<|And.intro @Nat.mul_one<|And.intro @List.toList_toArray.{0} <| And.intro @List.all_cons.{0} <| And.intro @List.all_nil.{0} <| And.intro @Bool.and_true<|And.intro @Bool.true_and<|And.intro @List.length_cons.{0} <| And.intro @List.length_nil.{0} <| And.intro @List.drop_zero.{0} <| And.intro @List.drop_succ_cons.{0} <| And.intro @List.take_succ_cons.{0} <| And.intro @List.take_zero.{0} <| And.intro @List.getElem?_cons_zero.{0} <| And.intro @List.getElem?_cons_succ.{0} <| And.intro @Option.map_some.{0,0} <| And.intro @List.cons_append.{0} <| And.intro @List.nil_append.{0} <| And.intro @List.append_nil.{0} <| And.intro @true_and<|And.intro @and_true<|And.intro @Option.some.injEq.{0} <| And.intro @exists_eq_left'.{1} <| And.intro @List.take_append_drop.{0} <| And.intro @Option.getD_some.{0} <| And.intro @Option.getD_none.{0} <| And.intro @Option.map_none.{0,0} <| And.intro @Option.isSome_some.{0} <| And.intro @Option.isSome_none.{0} <| And.intro @decide_true<|And.intro @decide_false<|And.intro @Bool.not_true<|And.intro @Bool.not_false <| @Int.cast_ofNat_Int
structure Wr (p:Prop):Prop where
 o:p
theorem xs0 { p q:Prop} (h:q) (e:p=q:=by conv=>lhs;simp (maxSteps:=10000000) (disch:=first|assumption|decide|omega|(simp only[zde, *];done)|(simp only[zdf,big];first|done|assumption|omega)) only [zst,argsE,spl,resXs,resX,vI,vB,vX,oneOr,Nat.reduceLT,Nat.reduceEqDiff,Nat.reduceAdd,Nat.reduceMul,Nat.reduceSub,reduceIte,Int.reduceLT,Int.reduceLE,Int.reduceEq,Int.reduceNeg,Int.reduceToNat]):p:=e.mpr h
theorem xs1 {A0 p q:Prop} (x0:A0) (h:q) (e:Wr A0->p=q:=by intro f0;conv=>lhs;simp (maxSteps:=10000000) (disch:=first|assumption|decide|omega|(simp only[zde, *];done)|(simp only[zdf,big];first|done|assumption|omega)) only [zst,argsE,spl,resXs,resX,vI,vB,vX,oneOr,Nat.reduceLT,Nat.reduceEqDiff,Nat.reduceAdd,Nat.reduceMul,Nat.reduceSub,reduceIte,Int.reduceLT,Int.reduceLE,Int.reduceEq,Int.reduceNeg,Int.reduceToNat,f0.o]):p:=(e ⟨x0⟩).mpr h
theorem xs2 {A0 A1 p q:Prop} (x0:A0) (x1:A1) (h:q) (e:Wr A0->Wr A1->p=q:=by intro f0 f1;conv=>lhs;simp (maxSteps:=10000000) (disch:=first|assumption|decide|omega|(simp only[zde, *];done)|(simp only[zdf,big];first|done|assumption|omega)) only [zst,argsE,spl,resXs,resX,vI,vB,vX,oneOr,Nat.reduceLT,Nat.reduceEqDiff,Nat.reduceAdd,Nat.reduceMul,Nat.reduceSub,reduceIte,Int.reduceLT,Int.reduceLE,Int.reduceEq,Int.reduceNeg,Int.reduceToNat,f0.o,f1.o]):p:=(e ⟨x0⟩ ⟨x1⟩).mpr h
theorem xs3 {A0 A1 A2 p q:Prop} (x0:A0) (x1:A1) (x2:A2) (h:q) (e:Wr A0->Wr A1->Wr A2->p=q:=by intro f0 f1 f2;conv=>lhs;simp (maxSteps:=10000000) (disch:=first|assumption|decide|omega|(simp only[zde, *];done)|(simp only[zdf,big];first|done|assumption|omega)) only [zst,argsE,spl,resXs,resX,vI,vB,vX,oneOr,Nat.reduceLT,Nat.reduceEqDiff,Nat.reduceAdd,Nat.reduceMul,Nat.reduceSub,reduceIte,Int.reduceLT,Int.reduceLE,Int.reduceEq,Int.reduceNeg,Int.reduceToNat,f0.o,f1.o,f2.o]):p:=(e ⟨x0⟩ ⟨x1⟩ ⟨x2⟩).mpr h
theorem xs4 {A0 A1 A2 A3 p q:Prop} (x0:A0) (x1:A1) (x2:A2) (x3:A3) (h:q) (e:Wr A0->Wr A1->Wr A2->Wr A3->p=q:=by intro f0 f1 f2 f3;conv=>lhs;simp (maxSteps:=10000000) (disch:=first|assumption|decide|omega|(simp only[zde, *];done)|(simp only[zdf,big];first|done|assumption|omega)) only [zst,argsE,spl,resXs,resX,vI,vB,vX,oneOr,Nat.reduceLT,Nat.reduceEqDiff,Nat.reduceAdd,Nat.reduceMul,Nat.reduceSub,reduceIte,Int.reduceLT,Int.reduceLE,Int.reduceEq,Int.reduceNeg,Int.reduceToNat,f0.o,f1.o,f2.o,f3.o]):p:=(e ⟨x0⟩ ⟨x1⟩ ⟨x2⟩ ⟨x3⟩).mpr h
theorem xs5 {A0 A1 A2 A3 A4 p q:Prop} (x0:A0) (x1:A1) (x2:A2) (x3:A3) (x4:A4) (h:q) (e:Wr A0->Wr A1->Wr A2->Wr A3->Wr A4->p=q:=by intro f0 f1 f2 f3 f4;conv=>lhs;simp (maxSteps:=10000000) (disch:=first|assumption|decide|omega|(simp only[zde, *];done)|(simp only[zdf,big];first|done|assumption|omega)) only [zst,argsE,spl,resXs,resX,vI,vB,vX,oneOr,Nat.reduceLT,Nat.reduceEqDiff,Nat.reduceAdd,Nat.reduceMul,Nat.reduceSub,reduceIte,Int.reduceLT,Int.reduceLE,Int.reduceEq,Int.reduceNeg,Int.reduceToNat,f0.o,f1.o,f2.o,f3.o,f4.o]):p:=(e ⟨x0⟩ ⟨x1⟩ ⟨x2⟩ ⟨x3⟩ ⟨x4⟩).mpr h
theorem xs6 {A0 A1 A2 A3 A4 A5 p q:Prop} (x0:A0) (x1:A1) (x2:A2) (x3:A3) (x4:A4) (x5:A5) (h:q) (e:Wr A0->Wr A1->Wr A2->Wr A3->Wr A4->Wr A5->p=q:=by intro f0 f1 f2 f3 f4 f5;conv=>lhs;simp (maxSteps:=10000000) (disch:=first|assumption|decide|omega|(simp only[zde, *];done)|(simp only[zdf,big];first|done|assumption|omega)) only [zst,argsE,spl,resXs,resX,vI,vB,vX,oneOr,Nat.reduceLT,Nat.reduceEqDiff,Nat.reduceAdd,Nat.reduceMul,Nat.reduceSub,reduceIte,Int.reduceLT,Int.reduceLE,Int.reduceEq,Int.reduceNeg,Int.reduceToNat,f0.o,f1.o,f2.o,f3.o,f4.o,f5.o]):p:=(e ⟨x0⟩ ⟨x1⟩ ⟨x2⟩ ⟨x3⟩ ⟨x4⟩ ⟨x5⟩).mpr h
theorem xs7 {A0 A1 A2 A3 A4 A5 A6 p q:Prop} (x0:A0) (x1:A1) (x2:A2) (x3:A3) (x4:A4) (x5:A5) (x6:A6) (h:q) (e:Wr A0->Wr A1->Wr A2->Wr A3->Wr A4->Wr A5->Wr A6->p=q:=by intro f0 f1 f2 f3 f4 f5 f6;conv=>lhs;simp (maxSteps:=10000000) (disch:=first|assumption|decide|omega|(simp only[zde, *];done)|(simp only[zdf,big];first|done|assumption|omega)) only [zst,argsE,spl,resXs,resX,vI,vB,vX,oneOr,Nat.reduceLT,Nat.reduceEqDiff,Nat.reduceAdd,Nat.reduceMul,Nat.reduceSub,reduceIte,Int.reduceLT,Int.reduceLE,Int.reduceEq,Int.reduceNeg,Int.reduceToNat,f0.o,f1.o,f2.o,f3.o,f4.o,f5.o,f6.o]):p:=(e ⟨x0⟩ ⟨x1⟩ ⟨x2⟩ ⟨x3⟩ ⟨x4⟩ ⟨x5⟩ ⟨x6⟩).mpr h
theorem xs8 {A0 A1 A2 A3 A4 A5 A6 A7 p q:Prop} (x0:A0) (x1:A1) (x2:A2) (x3:A3) (x4:A4) (x5:A5) (x6:A6) (x7:A7) (h:q) (e:Wr A0->Wr A1->Wr A2->Wr A3->Wr A4->Wr A5->Wr A6->Wr A7->p=q:=by intro f0 f1 f2 f3 f4 f5 f6 f7;conv=>lhs;simp (maxSteps:=10000000) (disch:=first|assumption|decide|omega|(simp only[zde, *];done)|(simp only[zdf,big];first|done|assumption|omega)) only [zst,argsE,spl,resXs,resX,vI,vB,vX,oneOr,Nat.reduceLT,Nat.reduceEqDiff,Nat.reduceAdd,Nat.reduceMul,Nat.reduceSub,reduceIte,Int.reduceLT,Int.reduceLE,Int.reduceEq,Int.reduceNeg,Int.reduceToNat,f0.o,f1.o,f2.o,f3.o,f4.o,f5.o,f6.o,f7.o]):p:=(e ⟨x0⟩ ⟨x1⟩ ⟨x2⟩ ⟨x3⟩ ⟨x4⟩ ⟨x5⟩ ⟨x6⟩ ⟨x7⟩).mpr h
theorem xs9 {A0 A1 A2 A3 A4 A5 A6 A7 A8 p q:Prop} (x0:A0) (x1:A1) (x2:A2) (x3:A3) (x4:A4) (x5:A5) (x6:A6) (x7:A7) (x8:A8) (h:q) (e:Wr A0->Wr A1->Wr A2->Wr A3->Wr A4->Wr A5->Wr A6->Wr A7->Wr A8->p=q:=by intro f0 f1 f2 f3 f4 f5 f6 f7 f8;conv=>lhs;simp (maxSteps:=10000000) (disch:=first|assumption|decide|omega|(simp only[zde, *];done)|(simp only[zdf,big];first|done|assumption|omega)) only [zst,argsE,spl,resXs,resX,vI,vB,vX,oneOr,Nat.reduceLT,Nat.reduceEqDiff,Nat.reduceAdd,Nat.reduceMul,Nat.reduceSub,reduceIte,Int.reduceLT,Int.reduceLE,Int.reduceEq,Int.reduceNeg,Int.reduceToNat,f0.o,f1.o,f2.o,f3.o,f4.o,f5.o,f6.o,f7.o,f8.o]):p:=(e ⟨x0⟩ ⟨x1⟩ ⟨x2⟩ ⟨x3⟩ ⟨x4⟩ ⟨x5⟩ ⟨x6⟩ ⟨x7⟩ ⟨x8⟩).mpr h
theorem xs10 {A0 A1 A2 A3 A4 A5 A6 A7 A8 A9 p q:Prop} (x0:A0) (x1:A1) (x2:A2) (x3:A3) (x4:A4) (x5:A5) (x6:A6) (x7:A7) (x8:A8) (x9:A9) (h:q) (e:Wr A0->Wr A1->Wr A2->Wr A3->Wr A4->Wr A5->Wr A6->Wr A7->Wr A8->Wr A9->p=q:=by intro f0 f1 f2 f3 f4 f5 f6 f7 f8 f9;conv=>lhs;simp (maxSteps:=10000000) (disch:=first|assumption|decide|omega|(simp only[zde, *];done)|(simp only[zdf,big];first|done|assumption|omega)) only [zst,argsE,spl,resXs,resX,vI,vB,vX,oneOr,Nat.reduceLT,Nat.reduceEqDiff,Nat.reduceAdd,Nat.reduceMul,Nat.reduceSub,reduceIte,Int.reduceLT,Int.reduceLE,Int.reduceEq,Int.reduceNeg,Int.reduceToNat,f0.o,f1.o,f2.o,f3.o,f4.o,f5.o,f6.o,f7.o,f8.o,f9.o]):p:=(e ⟨x0⟩ ⟨x1⟩ ⟨x2⟩ ⟨x3⟩ ⟨x4⟩ ⟨x5⟩ ⟨x6⟩ ⟨x7⟩ ⟨x8⟩ ⟨x9⟩).mpr h
theorem xs11 {A0 A1 A2 A3 A4 A5 A6 A7 A8 A9 A10 p q:Prop} (x0:A0) (x1:A1) (x2:A2) (x3:A3) (x4:A4) (x5:A5) (x6:A6) (x7:A7) (x8:A8) (x9:A9) (x10:A10) (h:q) (e:Wr A0->Wr A1->Wr A2->Wr A3->Wr A4->Wr A5->Wr A6->Wr A7->Wr A8->Wr A9->Wr A10->p=q:=by intro f0 f1 f2 f3 f4 f5 f6 f7 f8 f9 f10;conv=>lhs;simp (maxSteps:=10000000) (disch:=first|assumption|decide|omega|(simp only[zde, *];done)|(simp only[zdf,big];first|done|assumption|omega)) only [zst,argsE,spl,resXs,resX,vI,vB,vX,oneOr,Nat.reduceLT,Nat.reduceEqDiff,Nat.reduceAdd,Nat.reduceMul,Nat.reduceSub,reduceIte,Int.reduceLT,Int.reduceLE,Int.reduceEq,Int.reduceNeg,Int.reduceToNat,f0.o,f1.o,f2.o,f3.o,f4.o,f5.o,f6.o,f7.o,f8.o,f9.o,f10.o]):p:=(e ⟨x0⟩ ⟨x1⟩ ⟨x2⟩ ⟨x3⟩ ⟨x4⟩ ⟨x5⟩ ⟨x6⟩ ⟨x7⟩ ⟨x8⟩ ⟨x9⟩ ⟨x10⟩).mpr h
theorem xs12 {A0 A1 A2 A3 A4 A5 A6 A7 A8 A9 A10 A11 p q:Prop} (x0:A0) (x1:A1) (x2:A2) (x3:A3) (x4:A4) (x5:A5) (x6:A6) (x7:A7) (x8:A8) (x9:A9) (x10:A10) (x11:A11) (h:q) (e:Wr A0->Wr A1->Wr A2->Wr A3->Wr A4->Wr A5->Wr A6->Wr A7->Wr A8->Wr A9->Wr A10->Wr A11->p=q:=by intro f0 f1 f2 f3 f4 f5 f6 f7 f8 f9 f10 f11;conv=>lhs;simp (maxSteps:=10000000) (disch:=first|assumption|decide|omega|(simp only[zde, *];done)|(simp only[zdf,big];first|done|assumption|omega)) only [zst,argsE,spl,resXs,resX,vI,vB,vX,oneOr,Nat.reduceLT,Nat.reduceEqDiff,Nat.reduceAdd,Nat.reduceMul,Nat.reduceSub,reduceIte,Int.reduceLT,Int.reduceLE,Int.reduceEq,Int.reduceNeg,Int.reduceToNat,f0.o,f1.o,f2.o,f3.o,f4.o,f5.o,f6.o,f7.o,f8.o,f9.o,f10.o,f11.o]):p:=(e ⟨x0⟩ ⟨x1⟩ ⟨x2⟩ ⟨x3⟩ ⟨x4⟩ ⟨x5⟩ ⟨x6⟩ ⟨x7⟩ ⟨x8⟩ ⟨x9⟩ ⟨x10⟩ ⟨x11⟩).mpr h
theorem xs13 {A0 A1 A2 A3 A4 A5 A6 A7 A8 A9 A10 A11 A12 p q:Prop} (x0:A0) (x1:A1) (x2:A2) (x3:A3) (x4:A4) (x5:A5) (x6:A6) (x7:A7) (x8:A8) (x9:A9) (x10:A10) (x11:A11) (x12:A12) (h:q) (e:Wr A0->Wr A1->Wr A2->Wr A3->Wr A4->Wr A5->Wr A6->Wr A7->Wr A8->Wr A9->Wr A10->Wr A11->Wr A12->p=q:=by intro f0 f1 f2 f3 f4 f5 f6 f7 f8 f9 f10 f11 f12;conv=>lhs;simp (maxSteps:=10000000) (disch:=first|assumption|decide|omega|(simp only[zde, *];done)|(simp only[zdf,big];first|done|assumption|omega)) only [zst,argsE,spl,resXs,resX,vI,vB,vX,oneOr,Nat.reduceLT,Nat.reduceEqDiff,Nat.reduceAdd,Nat.reduceMul,Nat.reduceSub,reduceIte,Int.reduceLT,Int.reduceLE,Int.reduceEq,Int.reduceNeg,Int.reduceToNat,f0.o,f1.o,f2.o,f3.o,f4.o,f5.o,f6.o,f7.o,f8.o,f9.o,f10.o,f11.o,f12.o]):p:=(e ⟨x0⟩ ⟨x1⟩ ⟨x2⟩ ⟨x3⟩ ⟨x4⟩ ⟨x5⟩ ⟨x6⟩ ⟨x7⟩ ⟨x8⟩ ⟨x9⟩ ⟨x10⟩ ⟨x11⟩ ⟨x12⟩).mpr h
theorem xs14 {A0 A1 A2 A3 A4 A5 A6 A7 A8 A9 A10 A11 A12 A13 p q:Prop} (x0:A0) (x1:A1) (x2:A2) (x3:A3) (x4:A4) (x5:A5) (x6:A6) (x7:A7) (x8:A8) (x9:A9) (x10:A10) (x11:A11) (x12:A12) (x13:A13) (h:q) (e:Wr A0->Wr A1->Wr A2->Wr A3->Wr A4->Wr A5->Wr A6->Wr A7->Wr A8->Wr A9->Wr A10->Wr A11->Wr A12->Wr A13->p=q:=by intro f0 f1 f2 f3 f4 f5 f6 f7 f8 f9 f10 f11 f12 f13;conv=>lhs;simp (maxSteps:=10000000) (disch:=first|assumption|decide|omega|(simp only[zde, *];done)|(simp only[zdf,big];first|done|assumption|omega)) only [zst,argsE,spl,resXs,resX,vI,vB,vX,oneOr,Nat.reduceLT,Nat.reduceEqDiff,Nat.reduceAdd,Nat.reduceMul,Nat.reduceSub,reduceIte,Int.reduceLT,Int.reduceLE,Int.reduceEq,Int.reduceNeg,Int.reduceToNat,f0.o,f1.o,f2.o,f3.o,f4.o,f5.o,f6.o,f7.o,f8.o,f9.o,f10.o,f11.o,f12.o,f13.o]):p:=(e ⟨x0⟩ ⟨x1⟩ ⟨x2⟩ ⟨x3⟩ ⟨x4⟩ ⟨x5⟩ ⟨x6⟩ ⟨x7⟩ ⟨x8⟩ ⟨x9⟩ ⟨x10⟩ ⟨x11⟩ ⟨x12⟩ ⟨x13⟩).mpr h
theorem xs15 {A0 A1 A2 A3 A4 A5 A6 A7 A8 A9 A10 A11 A12 A13 A14 p q:Prop} (x0:A0) (x1:A1) (x2:A2) (x3:A3) (x4:A4) (x5:A5) (x6:A6) (x7:A7) (x8:A8) (x9:A9) (x10:A10) (x11:A11) (x12:A12) (x13:A13) (x14:A14) (h:q) (e:Wr A0->Wr A1->Wr A2->Wr A3->Wr A4->Wr A5->Wr A6->Wr A7->Wr A8->Wr A9->Wr A10->Wr A11->Wr A12->Wr A13->Wr A14->p=q:=by intro f0 f1 f2 f3 f4 f5 f6 f7 f8 f9 f10 f11 f12 f13 f14;conv=>lhs;simp (maxSteps:=10000000) (disch:=first|assumption|decide|omega|(simp only[zde, *];done)|(simp only[zdf,big];first|done|assumption|omega)) only [zst,argsE,spl,resXs,resX,vI,vB,vX,oneOr,Nat.reduceLT,Nat.reduceEqDiff,Nat.reduceAdd,Nat.reduceMul,Nat.reduceSub,reduceIte,Int.reduceLT,Int.reduceLE,Int.reduceEq,Int.reduceNeg,Int.reduceToNat,f0.o,f1.o,f2.o,f3.o,f4.o,f5.o,f6.o,f7.o,f8.o,f9.o,f10.o,f11.o,f12.o,f13.o,f14.o]):p:=(e ⟨x0⟩ ⟨x1⟩ ⟨x2⟩ ⟨x3⟩ ⟨x4⟩ ⟨x5⟩ ⟨x6⟩ ⟨x7⟩ ⟨x8⟩ ⟨x9⟩ ⟨x10⟩ ⟨x11⟩ ⟨x12⟩ ⟨x13⟩ ⟨x14⟩).mpr h
theorem xs16 {A0 A1 A2 A3 A4 A5 A6 A7 A8 A9 A10 A11 A12 A13 A14 A15 p q:Prop} (x0:A0) (x1:A1) (x2:A2) (x3:A3) (x4:A4) (x5:A5) (x6:A6) (x7:A7) (x8:A8) (x9:A9) (x10:A10) (x11:A11) (x12:A12) (x13:A13) (x14:A14) (x15:A15) (h:q) (e:Wr A0->Wr A1->Wr A2->Wr A3->Wr A4->Wr A5->Wr A6->Wr A7->Wr A8->Wr A9->Wr A10->Wr A11->Wr A12->Wr A13->Wr A14->Wr A15->p=q:=by intro f0 f1 f2 f3 f4 f5 f6 f7 f8 f9 f10 f11 f12 f13 f14 f15;conv=>lhs;simp (maxSteps:=10000000) (disch:=first|assumption|decide|omega|(simp only[zde, *];done)|(simp only[zdf,big];first|done|assumption|omega)) only [zst,argsE,spl,resXs,resX,vI,vB,vX,oneOr,Nat.reduceLT,Nat.reduceEqDiff,Nat.reduceAdd,Nat.reduceMul,Nat.reduceSub,reduceIte,Int.reduceLT,Int.reduceLE,Int.reduceEq,Int.reduceNeg,Int.reduceToNat,f0.o,f1.o,f2.o,f3.o,f4.o,f5.o,f6.o,f7.o,f8.o,f9.o,f10.o,f11.o,f12.o,f13.o,f14.o,f15.o]):p:=(e ⟨x0⟩ ⟨x1⟩ ⟨x2⟩ ⟨x3⟩ ⟨x4⟩ ⟨x5⟩ ⟨x6⟩ ⟨x7⟩ ⟨x8⟩ ⟨x9⟩ ⟨x10⟩ ⟨x11⟩ ⟨x12⟩ ⟨x13⟩ ⟨x14⟩ ⟨x15⟩).mpr h
theorem xs17 {A0 A1 A2 A3 A4 A5 A6 A7 A8 A9 A10 A11 A12 A13 A14 A15 A16 p q:Prop} (x0:A0) (x1:A1) (x2:A2) (x3:A3) (x4:A4) (x5:A5) (x6:A6) (x7:A7) (x8:A8) (x9:A9) (x10:A10) (x11:A11) (x12:A12) (x13:A13) (x14:A14) (x15:A15) (x16:A16) (h:q) (e:Wr A0->Wr A1->Wr A2->Wr A3->Wr A4->Wr A5->Wr A6->Wr A7->Wr A8->Wr A9->Wr A10->Wr A11->Wr A12->Wr A13->Wr A14->Wr A15->Wr A16->p=q:=by intro f0 f1 f2 f3 f4 f5 f6 f7 f8 f9 f10 f11 f12 f13 f14 f15 f16;conv=>lhs;simp (maxSteps:=10000000) (disch:=first|assumption|decide|omega|(simp only[zde, *];done)|(simp only[zdf,big];first|done|assumption|omega)) only [zst,argsE,spl,resXs,resX,vI,vB,vX,oneOr,Nat.reduceLT,Nat.reduceEqDiff,Nat.reduceAdd,Nat.reduceMul,Nat.reduceSub,reduceIte,Int.reduceLT,Int.reduceLE,Int.reduceEq,Int.reduceNeg,Int.reduceToNat,f0.o,f1.o,f2.o,f3.o,f4.o,f5.o,f6.o,f7.o,f8.o,f9.o,f10.o,f11.o,f12.o,f13.o,f14.o,f15.o,f16.o]):p:=(e ⟨x0⟩ ⟨x1⟩ ⟨x2⟩ ⟨x3⟩ ⟨x4⟩ ⟨x5⟩ ⟨x6⟩ ⟨x7⟩ ⟨x8⟩ ⟨x9⟩ ⟨x10⟩ ⟨x11⟩ ⟨x12⟩ ⟨x13⟩ ⟨x14⟩ ⟨x15⟩ ⟨x16⟩).mpr h
theorem xs18 {A0 A1 A2 A3 A4 A5 A6 A7 A8 A9 A10 A11 A12 A13 A14 A15 A16 A17 p q:Prop} (x0:A0) (x1:A1) (x2:A2) (x3:A3) (x4:A4) (x5:A5) (x6:A6) (x7:A7) (x8:A8) (x9:A9) (x10:A10) (x11:A11) (x12:A12) (x13:A13) (x14:A14) (x15:A15) (x16:A16) (x17:A17) (h:q) (e:Wr A0->Wr A1->Wr A2->Wr A3->Wr A4->Wr A5->Wr A6->Wr A7->Wr A8->Wr A9->Wr A10->Wr A11->Wr A12->Wr A13->Wr A14->Wr A15->Wr A16->Wr A17->p=q:=by intro f0 f1 f2 f3 f4 f5 f6 f7 f8 f9 f10 f11 f12 f13 f14 f15 f16 f17;conv=>lhs;simp (maxSteps:=10000000) (disch:=first|assumption|decide|omega|(simp only[zde, *];done)|(simp only[zdf,big];first|done|assumption|omega)) only [zst,argsE,spl,resXs,resX,vI,vB,vX,oneOr,Nat.reduceLT,Nat.reduceEqDiff,Nat.reduceAdd,Nat.reduceMul,Nat.reduceSub,reduceIte,Int.reduceLT,Int.reduceLE,Int.reduceEq,Int.reduceNeg,Int.reduceToNat,f0.o,f1.o,f2.o,f3.o,f4.o,f5.o,f6.o,f7.o,f8.o,f9.o,f10.o,f11.o,f12.o,f13.o,f14.o,f15.o,f16.o,f17.o]):p:=(e ⟨x0⟩ ⟨x1⟩ ⟨x2⟩ ⟨x3⟩ ⟨x4⟩ ⟨x5⟩ ⟨x6⟩ ⟨x7⟩ ⟨x8⟩ ⟨x9⟩ ⟨x10⟩ ⟨x11⟩ ⟨x12⟩ ⟨x13⟩ ⟨x14⟩ ⟨x15⟩ ⟨x16⟩ ⟨x17⟩).mpr h
theorem xs19 {A0 A1 A2 A3 A4 A5 A6 A7 A8 A9 A10 A11 A12 A13 A14 A15 A16 A17 A18 p q:Prop} (x0:A0) (x1:A1) (x2:A2) (x3:A3) (x4:A4) (x5:A5) (x6:A6) (x7:A7) (x8:A8) (x9:A9) (x10:A10) (x11:A11) (x12:A12) (x13:A13) (x14:A14) (x15:A15) (x16:A16) (x17:A17) (x18:A18) (h:q) (e:Wr A0->Wr A1->Wr A2->Wr A3->Wr A4->Wr A5->Wr A6->Wr A7->Wr A8->Wr A9->Wr A10->Wr A11->Wr A12->Wr A13->Wr A14->Wr A15->Wr A16->Wr A17->Wr A18->p=q:=by intro f0 f1 f2 f3 f4 f5 f6 f7 f8 f9 f10 f11 f12 f13 f14 f15 f16 f17 f18;conv=>lhs;simp (maxSteps:=10000000) (disch:=first|assumption|decide|omega|(simp only[zde, *];done)|(simp only[zdf,big];first|done|assumption|omega)) only [zst,argsE,spl,resXs,resX,vI,vB,vX,oneOr,Nat.reduceLT,Nat.reduceEqDiff,Nat.reduceAdd,Nat.reduceMul,Nat.reduceSub,reduceIte,Int.reduceLT,Int.reduceLE,Int.reduceEq,Int.reduceNeg,Int.reduceToNat,f0.o,f1.o,f2.o,f3.o,f4.o,f5.o,f6.o,f7.o,f8.o,f9.o,f10.o,f11.o,f12.o,f13.o,f14.o,f15.o,f16.o,f17.o,f18.o]):p:=(e ⟨x0⟩ ⟨x1⟩ ⟨x2⟩ ⟨x3⟩ ⟨x4⟩ ⟨x5⟩ ⟨x6⟩ ⟨x7⟩ ⟨x8⟩ ⟨x9⟩ ⟨x10⟩ ⟨x11⟩ ⟨x12⟩ ⟨x13⟩ ⟨x14⟩ ⟨x15⟩ ⟨x16⟩ ⟨x17⟩ ⟨x18⟩).mpr h
theorem xs20 {A0 A1 A2 A3 A4 A5 A6 A7 A8 A9 A10 A11 A12 A13 A14 A15 A16 A17 A18 A19 p q:Prop} (x0:A0) (x1:A1) (x2:A2) (x3:A3) (x4:A4) (x5:A5) (x6:A6) (x7:A7) (x8:A8) (x9:A9) (x10:A10) (x11:A11) (x12:A12) (x13:A13) (x14:A14) (x15:A15) (x16:A16) (x17:A17) (x18:A18) (x19:A19) (h:q) (e:Wr A0->Wr A1->Wr A2->Wr A3->Wr A4->Wr A5->Wr A6->Wr A7->Wr A8->Wr A9->Wr A10->Wr A11->Wr A12->Wr A13->Wr A14->Wr A15->Wr A16->Wr A17->Wr A18->Wr A19->p=q:=by intro f0 f1 f2 f3 f4 f5 f6 f7 f8 f9 f10 f11 f12 f13 f14 f15 f16 f17 f18 f19;conv=>lhs;simp (maxSteps:=10000000) (disch:=first|assumption|decide|omega|(simp only[zde, *];done)|(simp only[zdf,big];first|done|assumption|omega)) only [zst,argsE,spl,resXs,resX,vI,vB,vX,oneOr,Nat.reduceLT,Nat.reduceEqDiff,Nat.reduceAdd,Nat.reduceMul,Nat.reduceSub,reduceIte,Int.reduceLT,Int.reduceLE,Int.reduceEq,Int.reduceNeg,Int.reduceToNat,f0.o,f1.o,f2.o,f3.o,f4.o,f5.o,f6.o,f7.o,f8.o,f9.o,f10.o,f11.o,f12.o,f13.o,f14.o,f15.o,f16.o,f17.o,f18.o,f19.o]):p:=(e ⟨x0⟩ ⟨x1⟩ ⟨x2⟩ ⟨x3⟩ ⟨x4⟩ ⟨x5⟩ ⟨x6⟩ ⟨x7⟩ ⟨x8⟩ ⟨x9⟩ ⟨x10⟩ ⟨x11⟩ ⟨x12⟩ ⟨x13⟩ ⟨x14⟩ ⟨x15⟩ ⟨x16⟩ ⟨x17⟩ ⟨x18⟩ ⟨x19⟩).mpr h
theorem xs22 {A0 A1 A2 A3 A4 A5 A6 A7 A8 A9 A10 A11 A12 A13 A14 A15 A16 A17 A18 A19 A20 A21 p q:Prop} (x0:A0) (x1:A1) (x2:A2) (x3:A3) (x4:A4) (x5:A5) (x6:A6) (x7:A7) (x8:A8) (x9:A9) (x10:A10) (x11:A11) (x12:A12) (x13:A13) (x14:A14) (x15:A15) (x16:A16) (x17:A17) (x18:A18) (x19:A19) (x20:A20) (x21:A21) (h:q) (e:Wr A0->Wr A1->Wr A2->Wr A3->Wr A4->Wr A5->Wr A6->Wr A7->Wr A8->Wr A9->Wr A10->Wr A11->Wr A12->Wr A13->Wr A14->Wr A15->Wr A16->Wr A17->Wr A18->Wr A19->Wr A20->Wr A21->p=q:=by intro f0 f1 f2 f3 f4 f5 f6 f7 f8 f9 f10 f11 f12 f13 f14 f15 f16 f17 f18 f19 f20 f21;conv=>lhs;simp (maxSteps:=10000000) (disch:=first|assumption|decide|omega|(simp only[zde, *];done)|(simp only[zdf,big];first|done|assumption|omega)) only [zst,argsE,spl,resXs,resX,vI,vB,vX,oneOr,Nat.reduceLT,Nat.reduceEqDiff,Nat.reduceAdd,Nat.reduceMul,Nat.reduceSub,reduceIte,Int.reduceLT,Int.reduceLE,Int.reduceEq,Int.reduceNeg,Int.reduceToNat,f0.o,f1.o,f2.o,f3.o,f4.o,f5.o,f6.o,f7.o,f8.o,f9.o,f10.o,f11.o,f12.o,f13.o,f14.o,f15.o,f16.o,f17.o,f18.o,f19.o,f20.o,f21.o]):p:=(e ⟨x0⟩ ⟨x1⟩ ⟨x2⟩ ⟨x3⟩ ⟨x4⟩ ⟨x5⟩ ⟨x6⟩ ⟨x7⟩ ⟨x8⟩ ⟨x9⟩ ⟨x10⟩ ⟨x11⟩ ⟨x12⟩ ⟨x13⟩ ⟨x14⟩ ⟨x15⟩ ⟨x16⟩ ⟨x17⟩ ⟨x18⟩ ⟨x19⟩ ⟨x20⟩ ⟨x21⟩).mpr h
theorem xt0 { p q:Prop} (h:q) (e:p=q:=by conv=>lhs;simp (maxSteps:=10000000) (disch:=first|assumption|decide|omega|(simp only[zde, *];done)|(simp only[zdf,big];first|done|assumption|omega)) only [zst,argsE,spl,resXs,resX,vI,vB,vX,oneOr_0,oneOr_1,oneOr_2,Nat.reduceLT,Nat.reduceEqDiff,Nat.reduceAdd,Nat.reduceMul,Nat.reduceSub,reduceIte,Int.reduceLT,Int.reduceLE,Int.reduceEq,Int.reduceNeg,Int.reduceToNat]):p:=e.mpr h
theorem xt1 {A0 p q:Prop} (x0:A0) (h:q) (e:Wr A0->p=q:=by intro f0;conv=>lhs;simp (maxSteps:=10000000) (disch:=first|assumption|decide|omega|(simp only[zde, *];done)|(simp only[zdf,big];first|done|assumption|omega)) only [zst,argsE,spl,resXs,resX,vI,vB,vX,oneOr_0,oneOr_1,oneOr_2,Nat.reduceLT,Nat.reduceEqDiff,Nat.reduceAdd,Nat.reduceMul,Nat.reduceSub,reduceIte,Int.reduceLT,Int.reduceLE,Int.reduceEq,Int.reduceNeg,Int.reduceToNat,f0.o]):p:=(e ⟨x0⟩).mpr h
theorem xt2 {A0 A1 p q:Prop} (x0:A0) (x1:A1) (h:q) (e:Wr A0->Wr A1->p=q:=by intro f0 f1;conv=>lhs;simp (maxSteps:=10000000) (disch:=first|assumption|decide|omega|(simp only[zde, *];done)|(simp only[zdf,big];first|done|assumption|omega)) only [zst,argsE,spl,resXs,resX,vI,vB,vX,oneOr_0,oneOr_1,oneOr_2,Nat.reduceLT,Nat.reduceEqDiff,Nat.reduceAdd,Nat.reduceMul,Nat.reduceSub,reduceIte,Int.reduceLT,Int.reduceLE,Int.reduceEq,Int.reduceNeg,Int.reduceToNat,f0.o,f1.o]):p:=(e ⟨x0⟩ ⟨x1⟩).mpr h
theorem xt3 {A0 A1 A2 p q:Prop} (x0:A0) (x1:A1) (x2:A2) (h:q) (e:Wr A0->Wr A1->Wr A2->p=q:=by intro f0 f1 f2;conv=>lhs;simp (maxSteps:=10000000) (disch:=first|assumption|decide|omega|(simp only[zde, *];done)|(simp only[zdf,big];first|done|assumption|omega)) only [zst,argsE,spl,resXs,resX,vI,vB,vX,oneOr_0,oneOr_1,oneOr_2,Nat.reduceLT,Nat.reduceEqDiff,Nat.reduceAdd,Nat.reduceMul,Nat.reduceSub,reduceIte,Int.reduceLT,Int.reduceLE,Int.reduceEq,Int.reduceNeg,Int.reduceToNat,f0.o,f1.o,f2.o]):p:=(e ⟨x0⟩ ⟨x1⟩ ⟨x2⟩).mpr h
theorem xt4 {A0 A1 A2 A3 p q:Prop} (x0:A0) (x1:A1) (x2:A2) (x3:A3) (h:q) (e:Wr A0->Wr A1->Wr A2->Wr A3->p=q:=by intro f0 f1 f2 f3;conv=>lhs;simp (maxSteps:=10000000) (disch:=first|assumption|decide|omega|(simp only[zde, *];done)|(simp only[zdf,big];first|done|assumption|omega)) only [zst,argsE,spl,resXs,resX,vI,vB,vX,oneOr_0,oneOr_1,oneOr_2,Nat.reduceLT,Nat.reduceEqDiff,Nat.reduceAdd,Nat.reduceMul,Nat.reduceSub,reduceIte,Int.reduceLT,Int.reduceLE,Int.reduceEq,Int.reduceNeg,Int.reduceToNat,f0.o,f1.o,f2.o,f3.o]):p:=(e ⟨x0⟩ ⟨x1⟩ ⟨x2⟩ ⟨x3⟩).mpr h
theorem xt5 {A0 A1 A2 A3 A4 p q:Prop} (x0:A0) (x1:A1) (x2:A2) (x3:A3) (x4:A4) (h:q) (e:Wr A0->Wr A1->Wr A2->Wr A3->Wr A4->p=q:=by intro f0 f1 f2 f3 f4;conv=>lhs;simp (maxSteps:=10000000) (disch:=first|assumption|decide|omega|(simp only[zde, *];done)|(simp only[zdf,big];first|done|assumption|omega)) only [zst,argsE,spl,resXs,resX,vI,vB,vX,oneOr_0,oneOr_1,oneOr_2,Nat.reduceLT,Nat.reduceEqDiff,Nat.reduceAdd,Nat.reduceMul,Nat.reduceSub,reduceIte,Int.reduceLT,Int.reduceLE,Int.reduceEq,Int.reduceNeg,Int.reduceToNat,f0.o,f1.o,f2.o,f3.o,f4.o]):p:=(e ⟨x0⟩ ⟨x1⟩ ⟨x2⟩ ⟨x3⟩ ⟨x4⟩).mpr h
theorem xt6 {A0 A1 A2 A3 A4 A5 p q:Prop} (x0:A0) (x1:A1) (x2:A2) (x3:A3) (x4:A4) (x5:A5) (h:q) (e:Wr A0->Wr A1->Wr A2->Wr A3->Wr A4->Wr A5->p=q:=by intro f0 f1 f2 f3 f4 f5;conv=>lhs;simp (maxSteps:=10000000) (disch:=first|assumption|decide|omega|(simp only[zde, *];done)|(simp only[zdf,big];first|done|assumption|omega)) only [zst,argsE,spl,resXs,resX,vI,vB,vX,oneOr_0,oneOr_1,oneOr_2,Nat.reduceLT,Nat.reduceEqDiff,Nat.reduceAdd,Nat.reduceMul,Nat.reduceSub,reduceIte,Int.reduceLT,Int.reduceLE,Int.reduceEq,Int.reduceNeg,Int.reduceToNat,f0.o,f1.o,f2.o,f3.o,f4.o,f5.o]):p:=(e ⟨x0⟩ ⟨x1⟩ ⟨x2⟩ ⟨x3⟩ ⟨x4⟩ ⟨x5⟩).mpr h
theorem xt7 {A0 A1 A2 A3 A4 A5 A6 p q:Prop} (x0:A0) (x1:A1) (x2:A2) (x3:A3) (x4:A4) (x5:A5) (x6:A6) (h:q) (e:Wr A0->Wr A1->Wr A2->Wr A3->Wr A4->Wr A5->Wr A6->p=q:=by intro f0 f1 f2 f3 f4 f5 f6;conv=>lhs;simp (maxSteps:=10000000) (disch:=first|assumption|decide|omega|(simp only[zde, *];done)|(simp only[zdf,big];first|done|assumption|omega)) only [zst,argsE,spl,resXs,resX,vI,vB,vX,oneOr_0,oneOr_1,oneOr_2,Nat.reduceLT,Nat.reduceEqDiff,Nat.reduceAdd,Nat.reduceMul,Nat.reduceSub,reduceIte,Int.reduceLT,Int.reduceLE,Int.reduceEq,Int.reduceNeg,Int.reduceToNat,f0.o,f1.o,f2.o,f3.o,f4.o,f5.o,f6.o]):p:=(e ⟨x0⟩ ⟨x1⟩ ⟨x2⟩ ⟨x3⟩ ⟨x4⟩ ⟨x5⟩ ⟨x6⟩).mpr h
theorem xt8 {A0 A1 A2 A3 A4 A5 A6 A7 p q:Prop} (x0:A0) (x1:A1) (x2:A2) (x3:A3) (x4:A4) (x5:A5) (x6:A6) (x7:A7) (h:q) (e:Wr A0->Wr A1->Wr A2->Wr A3->Wr A4->Wr A5->Wr A6->Wr A7->p=q:=by intro f0 f1 f2 f3 f4 f5 f6 f7;conv=>lhs;simp (maxSteps:=10000000) (disch:=first|assumption|decide|omega|(simp only[zde, *];done)|(simp only[zdf,big];first|done|assumption|omega)) only [zst,argsE,spl,resXs,resX,vI,vB,vX,oneOr_0,oneOr_1,oneOr_2,Nat.reduceLT,Nat.reduceEqDiff,Nat.reduceAdd,Nat.reduceMul,Nat.reduceSub,reduceIte,Int.reduceLT,Int.reduceLE,Int.reduceEq,Int.reduceNeg,Int.reduceToNat,f0.o,f1.o,f2.o,f3.o,f4.o,f5.o,f6.o,f7.o]):p:=(e ⟨x0⟩ ⟨x1⟩ ⟨x2⟩ ⟨x3⟩ ⟨x4⟩ ⟨x5⟩ ⟨x6⟩ ⟨x7⟩).mpr h
theorem xt9 {A0 A1 A2 A3 A4 A5 A6 A7 A8 p q:Prop} (x0:A0) (x1:A1) (x2:A2) (x3:A3) (x4:A4) (x5:A5) (x6:A6) (x7:A7) (x8:A8) (h:q) (e:Wr A0->Wr A1->Wr A2->Wr A3->Wr A4->Wr A5->Wr A6->Wr A7->Wr A8->p=q:=by intro f0 f1 f2 f3 f4 f5 f6 f7 f8;conv=>lhs;simp (maxSteps:=10000000) (disch:=first|assumption|decide|omega|(simp only[zde, *];done)|(simp only[zdf,big];first|done|assumption|omega)) only [zst,argsE,spl,resXs,resX,vI,vB,vX,oneOr_0,oneOr_1,oneOr_2,Nat.reduceLT,Nat.reduceEqDiff,Nat.reduceAdd,Nat.reduceMul,Nat.reduceSub,reduceIte,Int.reduceLT,Int.reduceLE,Int.reduceEq,Int.reduceNeg,Int.reduceToNat,f0.o,f1.o,f2.o,f3.o,f4.o,f5.o,f6.o,f7.o,f8.o]):p:=(e ⟨x0⟩ ⟨x1⟩ ⟨x2⟩ ⟨x3⟩ ⟨x4⟩ ⟨x5⟩ ⟨x6⟩ ⟨x7⟩ ⟨x8⟩).mpr h
theorem xt10 {A0 A1 A2 A3 A4 A5 A6 A7 A8 A9 p q:Prop} (x0:A0) (x1:A1) (x2:A2) (x3:A3) (x4:A4) (x5:A5) (x6:A6) (x7:A7) (x8:A8) (x9:A9) (h:q) (e:Wr A0->Wr A1->Wr A2->Wr A3->Wr A4->Wr A5->Wr A6->Wr A7->Wr A8->Wr A9->p=q:=by intro f0 f1 f2 f3 f4 f5 f6 f7 f8 f9;conv=>lhs;simp (maxSteps:=10000000) (disch:=first|assumption|decide|omega|(simp only[zde, *];done)|(simp only[zdf,big];first|done|assumption|omega)) only [zst,argsE,spl,resXs,resX,vI,vB,vX,oneOr_0,oneOr_1,oneOr_2,Nat.reduceLT,Nat.reduceEqDiff,Nat.reduceAdd,Nat.reduceMul,Nat.reduceSub,reduceIte,Int.reduceLT,Int.reduceLE,Int.reduceEq,Int.reduceNeg,Int.reduceToNat,f0.o,f1.o,f2.o,f3.o,f4.o,f5.o,f6.o,f7.o,f8.o,f9.o]):p:=(e ⟨x0⟩ ⟨x1⟩ ⟨x2⟩ ⟨x3⟩ ⟨x4⟩ ⟨x5⟩ ⟨x6⟩ ⟨x7⟩ ⟨x8⟩ ⟨x9⟩).mpr h
theorem xt11 {A0 A1 A2 A3 A4 A5 A6 A7 A8 A9 A10 p q:Prop} (x0:A0) (x1:A1) (x2:A2) (x3:A3) (x4:A4) (x5:A5) (x6:A6) (x7:A7) (x8:A8) (x9:A9) (x10:A10) (h:q) (e:Wr A0->Wr A1->Wr A2->Wr A3->Wr A4->Wr A5->Wr A6->Wr A7->Wr A8->Wr A9->Wr A10->p=q:=by intro f0 f1 f2 f3 f4 f5 f6 f7 f8 f9 f10;conv=>lhs;simp (maxSteps:=10000000) (disch:=first|assumption|decide|omega|(simp only[zde, *];done)|(simp only[zdf,big];first|done|assumption|omega)) only [zst,argsE,spl,resXs,resX,vI,vB,vX,oneOr_0,oneOr_1,oneOr_2,Nat.reduceLT,Nat.reduceEqDiff,Nat.reduceAdd,Nat.reduceMul,Nat.reduceSub,reduceIte,Int.reduceLT,Int.reduceLE,Int.reduceEq,Int.reduceNeg,Int.reduceToNat,f0.o,f1.o,f2.o,f3.o,f4.o,f5.o,f6.o,f7.o,f8.o,f9.o,f10.o]):p:=(e ⟨x0⟩ ⟨x1⟩ ⟨x2⟩ ⟨x3⟩ ⟨x4⟩ ⟨x5⟩ ⟨x6⟩ ⟨x7⟩ ⟨x8⟩ ⟨x9⟩ ⟨x10⟩).mpr h
theorem xt12 {A0 A1 A2 A3 A4 A5 A6 A7 A8 A9 A10 A11 p q:Prop} (x0:A0) (x1:A1) (x2:A2) (x3:A3) (x4:A4) (x5:A5) (x6:A6) (x7:A7) (x8:A8) (x9:A9) (x10:A10) (x11:A11) (h:q) (e:Wr A0->Wr A1->Wr A2->Wr A3->Wr A4->Wr A5->Wr A6->Wr A7->Wr A8->Wr A9->Wr A10->Wr A11->p=q:=by intro f0 f1 f2 f3 f4 f5 f6 f7 f8 f9 f10 f11;conv=>lhs;simp (maxSteps:=10000000) (disch:=first|assumption|decide|omega|(simp only[zde, *];done)|(simp only[zdf,big];first|done|assumption|omega)) only [zst,argsE,spl,resXs,resX,vI,vB,vX,oneOr_0,oneOr_1,oneOr_2,Nat.reduceLT,Nat.reduceEqDiff,Nat.reduceAdd,Nat.reduceMul,Nat.reduceSub,reduceIte,Int.reduceLT,Int.reduceLE,Int.reduceEq,Int.reduceNeg,Int.reduceToNat,f0.o,f1.o,f2.o,f3.o,f4.o,f5.o,f6.o,f7.o,f8.o,f9.o,f10.o,f11.o]):p:=(e ⟨x0⟩ ⟨x1⟩ ⟨x2⟩ ⟨x3⟩ ⟨x4⟩ ⟨x5⟩ ⟨x6⟩ ⟨x7⟩ ⟨x8⟩ ⟨x9⟩ ⟨x10⟩ ⟨x11⟩).mpr h
theorem xt13 {A0 A1 A2 A3 A4 A5 A6 A7 A8 A9 A10 A11 A12 p q:Prop} (x0:A0) (x1:A1) (x2:A2) (x3:A3) (x4:A4) (x5:A5) (x6:A6) (x7:A7) (x8:A8) (x9:A9) (x10:A10) (x11:A11) (x12:A12) (h:q) (e:Wr A0->Wr A1->Wr A2->Wr A3->Wr A4->Wr A5->Wr A6->Wr A7->Wr A8->Wr A9->Wr A10->Wr A11->Wr A12->p=q:=by intro f0 f1 f2 f3 f4 f5 f6 f7 f8 f9 f10 f11 f12;conv=>lhs;simp (maxSteps:=10000000) (disch:=first|assumption|decide|omega|(simp only[zde, *];done)|(simp only[zdf,big];first|done|assumption|omega)) only [zst,argsE,spl,resXs,resX,vI,vB,vX,oneOr_0,oneOr_1,oneOr_2,Nat.reduceLT,Nat.reduceEqDiff,Nat.reduceAdd,Nat.reduceMul,Nat.reduceSub,reduceIte,Int.reduceLT,Int.reduceLE,Int.reduceEq,Int.reduceNeg,Int.reduceToNat,f0.o,f1.o,f2.o,f3.o,f4.o,f5.o,f6.o,f7.o,f8.o,f9.o,f10.o,f11.o,f12.o]):p:=(e ⟨x0⟩ ⟨x1⟩ ⟨x2⟩ ⟨x3⟩ ⟨x4⟩ ⟨x5⟩ ⟨x6⟩ ⟨x7⟩ ⟨x8⟩ ⟨x9⟩ ⟨x10⟩ ⟨x11⟩ ⟨x12⟩).mpr h
theorem xt14 {A0 A1 A2 A3 A4 A5 A6 A7 A8 A9 A10 A11 A12 A13 p q:Prop} (x0:A0) (x1:A1) (x2:A2) (x3:A3) (x4:A4) (x5:A5) (x6:A6) (x7:A7) (x8:A8) (x9:A9) (x10:A10) (x11:A11) (x12:A12) (x13:A13) (h:q) (e:Wr A0->Wr A1->Wr A2->Wr A3->Wr A4->Wr A5->Wr A6->Wr A7->Wr A8->Wr A9->Wr A10->Wr A11->Wr A12->Wr A13->p=q:=by intro f0 f1 f2 f3 f4 f5 f6 f7 f8 f9 f10 f11 f12 f13;conv=>lhs;simp (maxSteps:=10000000) (disch:=first|assumption|decide|omega|(simp only[zde, *];done)|(simp only[zdf,big];first|done|assumption|omega)) only [zst,argsE,spl,resXs,resX,vI,vB,vX,oneOr_0,oneOr_1,oneOr_2,Nat.reduceLT,Nat.reduceEqDiff,Nat.reduceAdd,Nat.reduceMul,Nat.reduceSub,reduceIte,Int.reduceLT,Int.reduceLE,Int.reduceEq,Int.reduceNeg,Int.reduceToNat,f0.o,f1.o,f2.o,f3.o,f4.o,f5.o,f6.o,f7.o,f8.o,f9.o,f10.o,f11.o,f12.o,f13.o]):p:=(e ⟨x0⟩ ⟨x1⟩ ⟨x2⟩ ⟨x3⟩ ⟨x4⟩ ⟨x5⟩ ⟨x6⟩ ⟨x7⟩ ⟨x8⟩ ⟨x9⟩ ⟨x10⟩ ⟨x11⟩ ⟨x12⟩ ⟨x13⟩).mpr h
theorem xt15 {A0 A1 A2 A3 A4 A5 A6 A7 A8 A9 A10 A11 A12 A13 A14 p q:Prop} (x0:A0) (x1:A1) (x2:A2) (x3:A3) (x4:A4) (x5:A5) (x6:A6) (x7:A7) (x8:A8) (x9:A9) (x10:A10) (x11:A11) (x12:A12) (x13:A13) (x14:A14) (h:q) (e:Wr A0->Wr A1->Wr A2->Wr A3->Wr A4->Wr A5->Wr A6->Wr A7->Wr A8->Wr A9->Wr A10->Wr A11->Wr A12->Wr A13->Wr A14->p=q:=by intro f0 f1 f2 f3 f4 f5 f6 f7 f8 f9 f10 f11 f12 f13 f14;conv=>lhs;simp (maxSteps:=10000000) (disch:=first|assumption|decide|omega|(simp only[zde, *];done)|(simp only[zdf,big];first|done|assumption|omega)) only [zst,argsE,spl,resXs,resX,vI,vB,vX,oneOr_0,oneOr_1,oneOr_2,Nat.reduceLT,Nat.reduceEqDiff,Nat.reduceAdd,Nat.reduceMul,Nat.reduceSub,reduceIte,Int.reduceLT,Int.reduceLE,Int.reduceEq,Int.reduceNeg,Int.reduceToNat,f0.o,f1.o,f2.o,f3.o,f4.o,f5.o,f6.o,f7.o,f8.o,f9.o,f10.o,f11.o,f12.o,f13.o,f14.o]):p:=(e ⟨x0⟩ ⟨x1⟩ ⟨x2⟩ ⟨x3⟩ ⟨x4⟩ ⟨x5⟩ ⟨x6⟩ ⟨x7⟩ ⟨x8⟩ ⟨x9⟩ ⟨x10⟩ ⟨x11⟩ ⟨x12⟩ ⟨x13⟩ ⟨x14⟩).mpr h
theorem xt16 {A0 A1 A2 A3 A4 A5 A6 A7 A8 A9 A10 A11 A12 A13 A14 A15 p q:Prop} (x0:A0) (x1:A1) (x2:A2) (x3:A3) (x4:A4) (x5:A5) (x6:A6) (x7:A7) (x8:A8) (x9:A9) (x10:A10) (x11:A11) (x12:A12) (x13:A13) (x14:A14) (x15:A15) (h:q) (e:Wr A0->Wr A1->Wr A2->Wr A3->Wr A4->Wr A5->Wr A6->Wr A7->Wr A8->Wr A9->Wr A10->Wr A11->Wr A12->Wr A13->Wr A14->Wr A15->p=q:=by intro f0 f1 f2 f3 f4 f5 f6 f7 f8 f9 f10 f11 f12 f13 f14 f15;conv=>lhs;simp (maxSteps:=10000000) (disch:=first|assumption|decide|omega|(simp only[zde, *];done)|(simp only[zdf,big];first|done|assumption|omega)) only [zst,argsE,spl,resXs,resX,vI,vB,vX,oneOr_0,oneOr_1,oneOr_2,Nat.reduceLT,Nat.reduceEqDiff,Nat.reduceAdd,Nat.reduceMul,Nat.reduceSub,reduceIte,Int.reduceLT,Int.reduceLE,Int.reduceEq,Int.reduceNeg,Int.reduceToNat,f0.o,f1.o,f2.o,f3.o,f4.o,f5.o,f6.o,f7.o,f8.o,f9.o,f10.o,f11.o,f12.o,f13.o,f14.o,f15.o]):p:=(e ⟨x0⟩ ⟨x1⟩ ⟨x2⟩ ⟨x3⟩ ⟨x4⟩ ⟨x5⟩ ⟨x6⟩ ⟨x7⟩ ⟨x8⟩ ⟨x9⟩ ⟨x10⟩ ⟨x11⟩ ⟨x12⟩ ⟨x13⟩ ⟨x14⟩ ⟨x15⟩).mpr h
theorem xt17 {A0 A1 A2 A3 A4 A5 A6 A7 A8 A9 A10 A11 A12 A13 A14 A15 A16 p q:Prop} (x0:A0) (x1:A1) (x2:A2) (x3:A3) (x4:A4) (x5:A5) (x6:A6) (x7:A7) (x8:A8) (x9:A9) (x10:A10) (x11:A11) (x12:A12) (x13:A13) (x14:A14) (x15:A15) (x16:A16) (h:q) (e:Wr A0->Wr A1->Wr A2->Wr A3->Wr A4->Wr A5->Wr A6->Wr A7->Wr A8->Wr A9->Wr A10->Wr A11->Wr A12->Wr A13->Wr A14->Wr A15->Wr A16->p=q:=by intro f0 f1 f2 f3 f4 f5 f6 f7 f8 f9 f10 f11 f12 f13 f14 f15 f16;conv=>lhs;simp (maxSteps:=10000000) (disch:=first|assumption|decide|omega|(simp only[zde, *];done)|(simp only[zdf,big];first|done|assumption|omega)) only [zst,argsE,spl,resXs,resX,vI,vB,vX,oneOr_0,oneOr_1,oneOr_2,Nat.reduceLT,Nat.reduceEqDiff,Nat.reduceAdd,Nat.reduceMul,Nat.reduceSub,reduceIte,Int.reduceLT,Int.reduceLE,Int.reduceEq,Int.reduceNeg,Int.reduceToNat,f0.o,f1.o,f2.o,f3.o,f4.o,f5.o,f6.o,f7.o,f8.o,f9.o,f10.o,f11.o,f12.o,f13.o,f14.o,f15.o,f16.o]):p:=(e ⟨x0⟩ ⟨x1⟩ ⟨x2⟩ ⟨x3⟩ ⟨x4⟩ ⟨x5⟩ ⟨x6⟩ ⟨x7⟩ ⟨x8⟩ ⟨x9⟩ ⟨x10⟩ ⟨x11⟩ ⟨x12⟩ ⟨x13⟩ ⟨x14⟩ ⟨x15⟩ ⟨x16⟩).mpr h
theorem xt18 {A0 A1 A2 A3 A4 A5 A6 A7 A8 A9 A10 A11 A12 A13 A14 A15 A16 A17 p q:Prop} (x0:A0) (x1:A1) (x2:A2) (x3:A3) (x4:A4) (x5:A5) (x6:A6) (x7:A7) (x8:A8) (x9:A9) (x10:A10) (x11:A11) (x12:A12) (x13:A13) (x14:A14) (x15:A15) (x16:A16) (x17:A17) (h:q) (e:Wr A0->Wr A1->Wr A2->Wr A3->Wr A4->Wr A5->Wr A6->Wr A7->Wr A8->Wr A9->Wr A10->Wr A11->Wr A12->Wr A13->Wr A14->Wr A15->Wr A16->Wr A17->p=q:=by intro f0 f1 f2 f3 f4 f5 f6 f7 f8 f9 f10 f11 f12 f13 f14 f15 f16 f17;conv=>lhs;simp (maxSteps:=10000000) (disch:=first|assumption|decide|omega|(simp only[zde, *];done)|(simp only[zdf,big];first|done|assumption|omega)) only [zst,argsE,spl,resXs,resX,vI,vB,vX,oneOr_0,oneOr_1,oneOr_2,Nat.reduceLT,Nat.reduceEqDiff,Nat.reduceAdd,Nat.reduceMul,Nat.reduceSub,reduceIte,Int.reduceLT,Int.reduceLE,Int.reduceEq,Int.reduceNeg,Int.reduceToNat,f0.o,f1.o,f2.o,f3.o,f4.o,f5.o,f6.o,f7.o,f8.o,f9.o,f10.o,f11.o,f12.o,f13.o,f14.o,f15.o,f16.o,f17.o]):p:=(e ⟨x0⟩ ⟨x1⟩ ⟨x2⟩ ⟨x3⟩ ⟨x4⟩ ⟨x5⟩ ⟨x6⟩ ⟨x7⟩ ⟨x8⟩ ⟨x9⟩ ⟨x10⟩ ⟨x11⟩ ⟨x12⟩ ⟨x13⟩ ⟨x14⟩ ⟨x15⟩ ⟨x16⟩ ⟨x17⟩).mpr h
theorem xt19 {A0 A1 A2 A3 A4 A5 A6 A7 A8 A9 A10 A11 A12 A13 A14 A15 A16 A17 A18 p q:Prop} (x0:A0) (x1:A1) (x2:A2) (x3:A3) (x4:A4) (x5:A5) (x6:A6) (x7:A7) (x8:A8) (x9:A9) (x10:A10) (x11:A11) (x12:A12) (x13:A13) (x14:A14) (x15:A15) (x16:A16) (x17:A17) (x18:A18) (h:q) (e:Wr A0->Wr A1->Wr A2->Wr A3->Wr A4->Wr A5->Wr A6->Wr A7->Wr A8->Wr A9->Wr A10->Wr A11->Wr A12->Wr A13->Wr A14->Wr A15->Wr A16->Wr A17->Wr A18->p=q:=by intro f0 f1 f2 f3 f4 f5 f6 f7 f8 f9 f10 f11 f12 f13 f14 f15 f16 f17 f18;conv=>lhs;simp (maxSteps:=10000000) (disch:=first|assumption|decide|omega|(simp only[zde, *];done)|(simp only[zdf,big];first|done|assumption|omega)) only [zst,argsE,spl,resXs,resX,vI,vB,vX,oneOr_0,oneOr_1,oneOr_2,Nat.reduceLT,Nat.reduceEqDiff,Nat.reduceAdd,Nat.reduceMul,Nat.reduceSub,reduceIte,Int.reduceLT,Int.reduceLE,Int.reduceEq,Int.reduceNeg,Int.reduceToNat,f0.o,f1.o,f2.o,f3.o,f4.o,f5.o,f6.o,f7.o,f8.o,f9.o,f10.o,f11.o,f12.o,f13.o,f14.o,f15.o,f16.o,f17.o,f18.o]):p:=(e ⟨x0⟩ ⟨x1⟩ ⟨x2⟩ ⟨x3⟩ ⟨x4⟩ ⟨x5⟩ ⟨x6⟩ ⟨x7⟩ ⟨x8⟩ ⟨x9⟩ ⟨x10⟩ ⟨x11⟩ ⟨x12⟩ ⟨x13⟩ ⟨x14⟩ ⟨x15⟩ ⟨x16⟩ ⟨x17⟩ ⟨x18⟩).mpr h
theorem xt20 {A0 A1 A2 A3 A4 A5 A6 A7 A8 A9 A10 A11 A12 A13 A14 A15 A16 A17 A18 A19 p q:Prop} (x0:A0) (x1:A1) (x2:A2) (x3:A3) (x4:A4) (x5:A5) (x6:A6) (x7:A7) (x8:A8) (x9:A9) (x10:A10) (x11:A11) (x12:A12) (x13:A13) (x14:A14) (x15:A15) (x16:A16) (x17:A17) (x18:A18) (x19:A19) (h:q) (e:Wr A0->Wr A1->Wr A2->Wr A3->Wr A4->Wr A5->Wr A6->Wr A7->Wr A8->Wr A9->Wr A10->Wr A11->Wr A12->Wr A13->Wr A14->Wr A15->Wr A16->Wr A17->Wr A18->Wr A19->p=q:=by intro f0 f1 f2 f3 f4 f5 f6 f7 f8 f9 f10 f11 f12 f13 f14 f15 f16 f17 f18 f19;conv=>lhs;simp (maxSteps:=10000000) (disch:=first|assumption|decide|omega|(simp only[zde, *];done)|(simp only[zdf,big];first|done|assumption|omega)) only [zst,argsE,spl,resXs,resX,vI,vB,vX,oneOr_0,oneOr_1,oneOr_2,Nat.reduceLT,Nat.reduceEqDiff,Nat.reduceAdd,Nat.reduceMul,Nat.reduceSub,reduceIte,Int.reduceLT,Int.reduceLE,Int.reduceEq,Int.reduceNeg,Int.reduceToNat,f0.o,f1.o,f2.o,f3.o,f4.o,f5.o,f6.o,f7.o,f8.o,f9.o,f10.o,f11.o,f12.o,f13.o,f14.o,f15.o,f16.o,f17.o,f18.o,f19.o]):p:=(e ⟨x0⟩ ⟨x1⟩ ⟨x2⟩ ⟨x3⟩ ⟨x4⟩ ⟨x5⟩ ⟨x6⟩ ⟨x7⟩ ⟨x8⟩ ⟨x9⟩ ⟨x10⟩ ⟨x11⟩ ⟨x12⟩ ⟨x13⟩ ⟨x14⟩ ⟨x15⟩ ⟨x16⟩ ⟨x17⟩ ⟨x18⟩ ⟨x19⟩).mpr h
theorem xt22 {A0 A1 A2 A3 A4 A5 A6 A7 A8 A9 A10 A11 A12 A13 A14 A15 A16 A17 A18 A19 A20 A21 p q:Prop} (x0:A0) (x1:A1) (x2:A2) (x3:A3) (x4:A4) (x5:A5) (x6:A6) (x7:A7) (x8:A8) (x9:A9) (x10:A10) (x11:A11) (x12:A12) (x13:A13) (x14:A14) (x15:A15) (x16:A16) (x17:A17) (x18:A18) (x19:A19) (x20:A20) (x21:A21) (h:q) (e:Wr A0->Wr A1->Wr A2->Wr A3->Wr A4->Wr A5->Wr A6->Wr A7->Wr A8->Wr A9->Wr A10->Wr A11->Wr A12->Wr A13->Wr A14->Wr A15->Wr A16->Wr A17->Wr A18->Wr A19->Wr A20->Wr A21->p=q:=by intro f0 f1 f2 f3 f4 f5 f6 f7 f8 f9 f10 f11 f12 f13 f14 f15 f16 f17 f18 f19 f20 f21;conv=>lhs;simp (maxSteps:=10000000) (disch:=first|assumption|decide|omega|(simp only[zde, *];done)|(simp only[zdf,big];first|done|assumption|omega)) only [zst,argsE,spl,resXs,resX,vI,vB,vX,oneOr_0,oneOr_1,oneOr_2,Nat.reduceLT,Nat.reduceEqDiff,Nat.reduceAdd,Nat.reduceMul,Nat.reduceSub,reduceIte,Int.reduceLT,Int.reduceLE,Int.reduceEq,Int.reduceNeg,Int.reduceToNat,f0.o,f1.o,f2.o,f3.o,f4.o,f5.o,f6.o,f7.o,f8.o,f9.o,f10.o,f11.o,f12.o,f13.o,f14.o,f15.o,f16.o,f17.o,f18.o,f19.o,f20.o,f21.o]):p:=(e ⟨x0⟩ ⟨x1⟩ ⟨x2⟩ ⟨x3⟩ ⟨x4⟩ ⟨x5⟩ ⟨x6⟩ ⟨x7⟩ ⟨x8⟩ ⟨x9⟩ ⟨x10⟩ ⟨x11⟩ ⟨x12⟩ ⟨x13⟩ ⟨x14⟩ ⟨x15⟩ ⟨x16⟩ ⟨x17⟩ ⟨x18⟩ ⟨x19⟩ ⟨x20⟩ ⟨x21⟩).mpr h
theorem xt23 {A0 A1 A2 A3 A4 A5 A6 A7 A8 A9 A10 A11 A12 A13 A14 A15 A16 A17 A18 A19 A20 A21 A22 p q:Prop} (x0:A0) (x1:A1) (x2:A2) (x3:A3) (x4:A4) (x5:A5) (x6:A6) (x7:A7) (x8:A8) (x9:A9) (x10:A10) (x11:A11) (x12:A12) (x13:A13) (x14:A14) (x15:A15) (x16:A16) (x17:A17) (x18:A18) (x19:A19) (x20:A20) (x21:A21) (x22:A22) (h:q) (e:Wr A0->Wr A1->Wr A2->Wr A3->Wr A4->Wr A5->Wr A6->Wr A7->Wr A8->Wr A9->Wr A10->Wr A11->Wr A12->Wr A13->Wr A14->Wr A15->Wr A16->Wr A17->Wr A18->Wr A19->Wr A20->Wr A21->Wr A22->p=q:=by intro f0 f1 f2 f3 f4 f5 f6 f7 f8 f9 f10 f11 f12 f13 f14 f15 f16 f17 f18 f19 f20 f21 f22;conv=>lhs;simp (maxSteps:=10000000) (disch:=first|assumption|decide|omega|(simp only[zde, *];done)|(simp only[zdf,big];first|done|assumption|omega)) only [zst,argsE,spl,resXs,resX,vI,vB,vX,oneOr_0,oneOr_1,oneOr_2,Nat.reduceLT,Nat.reduceEqDiff,Nat.reduceAdd,Nat.reduceMul,Nat.reduceSub,reduceIte,Int.reduceLT,Int.reduceLE,Int.reduceEq,Int.reduceNeg,Int.reduceToNat,f0.o,f1.o,f2.o,f3.o,f4.o,f5.o,f6.o,f7.o,f8.o,f9.o,f10.o,f11.o,f12.o,f13.o,f14.o,f15.o,f16.o,f17.o,f18.o,f19.o,f20.o,f21.o,f22.o]):p:=(e ⟨x0⟩ ⟨x1⟩ ⟨x2⟩ ⟨x3⟩ ⟨x4⟩ ⟨x5⟩ ⟨x6⟩ ⟨x7⟩ ⟨x8⟩ ⟨x9⟩ ⟨x10⟩ ⟨x11⟩ ⟨x12⟩ ⟨x13⟩ ⟨x14⟩ ⟨x15⟩ ⟨x16⟩ ⟨x17⟩ ⟨x18⟩ ⟨x19⟩ ⟨x20⟩ ⟨x21⟩ ⟨x22⟩).mpr h
end Go.Xs
namespace Go.Xs
noncomputable section
variable {P:Program} {Γ:Facts} {M N M':Hp} {key b:Nat}
def Agr (b:Nat) (M M':Hp):Prop:=∀k,k<b->tget M' k=tget M k
theorem Agr.refl (b:Nat) (M:Hp):Agr b M M:=fun _ _=>rfl
theorem Agr.trans {M1 M2 M3:Hp} (h:Agr b M1 M2) (h':Agr b M2 M3):Agr b M1 M3:=fun k hk=>(h' k hk).trans (h k hk)
theorem Agr.le {b':Nat} (h:Agr b M M') (hb:b'<=b):Agr b' M M':=fun k hk=>h k (by omega)
theorem Agr.set (h:Agr b M M') {k:Nat} (hk:b<=k) (o:XObj):Agr b M (tset M' k o):=fun j hj=>by rw[tget_tset,if_neg (by omega)];exact h j hj
def Ret (nx:Nat) (M:Hp) (v:XV) (r:Out):Prop:=r.1=v/\Agr nx M r.2.1/\nx<=r.2.2
theorem Ret.mk {nx nx':Nat} {M M':Hp} {v:XV} (h:Agr nx M M') (h':nx<=nx'):Ret nx M v (v,M',nx'):=⟨rfl,h,h'⟩
def SlAt (M:Hp) (b:Nat) (v:XV) (sz len:Nat) (row:List XV):Prop :=
 len<=9223372036854775807/\((v = .nils/\len=0/\row=[])\/∃n off cap cs,v = .sl n sz off len cap/\n<b/\hrd M n=some cs/\off+len*sz<=cs.length/\row=(cs.drop off).take (len*sz))
theorem SlAt.agr {v:XV} {sz len:Nat} {row:List XV} (h:SlAt M b v sz len row) (ha:Agr b M M'):SlAt M' b v sz len row:=by
 refine⟨h.1,?_⟩
 rcases h.2 with h | ⟨n,off,cap,cs,h1,h2,h3,h4⟩
 ·exact .inl h
 ·refine .inr ⟨n,off,cap,cs,h1,h2,?_,h4⟩
  unfold hrd at h3 ⊢
  rw[ha n h2];exact h3
theorem SlAt.row_len {v:XV} {sz len:Nat} {row:List XV} (h:SlAt M b v sz len row):row.length=len*sz:=by
 rcases h.2 with ⟨_,rfl,rfl⟩ | ⟨n,off,cap,cs,h1,h2,h3,h4,rfl⟩
 ·simp
 ·simp;omega
theorem SlAt.len {v:XV} {sz len:Nat} {row:List XV} (h:SlAt M b v sz len row) {t:Nat} (ht:nt P t = .sl) (N:Hp):lenX P N t v=some ⟨.int .i64 len,[],[]⟩:=by
 rcases h.2 with ⟨rfl,rfl,rfl⟩ | ⟨n,off,cap,cs,rfl,_⟩
 ·rw[len_nils,ht];rfl
 ·rw[len_sl,ht];rfl
theorem SlAt.at {v:XV} {sz len:Nat} {row:List XV} (h:SlAt M b v sz len row) {i:Nat} (hi:i<len) {t:Nat} (ht:es P t=some sz) :
 ∃n o,n<b/\(∀k,indexAddrX P t v (.int k (i:Int))=some (.mp n o))/\∃cs,hrd M n=some cs/\(row.drop (i*sz)).take sz=(cs.drop o).take sz/\o+sz<=cs.length:=by
 rcases h.2 with ⟨_,rfl,_⟩ | ⟨n,off,cap,cs,rfl,hn,hc,hl,rfl⟩
 ·omega
 ·refine⟨n,off+i*sz,hn,fun k=>?_,cs,hc,?_,?_⟩
  ·rw[indexAddr_eq,ht,iaC_some _ _ _ _ _ (by omega) (by omega)]
   simp
  ·rw[List.drop_take,List.drop_drop,List.take_take]
   congr 1
   have h1:len*sz - i*sz=(len - i)*sz:=by rw[Nat.sub_mul]
   have:sz<=(len - i)*sz:=Nat.le_mul_of_pos_left _ (by omega)
   omega
  ·have:(i+1)*sz<=len*sz:=Nat.mul_le_mul_right _ hi
   rw[Nat.add_mul,Nat.one_mul]at this
   omega
theorem load_hrd {n o t sz:Nat} {cs:List XV} (hc:hrd M n=some cs) (ht:sa P t=some (sz,true)) (hl:o+sz<=cs.length):loadX P M t (.mp n o)=some ⟨.agg ((cs.drop o).take sz),[n],[]⟩:=by
 unfold loadX
 simp only[hc,ofCells_eq,ht]
 rw[ocC_t _ _ (by simp;omega)]
theorem load_hrd1 {n o t sz:Nat} {cs:List XV} (hc:hrd M n=some cs) (ht:sa P t=some (sz,false)) {v:XV} (hv:cs[o]?=some v):loadX P M t (.mp n o)=some ⟨v,[n],[]⟩:=by
 unfold loadX
 simp only[hc,ofCells_eq,ht]
 have:cs.drop o=v::cs.drop (o+1):=by
  obtain⟨h1,rfl⟩:=List.getElem?_eq_some_iff.1 hv
  exact List.drop_eq_getElem_cons h1
 rw[this]
 rfl
theorem hrd_agr {n:Nat} {cs:List XV} (h:hrd M n=some cs) (ha:Agr b M M') (hn:n<b):hrd M' n=some cs:=by
 unfold hrd at h ⊢
 rw[ha n hn];exact h
theorem SlAt.elem {v:XV} {sz len:Nat} {row:List XV} (h:SlAt M b v sz len row) {i:Nat} (hi:i<len) {t t':Nat} (ht:es P t=some sz) (ht':sa P t'=some (sz,true)) :
 ∃n o,n<b/\(∀k,indexAddrX P t v (.int k (i:Int))=some (.mp n o))/\∀N,Agr b M N->loadX P N t' (.mp n o)=some ⟨.agg ((row.drop (i*sz)).take sz),[n],[]⟩:=by
 obtain⟨n,o,h1,h2,cs,h3,h4,h5⟩:=h.at hi ht
 refine⟨n,o,h1,h2,fun N hN=>?_⟩
 rw[load_hrd (hrd_agr h3 hN h1) ht' h5,h4]
theorem SlAt.cell {v:XV} {sz len:Nat} {row:List XV} (h:SlAt M b v sz len row):cellsOf v=[v]/\plain1 v=true:=by
 rcases h.2 with ⟨rfl,_⟩ | ⟨n,off,cap,cs,rfl,_⟩<;>exact⟨rfl,rfl⟩
inductive Ex where
 | mk (k a b:Int) (ps:List Ex)
mutual
def ExAt (M:Hp) (b:Nat):Ex->List XV->Prop
 | .mk k x y ps,cs=>∃v row,cs=[.int .i64 k,.int .u64 x,.int .u64 y,v]/\SlAt M b v 4 ps.length row/\ExsAt M b ps row
def ExsAt (M:Hp) (b:Nat):List Ex->List XV->Prop
 | [],_=>True
 | e::es,row=>ExAt M b e (row.take 4)/\ExsAt M b es (row.drop 4)
end
mutual
theorem ExAt.agr (ha:Agr b M M'):∀{e:Ex} {cs:List XV},ExAt M b e cs->ExAt M' b e cs
 | .mk k x y ps,cs,h=>by
   simp only[ExAt]at h ⊢
   obtain⟨v,row,h1,h2,h3⟩:=h
   exact⟨v,row,h1,h2.agr ha,ExsAt.agr ha h3⟩
theorem ExsAt.agr (ha:Agr b M M'):∀{es:List Ex} {row:List XV},ExsAt M b es row->ExsAt M' b es row
 | [],_,_=>by simp only[ExsAt]
 | e::es,row,h=>by
   simp only[ExsAt]at h ⊢
   exact⟨ExAt.agr ha h.1,ExsAt.agr ha h.2⟩
end
theorem ExsAt.get:∀{es:List Ex} {row:List XV} {i:Nat} {e:Ex},ExsAt M b es row->es[i]?=some e->ExAt M b e ((row.drop (i*4)).take 4)
 | [],_,_,_,_,h=>by simp at h
 | e::es,row,0,e',h,he=>by
   simp only[ExsAt]at h
   simp only[List.getElem?_cons_zero,Option.some.injEq]at he
   subst he
   simpa using h.1
 | e::es,row,i+1,e',h,he=>by
   simp only[ExsAt]at h
   simp only[List.getElem?_cons_succ]at he
   have:=ExsAt.get h.2 he
   rw[List.drop_drop]at this
   rw[show (i+1)*4=4+i*4 by omega]
   exact this
structure En where
 x:Int
 w:Int
 n:Int
 m:Bool
def encEn (e:En):List XV:=[.int .u64 e.x,.int .u64 e.w,.int .u64 e.n,.bool e.m]
structure Rec where
 kind:Int
 t:Int
 x:Int
 w:Int
 n:Int
 v:Int
 p:Ex
 es:List En
def EnsAt (M:Hp) (b:Nat) (v:XV) (es:List En):Prop:=SlAt M b v 4 es.length (es.flatMap encEn)
def RecAt (M:Hp) (b:Nat) (r:Rec) (cs:List XV):Prop :=
 ∃pc ve,cs=[.int .i64 r.kind,.int .u64 r.t,.int .u64 r.x,.int .u64 r.w,.int .u64 r.n,.int .u64 r.v]++pc++[ve]/\ExAt M b r.p pc/\EnsAt M b ve r.es
theorem RecAt.agr (ha:Agr b M M') {r:Rec} {cs:List XV} (h:RecAt M b r cs):RecAt M' b r cs:=by
 obtain⟨pc,ve,h1,h2,h3⟩:=h
 exact⟨pc,ve,h1,h2.agr ha,SlAt.agr h3 ha⟩
def RecsAt (M:Hp) (b:Nat) (v:XV) (l:List Rec):Prop:=∃row,SlAt M b v 11 l.length row/\∀i r,l[i]?=some r->RecAt M b r ((row.drop (i*11)).take 11)
theorem RecsAt.agr (ha:Agr b M M') {v:XV} {l:List Rec} (h:RecsAt M b v l):RecsAt M' b v l:=by
 obtain⟨row,h1,h2⟩:=h
 exact⟨row,h1.agr ha,fun i r hi=>(h2 i r hi).agr ha⟩
end
end Go.Xs
namespace Go.Xs
open Go.RowKit
noncomputable section
section
variable {P:Program} {M M':Hp} {b:Nat}
def FsAt (g:TypeId->List XV->Prop) (P:Program):List Field->List XV->Prop
 | [],xs=>xs=[]
 | f::fs,xs=>∃ys zs,xs=ys++zs/\ys.length=P.cellsOf f.type/\g f.type ys/\FsAt g P fs zs
def TyAt (P:Program) (M:Hp) (b:Nat):Nat->TypeId->List XV->Prop
 | 0,_,_=>False
 | n+1,t,xs=>match P.underlying t with
   | some .bool=>∃v,xs=[.bool v]
   | some (.int k)=>∃i,xs=[.int k i]/\(Lit.int k i).wf=true
   | some (.slice e)=>∃(v:XV) (len:Nat) (row:List XV) (xss:List (List XV)),xs=[v]/\SlAt M b v (P.cellsOf e) len row/\row=xss.flatten/\xss.length=len/\∀ys ∈ xss,ys.length=P.cellsOf e/\TyAt P M b n e ys
   | some (.struct fs)=>FsAt (TyAt P M b n) P fs.toList xs
   | _=>False
theorem FsAt.imp {g h:TypeId->List XV->Prop} (hgh:∀t xs,g t xs->h t xs):∀{fs:List Field} {xs:List XV},FsAt g P fs xs->FsAt h P fs xs
 | [],_,q=>q
 | _::_,_,⟨ys,zs,h1,h2,h3,h4⟩=>⟨ys,zs,h1,h2,hgh _ _ h3,FsAt.imp hgh h4⟩
theorem SlAt.le {v:XV} {sz len b':Nat} {row:List XV} (h:SlAt M b v sz len row) (hb:b<=b'):SlAt M b' v sz len row:=by
 refine⟨h.1,?_⟩
 rcases h.2 with h | ⟨n,off,cap,cs,h1,h2,h3⟩
 ·exact .inl h
 ·exact .inr ⟨n,off,cap,cs,h1,by omega,h3⟩
theorem TyAt.grow {b':Nat} (ha:Agr b M M') (hb:b<=b'):∀{n:Nat} {t:TypeId} {xs:List XV},TyAt P M b n t xs->TyAt P M' b' n t xs
 | 0,_,_,h=>h.elim
 | n+1,t,xs,h=>by
   simp only[TyAt]at h ⊢
   split at h
   ·exact h
   ·exact h
   ·obtain⟨v,len,row,xss,h1,h2,h3,h4,h5⟩:=h
    exact⟨v,len,row,xss,h1,(h2.agr ha).le hb,h3,h4,fun ys hy=>⟨(h5 ys hy).1,TyAt.grow ha hb (h5 ys hy).2⟩⟩
   ·exact h.imp fun t xs q=>TyAt.grow ha hb q
   ·exact h
def contig (P:Program):List Field->Nat->Nat->Bool
 | [],o,n=>Nat.beq o n
 | f::fs,o,n=>Nat.beq f.offset o&&contig P fs (o+P.cellsOf f.type) n
def tyOk (P:Program) (S:List TypeId) (t:TypeId):Bool:=match P.underlying t with
 | some .bool=>Nat.beq (P.cellsOf t) 1
 | some (.int _)=>Nat.beq (P.cellsOf t) 1
 | some (.slice e)=>Nat.beq (P.cellsOf t) 1&&S.any (Nat.beq e)&&Nat.blt 0 (P.cellsOf e)
 | some (.struct fs)=>contig P fs.toList 0 (P.cellsOf t)&&fs.toList.all fun f=>S.any (Nat.beq f.type)
 | _=>false
theorem mem_any {S:List TypeId} {t:TypeId} (h:S.any (Nat.beq t)=true):t ∈ S:=by
 obtain⟨u,h1,h2⟩:=List.any_eq_true.1 h
 rwa [Nat.eq_of_beq_eq_true h2]
end
section
variable {P:Program} {ρ:Rho} {w:World} {σ σ' σ'':Sig} {M M' M'':Hp} {nx nx' nx'':Nat} {H:Type} {enc:TypeId×Value->H}
structure Good (ρ:Rho) (w:World) (σ:Sig) (M:Hp) (nx:Nat):Prop where
 ok:Ok ρ w σ M
 free:∀k,nx<=k->σ k=none
 cst:∀k o,tget M k=some o->muts o=false
structure Grow (σ:Sig) (M:Hp) (nx:Nat) (σ':Sig) (M':Hp) (nx':Nat):Prop where
 agr:Agr nx M M'
 le:nx<=nx'
 sig:∀k p,σ k=some p->σ' k=some p
theorem Grow.refl (σ:Sig) (M:Hp) (nx:Nat):Grow σ M nx σ M nx:=⟨Agr.refl _ _,Nat.le_refl _,fun _ _ h=>h⟩
theorem Grow.trans (h:Grow σ M nx σ' M' nx') (k:Grow σ' M' nx' σ'' M'' nx''):Grow σ M nx σ'' M'' nx'' :=
 ⟨h.agr.trans (k.agr.le h.le),Nat.le_trans h.le k.le,fun q p hp=>k.sig q p (h.sig q p hp)⟩
theorem Good.no (h:Good ρ w σ M nx) (b:Nat):¬ Owned σ M b:=fun⟨k,o,p,h1,_,_,h4⟩=>by
 rw[h.cst k o h1]at h4
 cases h4
theorem Good.add (h:Good ρ w σ M nx) {b:Nat} {us:Array Value} {t:TypeId} {fz:Nat×Nat} {cs:List XV} (hb:w.heap[b]?=some (.cells us t fz)) (hl:cs.length<=us.size) (hv:VRs ρ σ cs (us.toList.take cs.length)) :
 Good ρ w (σ.upd nx (b,us.size)) (tset M nx (.cst cs)) (nx+1)/\Grow σ M nx (σ.upd nx (b,us.size)) (tset M nx (.cst cs)) (nx+1):=by
 have hf:=h.free nx (Nat.le_refl _)
 have sub:=Sig.upd_sub hf (b,us.size)
 have hc:∀k o,tget (tset M nx (.cst cs)) k=some o->muts o=false:=fun k o hk=>by
  rw[tget_tset]at hk
  split at hk
  ·cases hk;rfl
  ·exact h.cst k o hk
 have hno:∀c,¬ Owned (σ.upd nx (b,us.size)) (tset M nx (.cst cs)) c:=fun c ⟨k,o,p,h1,_,_,h4⟩=>by
  rw[hc k o h1]at h4
  cases h4
 refine⟨⟨⟨fun k o hk=>?_,fun k k' o o' p p' hk _ hm=>(by rw[hc k o hk]at hm;cases hm),fun c x hx=>⟨(h.ok.fix c x hx).1,hno c⟩⟩,fun k hk=>(by rw[Sig.upd_other _ _ (by omega)];exact h.free k (by omega)),hc⟩,(Agr.refl _ _).set (Nat.le_refl _) _,by omega,sub⟩
 rw[tget_tset]at hk
 split at hk
 ·rename_i e
  subst e
  cases hk
  exact⟨_,Sig.upd_same _ _ _,us,t,fz,hb,rfl,hl,hv.mono sub⟩
 ·obtain⟨p,hp,ho⟩:=h.ok.obj k o hk
  exact⟨p,sub k p hp,ho.mono sub rfl⟩
theorem each_ty {S:List TypeId} {n:Nat} (step:∀(t:TypeId) (cs:List Value),(∃x,DataW.trod enc P w 0 (fun _=>true) true n t cs=some x)->∀(σ:Sig) (M:Hp) (nx:Nat),Good ρ w σ M nx ->
 t ∈ S->∃σ' M' nx' xs,Good ρ w σ' M' nx'/\Grow σ M nx σ' M' nx'/\VRs ρ σ' xs cs/\TyAt P M' nx' n t xs/\xs.length=P.cellsOf t) :
 ∀(l:List (TypeId×List Value)),(∀q ∈ l,q.1 ∈ S/\∃x,DataW.trod enc P w 0 (fun _=>true) true n q.1 q.2=some x)->∀(σ:Sig) (M:Hp) (nx:Nat),Good ρ w σ M nx ->
  ∃(σ':Sig) (M':Hp) (nx':Nat) (xss:List (List XV)),Good ρ w σ' M' nx'/\Grow σ M nx σ' M' nx'/\VRs ρ σ' xss.flatten (l.map (·.2)).flatten/\xss.length=l.length/\∀(i:Nat) q ys,l[i]?=some q->xss[i]?=some ys->TyAt P M' nx' n q.1 ys/\ys.length=P.cellsOf q.1
 | [],_,σ,M,nx,hg=>⟨σ,M,nx,[],hg,.refl _ _ _,by simp[VRs],rfl,fun i q ys h=>by simp at h⟩
 | (t,cs)::l,hq,σ,M,nx,hg=>by
   have h0:=hq (t,cs) List.mem_cons_self
   obtain⟨σ1,M1,nx1,xs,g1,r1,v1,t1,l1⟩:=step t cs h0.2 σ M nx hg h0.1
   obtain⟨σ2,M2,nx2,xss,g2,r2,v2,e2,t2⟩:=each_ty step l (fun q h=>hq q (List.mem_cons_of_mem _ h)) σ1 M1 nx1 g1
   refine⟨σ2,M2,nx2,xs::xss,g2,r1.trans r2,?_,by simp[e2],fun i q ys hi hy=>?_⟩
   ·simp only[List.flatten_cons,List.map_cons]
    exact(v1.mono r2.sig).append v2
   ·cases i with
    | zero =>
      simp only[List.getElem?_cons_zero,Option.some.injEq]at hi hy
      subst hi;subst hy
      exact⟨t1.grow r2.agr r2.le,l1⟩
    | succ i=>exact t2 i q ys (by simpa using hi) (by simpa using hy)
theorem contig_flat {cs:List Value}:∀{fs:List Field} {o:Nat},contig P fs o cs.length=true->(fs.map fun f=>(cs.drop f.offset).take (P.cellsOf f.type)).flatten=cs.drop o
 | [],o,h=>by
   have:=Nat.eq_of_beq_eq_true h
   subst this
   simp
 | f::fs,o,h=>by
   simp only[contig,Bool.and_eq_true]at h
   obtain⟨h1,h2⟩:=h
   have:=Nat.eq_of_beq_eq_true h1
   subst this
   rw[List.map_cons,List.flatten_cons,contig_flat h2,<-List.drop_drop,List.take_append_drop]
theorem fs_at {g:TypeId->List XV->Prop}:∀{fs:List Field} {xss:List (List XV)},xss.length=fs.length->(∀(i:Nat) f ys,fs[i]?=some f->xss[i]?=some ys->g f.type ys/\ys.length=P.cellsOf f.type)->FsAt g P fs xss.flatten
 | [],[],_,_=>rfl
 | [],_::_,h,_=>by simp at h
 | _::_,[],h,_=>by simp at h
 | f::fs,xs::xss,hl,h=>by
   have h0:=h 0 f xs rfl rfl
   exact⟨xs,xss.flatten,rfl,h0.2,h0.1,fs_at (by simpa using hl) fun i f' ys h1 h2=>h (i+1) f' ys (by simpa using h1) (by simpa using h2)⟩
theorem rows_flat {us:List Value} {off sz:Nat}:∀(len:Nat),off+len*sz<=us.length->((List.range len).map fun i=>(us.drop (off+i*sz)).take sz).flatten=(us.drop off).take (len*sz)
 | 0,_=>by simp
 | len+1,h=>by
   have hm:(len+1)*sz=len*sz+sz:=Nat.succ_mul _ _
   rw[List.range_succ,List.map_append,List.flatten_append,rows_flat len (by omega),hm,List.take_add,List.drop_drop]
   simp
theorem undefs {σ:Sig}:∀(us:List Value),VRs ρ σ (List.replicate us.length .un) us
 | []=>by simp[VRs]
 | u::us=>by
   simp only[List.length_cons,List.replicate_succ,VRs,VR]
   exact⟨u,us,rfl,trivial,undefs us⟩
theorem cell_at {b o:Nat} {v:Value} (h:w.cell? ⟨b,o,none⟩=some v):∃(us:Array Value) (t:TypeId) (fz:Nat×Nat),w.heap[b]?=some (.cells us t fz)/\us[o]?=some v:=by
 unfold World.cell? at h
 simp only[Option.isSome_none,Bool.false_eq_true,if_false]at h
 split at h
 ·rename_i us t fz hb
  exact⟨us,t,fz,hb,h⟩
 ·cases h
theorem trod_ty {S:List TypeId} (hS:∀t ∈ S,tyOk P S t=true) (hb0:∃(b:Nat) (us:Array Value) (t:TypeId) (fz:Nat×Nat),w.heap[b]?=some (.cells us t fz)) :
 ∀(n:Nat) (t:TypeId) (cs:List Value),(∃x,DataW.trod enc P w 0 (fun _=>true) true n t cs=some x)->∀(σ:Sig) (M:Hp) (nx:Nat),Good ρ w σ M nx ->
  t ∈ S->∃σ' M' nx' xs,Good ρ w σ' M' nx'/\Grow σ M nx σ' M' nx'/\VRs ρ σ' xs cs/\TyAt P M' nx' n t xs/\xs.length=P.cellsOf t
 | 0,_,_,⟨x,h⟩=>by simp[DataW.trod]at h
 | n+1,t,cs,⟨x,h⟩=>fun σ M nx hg ht=>by
   have hk:=hS t ht
   unfold tyOk at hk
   split at hk
   ·rename_i hu
    obtain⟨v,rfl,_⟩:=DataW.trod_bool hu h
    refine⟨σ,M,nx,[.bool v],hg,.refl _ _ _,by simp only[VRs,VR];exact⟨_,_,rfl,rfl,rfl⟩,?_,(Nat.eq_of_beq_eq_true hk).symm⟩
    simp only[TyAt,hu]
    exact⟨v,rfl⟩
   ·rename_i k hu
    obtain⟨i,rfl,_,hw⟩:=DataW.trod_int hu h
    refine⟨σ,M,nx,[.int k i],hg,.refl _ _ _,by simp only[VRs,VR];exact⟨_,_,rfl,rfl,rfl⟩,?_,(Nat.eq_of_beq_eq_true hk).symm⟩
    simp only[TyAt,hu]
    exact⟨i,rfl,hw⟩
   ·rename_i e hu
    simp only[Bool.and_eq_true]at hk
    obtain⟨⟨h1,he⟩,hz⟩:=hk
    have he:=mem_any he
    have hz:0<P.cellsOf e:=(by simpa using hz)
    have h1:=(Nat.eq_of_beq_eq_true h1).symm
    rcases DataW.trod_slice hu h with ⟨rfl,_⟩ | ⟨a,len,cap,elems,rest,m,hm,rfl,_,_,hl,hcm,hle,hel,hsp,_⟩
    ·refine⟨σ,M,nx,[.nils],hg,.refl _ _ _,by simp only[VRs,VR];exact⟨_,_,rfl,rfl,rfl⟩,?_,h1⟩
     simp only[TyAt,hu]
     exact⟨.nils,0,[],[],rfl,⟨by decide,.inl ⟨rfl,rfl,rfl⟩⟩,rfl,rfl,fun ys hy=>by cases hy⟩
    ·obtain rfl:m=n:=by omega
     obtain⟨hr,hsp⟩:=hsp rfl
     have hcm:cap<=9223372036854775807:=Nat.le_trans hcm (by decide)
     have rd:∀i,i<cap->∃ci,w.cells? 0 (a.add (i*P.cellsOf e)) (P.cellsOf e)=some ci/\∃x,DataW.trod enc P w 0 (fun _=>true) true m e ci=some x:=fun i hi=>by
      by_cases hlt:i<len
      ·have h2:=hel i hlt
       rw[List.getElem?_eq_getElem (by omega)]at h2
       obtain⟨ci,e1,e2⟩:=Option.bind_eq_some_iff.1 h2
       exact⟨ci,e1,_,e2⟩
      ·have h2:=hsp (i - len) (by omega)
       rw[List.getElem?_eq_getElem (by omega),show len+(i - len)=i by omega]at h2
       obtain⟨ci,e1,e2⟩:=Option.bind_eq_some_iff.1 h2
       exact⟨ci,e1,_,e2⟩
     by_cases hc:cap=0
     ·subst hc
      obtain rfl:len=0:=by omega
      obtain⟨b,us,t',fz,hb⟩:=hb0
      obtain⟨g1,r1⟩:=hg.add (cs:=[]) hb (by simp) (by simp[VRs])
      refine⟨_,_,_,[.sl nx (P.cellsOf e) 0 0 0],g1,r1,?_,?_,h1⟩
      ·simp only[VRs,VR]
       exact⟨_,_,rfl,⟨b,us.size,0,a,Sig.upd_same _ _ _,rfl,Nat.le_refl _,Nat.le_refl _,.inr rfl,by simp⟩,rfl⟩
      ·simp only[TyAt,hu]
       refine⟨_,0,[],[],rfl,⟨by decide,.inr ⟨nx,0,0,[],rfl,by omega,?_,by simp,by simp⟩⟩,rfl,rfl,fun ys hy=>by cases hy⟩
       unfold hrd
       rw[tget_tset,if_pos rfl]
     ·obtain⟨b,off,spot⟩:=a
      have hs:spot=none:=by
       obtain⟨ci,e1,_⟩:=rd 0 (by omega)
       obtain⟨_,hcl,hcell⟩:=World.cells?_some e1
       have h2:=hcell 0 hz
       rw[List.getElem?_eq_getElem (by omega)]at h2
       have h3:=World.cell?_spot h2
       simpa [Addr.add] using h3
      subst hs
      have hadd:∀o k:Nat,(⟨b,o,none⟩:Addr).add k=⟨b,o+k,none⟩:=fun o k=>by
       simp only[Addr.add];split<;>simp_all
      have rd2:∀i,i<cap->∃ci,(∀j,j<P.cellsOf e->w.cell? ⟨b,off+i*P.cellsOf e+j,none⟩=ci[j]?)/\ci.length=P.cellsOf e/\∃x,DataW.trod enc P w 0 (fun _=>true) true m e ci=some x:=fun i hi=>by
       obtain⟨ci,e1,e2⟩:=rd i hi
       obtain⟨_,hcl,hcell⟩:=World.cells?_some e1
       exact⟨ci,fun j hj=>by have:=hcell j hj;rwa [hadd,hadd]at this,hcl,e2⟩
      obtain⟨us,tt,fz,hb,hroom⟩:∃(us:Array Value) (tt:TypeId) (fz:Nat×Nat),w.heap[b]?=some (.cells us tt fz)/\off+cap*P.cellsOf e<=us.size:=by
       obtain⟨ci,e1,e2,_⟩:=rd2 (cap - 1) (by omega)
       have h2:=e1 (P.cellsOf e - 1) (by omega)
       rw[List.getElem?_eq_getElem (by omega)]at h2
       obtain⟨us,tt,fz,hb,h3⟩:=cell_at h2
       refine⟨us,tt,fz,hb,?_⟩
       have h4:=(Array.getElem?_eq_some_iff.1 h3).1
       have:cap*P.cellsOf e=(cap - 1)*P.cellsOf e+P.cellsOf e:=by rw[<-Nat.succ_mul];congr 1;omega
       omega
      have hlz:len*P.cellsOf e<=cap*P.cellsOf e:=Nat.mul_le_mul_right _ hl
      have each:∀i,i<len->∃x,DataW.trod enc P w 0 (fun _=>true) true m e ((us.toList.drop (off+i*P.cellsOf e)).take (P.cellsOf e))=some x:=fun i hi=>by
       obtain⟨ci,e1,e2,e3⟩:=rd2 i (by omega)
       have:ci=(us.toList.drop (off+i*P.cellsOf e)).take (P.cellsOf e):=by
        apply List.ext_getElem?
        intro j
        by_cases hj:j<P.cellsOf e
        ·rw[<-e1 j hj,List.getElem?_take,if_pos hj,List.getElem?_drop]
         unfold World.cell?
         simp only[hb,Option.isSome_none,Bool.false_eq_true,if_false,Array.getElem?_toList]
        ·rw[List.getElem?_eq_none (by omega),List.getElem?_eq_none (by rw[List.length_take];omega)]
       rwa [<-this]
      obtain⟨σ1,M1,nx1,xss,g1,r1,v1,l1,t1⟩:=each_ty (S:=S) (fun t cs h σ M nx hg ht=>trod_ty hS hb0 m t cs h σ M nx hg ht)
       ((List.range len).map fun i=>(e,(us.toList.drop (off+i*P.cellsOf e)).take (P.cellsOf e))) (fun q hq=>by
        obtain⟨i,hi,rfl⟩:=List.mem_map.1 hq
        exact⟨he,each i (List.mem_range.1 hi)⟩) σ M nx hg
      rw[List.map_map]at v1
      have v1:VRs ρ σ1 xss.flatten ((us.toList.drop off).take (len*P.cellsOf e)):=by
       rw[<-rows_flat len (by rw[Array.length_toList];omega)]
       exact v1
      have hfl:xss.flatten.length=len*P.cellsOf e:=by
       rw[<-v1.length,List.length_take,List.length_drop,Array.length_toList]
       omega
      have hcs:(List.replicate off XV.un++xss.flatten).length=off+len*P.cellsOf e:=by simp[hfl]
      obtain⟨g2,r2⟩:=g1.add (cs:=List.replicate off .un++xss.flatten) hb (by omega) (by
       rw[hcs,List.take_add]
       refine VRs.append ?_ v1
       have:=undefs (ρ:=ρ) (σ:=σ1) (us.toList.take off)
       rwa [List.length_take,Array.length_toList,Nat.min_eq_left (by omega)]at this)
      refine⟨_,_,_,[.sl nx1 (P.cellsOf e) off len len],g2,r1.trans r2,?_,?_,h1⟩
      ·simp only[VRs,VR]
       exact⟨_,_,rfl,⟨b,us.size,cap,_,Sig.upd_same _ _ _,rfl,hl,Nat.le_refl _,.inl rfl,hroom⟩,rfl⟩
      ·simp only[TyAt,hu]
       refine⟨_,len,xss.flatten,xss,rfl,⟨by omega,.inr ⟨nx1,off,len,_,rfl,by omega,?_,Nat.le_of_eq hcs.symm,?_⟩⟩,rfl,by simpa using l1,fun ys hy=>?_⟩
       ·unfold hrd
        rw[tget_tset,if_pos rfl]
       ·rw[List.drop_left' (by simp),List.take_of_length_le (by omega)]
       ·obtain⟨i,hi,hys⟩:=List.mem_iff_getElem.1 hy
        have hi':i<len:=by simpa [l1] using hi
        obtain⟨q1,q2⟩:=t1 i (e,(us.toList.drop (off+i*P.cellsOf e)).take (P.cellsOf e)) ys (by simp[hi']) (by rw[<-hys];exact List.getElem?_eq_getElem hi)
        exact⟨q2,q1.grow r2.agr r2.le⟩
   ·rename_i fs hu
    simp only[Bool.and_eq_true]at hk
    obtain⟨hc,hf⟩:=hk
    obtain⟨xs,m,hm,_,hcl,hxl,hget⟩:=DataW.trod_struct hu h
    obtain rfl:m=n:=by omega
    obtain⟨σ1,M1,nx1,xss,g1,r1,v1,l1,t1⟩:=each_ty (S:=S) (fun t cs h σ M nx hg ht=>trod_ty hS hb0 m t cs h σ M nx hg ht)
     (fs.toList.map fun f=>(f.type,(cs.drop f.offset).take (P.cellsOf f.type))) (fun q hq=>by
       obtain⟨f,hf1,rfl⟩:=List.mem_map.1 hq
       refine⟨mem_any (List.all_eq_true.1 hf f hf1),?_⟩
       obtain⟨i,hi,hfi⟩:=List.mem_iff_getElem.1 hf1
       have hi':i<fs.size:=by simpa using hi
       have:=hget i f (by rw[<-Array.getElem?_toList,List.getElem?_eq_getElem hi,hfi])
       rw[List.getElem?_eq_getElem (by omega)]at this
       exact⟨_,this⟩) σ M nx hg
    rw[List.map_map]at v1
    have v1:VRs ρ σ1 xss.flatten cs:=by
     have:=contig_flat (P:=P) (cs:=cs) (fs:=fs.toList) (o:=0) (by rw[hcl];exact hc)
     rw[List.drop_zero]at this
     rw[<-this]
     exact v1
    refine⟨σ1,M1,nx1,xss.flatten,g1,r1,v1,?_,by rw[<-v1.length,hcl]⟩
    simp only[TyAt,hu]
    refine fs_at (by simpa using l1) fun i f ys h1 h2=>?_
    exact t1 i (f.type,(cs.drop f.offset).take (P.cellsOf f.type)) ys (by rw[List.getElem?_map,h1];rfl) h2
   ·cases hk
theorem Good.start (ρ:Rho) (w:World) (h:∀b,ρ.fix b=none):Good ρ w noS .nil 0 :=
 ⟨ok_nil fun b x hb=>(by rw[h]at hb;cases hb),fun _ _=>rfl,fun k o h=>(by simp[tget_nil]at h)⟩
theorem fok_calls {f:Nat} {args:List XV} {vs:List Value} {R:Out->Prop} (hg:Good ρ w σ M nx) (h:FOk P ρ f args M nx R) (hR:∀r,R r->r.1 = .bool true) (hv:VRs ρ σ args vs)
 {fn:Func} (h1:P.funcs[f]?=some fn) (h2:(fn.name == "runtime.NumGoroutine")=false) (h3:fn.body.isNone=false) :
 Calls P f vs.toArray w fun e w'=>e = .returned (.bool true)/\Below w.heap.size w w':=by
 refine Calls.mono (calls_of (R:=R) (fun o a K Q hK=>h.1 w σ vs hg.ok hg.free hv o a K Q hK) h1 h2 h3) fun e w' he=>?_
 obtain⟨v,r,rfl,hr,σ',g1,_,g3,_⟩:=he
 rw[hR r hr]at g1
 simp only[VR]at g1
 exact⟨by rw[g1],g3.os,g3.tape,g3.output,g3.size,fun k hk=>g3.blk k hk (hg.no k)⟩
end
end
end Go.Xs
