/- A part of the proof: the layers and contracts it rests on. -/
import Derived.Test.YtcibleglaghhfaaGreatDoorXsPB
import Derived.Test.YtcibleglaghhfaaGreatDoorXsPC
import Derived.Test.YtcibleglaghhfaaGreatDoorXsPD
import Derived.Test.YtcibleglaghhfaaGreatDoorXsPE
import Derived.Test.YtcibleglaghhfaaGreatDoorXsPF
import Derived.Test.YtcibleglaghhfaaGreatDoorXsPG
set_option maxRecDepth 100000
set_option maxHeartbeats 8000000
set_option linter.all false
set_option linter.deprecated false
namespace Go.Xs
open List Nat Option
variable{k:Nat}
noncomputable section
theorem il {l:List aR} {r:aR} (h:eA l r=0) (h1:r.kind≠1):bH l r.t=some false:=by
 obtain⟨b,hb⟩:=pd h h1;have:=lY h 5 Z;simp only[kM,hb,getD_some,Bool.not_eq_true']at this;rw[hb,this]
theorem gd (l:List aR) (r:aR):iS (l++[r])=iS l++if r.kind=6 then [r.t] else []:=by
 unfold iS;rw[tO];split<;>rfl
theorem ly (l:List aR) (r:aR) (t x:Int):dq (l++[r]) t x=dq l t x+(if fI r t x then 1 else 0):=by
 unfold dq;rw[filter_append,length_append];congr 1;cases hh:fI r t x<;>simp[hh]
theorem lB {α:Type} {l:List α} {i:Nat} {a r:α} (h:l[i]?=some a):(l++[r])[i]?=some a:=by
 rw[getElem?_append_left (List.getElem?_eq_some_iff.1 h).1,h]
structure gO (S:HS) (l:List aR):Prop where
 com:S.com=iS l
 one:∀(j:Nat) a,S.txs[j]?=some a->a.s=1->∃(i e:Nat) (r:aR),a.n=(i:Int)/\(iS l)[i]?=some a.t/\a.e=(e:Int)/\l[e]?=some r/\r.kind=6/\r.t=a.t
 all:∀t,t ∈ iS l->bH l t=some true/\∃(j:Nat) (a:ku),S.txs[j]?=some a/\a.t=t/\a.s=1
 cnt:∀t (k:Nat) x,S.num t=some (k:Int)->(S.places k x).length=dq l t x
 none:∀t x,bH l t=Option.none->dq l t x=0
 last:∀(k:Nat) x (j:Nat) m,(S.places k x).getLast?=some (j:Int)->S.mods[j]?=some m->m.n=((S.places k x).length:Int)
theorem gO.start:gO vF []:=by
 refine⟨rfl,fun j a h=>?_,fun t h=>?_,fun t k x h=>?_,fun t x _=>rfl,fun k x j m h=>?_⟩
 ·simp[vF]at h
 ·simp[iS,gV]at h
 ·simp[vF]at h
 ·simp[vF]at h
section
variable {S:HS} {l:List aR} {r:aR}
theorem ye (h:¬ (r.kind=3\/r.kind=4)) (t x:Int):fI r t x=false:=by simp[fI,h]
theorem gO.looks {S':HS} (h:gO S l) (h6:r.kind≠6) (Vq:¬ (r.kind=3\/r.kind=4)) (he:∀t,bH (l++[r]) t=bH l t) (e1:S'.num=S.num) (e2:S'.txs=S.txs) (e3:S'.com=S.com) (e4:S'.mods=S.mods) (e5:S'.places=S.places):gO S' (l++[r]):=by
 have hc:iS (l++[r])=iS l:=by rw[gd,if_neg h6,append_nil]
 have hn:∀t x,dq (l++[r]) t x=dq l t x:=fun t x=>by rw[ly,ye Vq];rfl
 refine⟨by rw[e3,hc];exact h.com,fun j a ha hs=>?_,fun t ht=>?_,fun t k x hk=>?_,fun t x ht=>?_,fun k x j m hj hm=>?_⟩
 ·rw[e2]at ha
  obtain⟨i,e,q,h1,h2,h3,h4,h5⟩:=h.one j a ha hs;exact⟨i,e,q,h1,by rw[hc];exact h2,h3,lB h4,h5⟩
 ·rw[hc]at ht
  rw[he,e2];exact h.all t ht
 ·rw[e1]at hk
  rw[e5,hn];exact h.cnt t k x hk
 ·rw[he]at ht
  rw[hn];exact h.none t x ht
 ·rw[e5]at hj ⊢
  rw[e4]at hm;exact h.last k x j m hj hm
theorem gO.begin (h:gO S l) (o:qV S l) (h1:r.kind=1) (hf:bH l r.t=Option.none) (i:Int):gO (S.begin i r) (l++[r]):=by
 have hc:iS (l++[r])=iS l:=by rw[gd,if_neg Z,append_nil]
 have hn:∀t x,dq (l++[r]) t x=dq l t x:=fun t x=>by rw[ly,ye Z];rfl
 have he:∀t,t≠r.t->bH (l++[r]) t=bH l t:=fun t ht=>by rw[bL];unfold de;rw[if_neg (fun e=>ht e.symm)]
 refine⟨by rw[hc];exact h.com,fun j a ha hs=>?_,fun t ht=>?_,fun t k x hk=>?_,fun t x ht=>?_,fun k x j m hj hm=>?_⟩
 ·simp only[HS.begin]at ha
  rw[getElem?_append]at ha;split at ha
  ·obtain⟨i,e,q,h1,h2,h3,h4,h5⟩:=h.one j a ha hs
   exact⟨i,e,q,h1,by rw[hc];exact h2,h3,lB h4,h5⟩
  ·have:=mem_of_getElem? ha
   simp only[mem_singleton]at this;subst this;simp at hs
 ·rw[hc]at ht
  obtain⟨q1,j,a,q2,q3⟩:=h.all t ht;have VT:t≠r.t:=fun e=>by rw[e,hf]at q1;cases q1
  rw[he t VT];exact⟨q1,j,a,lB q2,q3⟩
 ·simp only[HS.begin]at hk ⊢
  rw[hn];split at hk
  ·rename_i e
   simp only[Option.some.injEq]at hk;rw[if_pos Z,e,h.none r.t x hf];rfl
  ·obtain⟨j,a,e1,e2,_⟩:=o.num t k hk
   have:=(List.getElem?_eq_some_iff.1 e2).1;rw[if_neg Z];exact h.cnt t k x hk
 ·rw[hn]
  refine h.none t x ?_;by_cases e:t=r.t
  ·rw[e];exact hf
  ·rw[he t e]at ht;exact ht
 ·simp only[HS.begin]at hj hm ⊢
  split at hj
  ·simp at hj
  ·rename_i e
   rw[if_neg e];exact h.last k x j m hj hm
theorem gO.modify (h:gO S l) (o:qV S l) (Vq:r.kind=3\/r.kind=4) (hk:S.num r.t=some (k:Int)) (i:Int) (hg:bH l r.t≠Option.none):gO (S.modify i r k) (l++[r]):=by
 have hc:iS (l++[r])=iS l:=by rw[gd,if_neg Z,append_nil]
 have he:∀t,bH (l++[r]) t=bH l t:=fun t=>by rw[bL,eJ Z Z Z]
 have hm:∀t x,fI r t x=(decide (r.t=t)&&decide (r.x=x)):=fun t x=>by simp[fI,Vq]
 refine⟨by rw[hc];exact h.com,fun j a ha hs=>?_,fun t ht=>?_,fun t k' x ia=>?_,fun t x ht=>?_,fun k' x j m hj ir=>?_⟩
 ·obtain⟨i,e,q,h1,h2,h3,h4,h5⟩:=h.one j a ha hs
  exact⟨i,e,q,h1,by rw[hc];exact h2,h3,lB h4,h5⟩
 ·rw[hc]at ht
  rw[he];exact h.all t ht
 ·have ia:S.num t=some (k':Int):=ia
  rw[ly,hm];simp only[HS.modify];have inj:k'=k ↔ r.t=t:=by
   constructor
   ·intro e
    subst e;obtain⟨j,a,e1,e2,e3⟩:=o.num _ _ hk;obtain⟨j',a',JS,NF,TT⟩:=o.num _ _ ia;have:j=j':=Z;subst this;rw[e2]at NF;cases NF;rw[<-e3,<-TT]
   ·intro e
    subst e;rw[hk]at ia;simp only[Option.some.injEq]at ia;omega
  by_cases q1:k'=k
  ·have e1:=inj.1 q1
   subst q1;by_cases q2:x=r.x
   ·subst q2
    rw[if_pos ⟨rfl,rfl⟩,length_append,h.cnt t k' r.x ia];simp[e1]
   ·rw[if_neg (by rintro⟨_,q⟩;exact q2 q),h.cnt t k' x ia]
    have:¬ r.x=x:=fun e=>q2 e.symm
    simp[this]
  ·rw[if_neg (by rintro⟨q,_⟩;exact q1 q),h.cnt t k' x ia]
   have:¬ r.t=t:=fun e=>q1 (inj.2 e)
   simp[this]
 ·rw[he]at ht
  rw[ly,hm,h.none t x ht];have:¬ r.t=t:=fun e=>hg (by rw[e];exact ht)
  simp[this]
 ·simp only[HS.modify]at hj ir ⊢
  split at hj
  ·rename_i e
   rw[if_pos e];rw[getLast?_concat]at hj;simp only[Option.some.injEq]at hj;have:j=S.mods.length:=Z;subst this;rw[getElem?_concat_length]at ir;cases ir;simp
  ·rename_i e
   rw[if_neg e];refine h.last k' x j m hj ?_;have hz:=mem_of_getLast? hj;obtain⟨j',m',e1,e2,_⟩:=o.places k' x _ hz;have:j=j':=Z;subst this;rw[lB e2]at ir;cases ir;exact e2
theorem gO.endTx (h:gO S l) (o:qV S l) (Vr:r.kind=6\/r.kind=7) {a a':ku} (hk:S.num r.t=some (k:Int)) (ha:S.txs[k]?=some a) (qL:a.t=r.t) (ht:a'.t=r.t) (hg:bH l r.t=some false) {com':List Int}
 (hc:com'=S.com++if r.kind=6 then [r.t] else []) (hs:a'.s=1->r.kind=6) (h6:r.kind=6->a'.s=1/\a'.e=(l.length:Int)/\a'.n=(S.com.length:Int)):gO (S.endTx k a' com') (l++[r]):=by
 have hn:∀t x,dq (l++[r]) t x=dq l t x:=fun t x=>by rw[ly,ye Z];rfl
 have kA:=(List.getElem?_eq_some_iff.1 ha).1;have JJ:∀j,(S.txs.set k a')[j]?=if j=k then some a' else S.txs[j]?:=fun j=>by
  rw[getElem?_set];by_cases e:k=j
  ·rw[if_pos e,if_pos e.symm,if_pos Z]
  ·rw[if_neg e,if_neg (fun q=>e q.symm)]
 have sy:r.t ∉ iS l:=fun q=>by have:=(h.all _ q).1;rw[hg]at this;cases this
 refine⟨by simp only[HS.endTx];rw[hc,gd,h.com],fun j b hb lJ=>?_,fun t oe=>?_,fun t k' x ia=>?_,fun t x oe=>?_,fun k' x j m hj hm=>?_⟩
 ·simp only[HS.endTx]at hb
  rw[JJ]at hb;split at hb
  ·cases hb
   obtain⟨q1,q2,q3⟩:=h6 (hs lJ);refine⟨(iS l).length,l.length,r,by rw[q3,h.com],?_,q2,ae,hs lJ,ht.symm⟩;rw[gd,if_pos (hs lJ),ht];simp
  ·obtain⟨i,e,q,h1,h2,h3,h4,h5⟩:=h.one j b hb lJ
   refine⟨i,e,q,h1,?_,h3,lB h4,h5⟩;rw[gd];exact(getElem?_append_left (List.getElem?_eq_some_iff.1 h2).1).trans h2
 ·rw[gd]at oe
  have HV:t=r.t/\r.kind=6\/t ∈ iS l:=by
   rcases mem_append.1 oe with q | q
   ·exact .inr q
   ·split at q
    ·rename_i e;exact .inl ⟨by simpa using q,e⟩
    ·cases q
  rcases HV with ⟨rfl,e6⟩ | q
  ·refine⟨by rw[bL];unfold de;rw[if_pos rfl,if_neg Z,if_pos Vr],k,a',?_,ht,(h6 e6).1⟩
   simp only[HS.endTx];rw[JJ,if_pos rfl]
  ·have VT:t≠r.t:=fun e=>sy (e ▸ q)
   obtain⟨q1,j,b,q2,q3,q4⟩:=h.all t q;refine⟨by rw[bL];unfold de;rw[if_neg (fun e=>VT e.symm)];exact q1,j,b,?_,q3,q4⟩;simp only[HS.endTx];rw[JJ,if_neg]
   ·exact q2
   ·intro e
    subst e;rw[ha]at q2;cases q2;exact VT (by rw[<-q3,qL])
 ·rw[hn]
  exact h.cnt t k' x ia
 ·rw[hn]
  refine h.none t x ?_;rw[bL]at oe;unfold de at oe;split at oe
  ·rw[if_neg Z]at oe
   first | cases oe | (rw[if_pos Vr]at oe;cases oe)
  ·exact oe
 ·exact h.last k' x j m hj hm
theorem gO.take (h:gO S l) (o:qV S l) (hr:eA l r=0):gO (S.take l.length r) (l++[r]):=by
 obtain⟨k1,k2⟩:=ru hr;by_cases e1:r.kind=1
 ·have:S.take l.length r=S.begin l.length r:=by simp only[HS.take,if_pos e1]
  rw[this];exact h.begin o e1 (jH hr e1) _
 have hb:=il hr e1;have cf:=o.begun _ _ hb;obtain⟨kk,sT⟩:=ne_none_iff_exists'.1 cf;obtain⟨k,a,rfl,ha,qL⟩:=o.num _ _ sT;have hk:((S.num r.t).getD 0).toNat=k:=by rw[sT];rfl
 by_cases e2:r.kind=2
 ·have:S.take l.length r=S.look ⟨l.length,0,r.t,r.x,r.w,r.n,false,false⟩:=by simp[HS.take,e2]
  rw[this];exact h.looks Z Z (fun t=>by rw[bL,eJ Z Z Z]) rfl rfl rfl rfl rfl
 by_cases DW:r.kind=3\/r.kind=4
 ·have:S.take l.length r=S.modify l.length r k:=by simp only[HS.take,if_neg e1,if_neg e2,if_pos DW,hk]
  rw[this];exact h.modify o DW sT _ (by rw[hb];simp)
 by_cases e5:r.kind=5
 ·have:S.take l.length r=S.preds l.length r r.es.length:=by simp[HS.take,e5]
  rw[this];obtain⟨q1,q2,q3,q4,q5,q6⟩:=oR S l.length r r.es.length;exact h.looks Z Z (fun t=>by rw[bL,eJ Z Z Z]) q1 q2 q3 q4 q5
 by_cases e6:r.kind=6
 ·have:S.take l.length r=S.endTx k ⟨r.t,a.b,l.length,1,(S.com.length:Int)⟩ (S.com++[r.t]):=by simp only[HS.take,if_neg e1,if_neg e2,if_neg DW,if_neg e5,if_pos e6,hk,ha]
  rw[this];exact h.endTx o (.inl e6) sT ha qL rfl hb (by rw[if_pos e6]) (fun _=>e6) fun _=>⟨rfl,rfl,rfl⟩
 ·have:S.take l.length r=S.endTx k ⟨r.t,a.b,l.length,2,a.n⟩ S.com:=by simp only[HS.take,if_neg e1,if_neg e2,if_neg DW,if_neg e5,if_neg e6,hk,ha]
  rw[this];exact h.endTx o (.inr Z) sT ha qL rfl hb (by rw[if_neg e6,append_nil]) (fun q=>by cases q) fun q=>absurd q e6
theorem rq {L:List aR} (hw:∀j r,L[j]?=some r->eA (L.take j) r=0) (he:∀r ∈ L,r.es.length<=1000):∀i,i<=L.length->gO (dL L i) (L.take i)
 | 0,_=>by rw[take_zero];exact gO.start
 | i+1,hi=>by
   have ih:=rq hw he i Z;obtain⟨r,hr⟩:∃r,L[i]?=some r:=⟨L[i],ae⟩;have kB:L.take (i+1)=L.take i++[r]:=by rw[take_add_one,hr];rfl
   have hl:(L.take i).length=i:=by rw[length_take];omega
   have:=ih.take (oc hw he i Z) (hw i r hr);rw[hl]at this;rw[kB];unfold dL;rw[hr];exact this
end
end
end Go.Xs
namespace Go.Xs
open List Nat Option
variable{F:Int->Option (List bO)}{L:List aR}{i:Nat}{r:aR}{α:Type}
noncomputable section
def Wf (L:List aR):Prop:=∀j r,L[j]?=some r->eA (L.take j) r=0
theorem xy {t:Int} {o:Option Bool} (h:o≠none):de t o r≠none:=by
 unfold de;split
 ·split
  ·simp
  ·split
   ·simp
   ·exact h
 ·exact h
theorem lF {L:List α} {r:α} (h:L[i]?=some r):L.take (i+1)=L.take i++[r]:=by rw[take_add_one,h];rfl
theorem zq {L:List aR} {t:Int} {p:Nat} (h:bH (L.take p) t≠none):∀k,bH (L.take (p+k)) t≠none
 | 0=>h
 | k+1=>by
   have ih:=zq h k;cases hr:L[p+k]? with
   | none =>
     have:=List.getElem?_eq_none_iff.1 hr;rw[take_of_length_le Z]
     rwa [take_of_length_le Z]at ih
   | some r =>
     rw[<-Nat.add_assoc,lF hr,bL];exact xy ih
theorem Jh (hw:Wf L) {t:Int} {p:Nat} (h:bH (L.take p) t=some true):∀k,bH (L.take (p+k)) t=some true/\∀r,L[p+k]?=some r->r.t≠t
 | k=>by
   have key:∀k,bH (L.take (p+k)) t=some true:=by
    intro k
    induction k with
    | zero=>exact h
    | succ k ih =>
      cases hr:L[p+k]? with
      | none =>
        have:=List.getElem?_eq_none_iff.1 hr;rw[take_of_length_le Z]
        rwa [take_of_length_le Z]at ih
      | some r =>
        rw[<-Nat.add_assoc,lF hr,bL,ih];have cf:r.t≠t:=fun e=>by
         subst e;by_cases h1:r.kind=1
         ·have:=jH (hw _ r hr) h1
          rw[ih]at this;cases this
         ·have:=il (hw _ r hr) h1
          rw[ih]at this;cases this
        unfold de;rw[if_neg cf]
   refine⟨key k,fun r hr e=>?_⟩;subst e;have ih:=key k;by_cases h1:r.kind=1
   ·have:=jH (hw _ r hr) h1
    rw[ih]at this;cases this
   ·have:=il (hw _ r hr) h1
    rw[ih]at this;cases this
theorem Le (hw:Wf L) {t:Int} {a e:Nat} (hr:L[e]?=some r) (h6:r.kind=6) (ht:r.t=t) (ha:a<=e):∀k,e<a+k->pC L t a k=((e:Int),1):=by
 have qy:bH (L.take (e+1)) t=some true:=by
  rw[lF hr,bL];unfold de;rw[if_pos ht,if_neg Z,if_pos (.inl h6)]
 intro k
 induction k with
 | zero=>intro h;omega
 | succ k ih =>
   intro h;by_cases q:e<a+k
   ·simp only[pC]
    rw[ih q];cases hq:L[a+k]? with
    | none=>rfl
    | some r' =>
      have:=(Jh hw qy (a+k - (e+1))).2 r' (by rw[<-hq];congr 1;omega);simp only[qq];rw[if_neg (by rintro⟨h,_⟩;exact this h),if_neg (by rintro⟨h,_⟩;exact this h)]
   ·have:a+k=e:=Z
    simp only[pC];rw[this,hr];simp only[qq];rw[if_pos ⟨ht,h6⟩]
theorem wS {t:Int}:∀{l:List ku},(∃a ∈ l,a.t=t)->(nj t l).1 ∈ l/\(nj t l).1.t=t
 | [],h=>by obtain⟨a,h,_⟩:=h;cases h
 | a::l,h=>by
   unfold nj;by_cases e:a.t=t
   ·rw[if_pos e]
    exact⟨mem_cons_self,e⟩
   ·rw[if_neg e]
    obtain⟨b,hb,ht⟩:=h;rcases mem_cons.1 hb with rfl | hb
    ·exact(e ht).elim
    ·obtain⟨h1,h2⟩:=wS ⟨b,hb,ht⟩
     exact⟨mem_cons_of_mem _ h1,h2⟩
theorem Av {L:List aR} (hw:Wf L) {t:Int}:∀p,p<=L.length->bH (L.take p) t≠none->∃(a:Nat) (r:aR),a<p/\L[a]?=some r/\r.kind=1/\r.t=t
 | 0,_,h=>by simp[bH]at h
 | p+1,hp,h=>by
   obtain⟨r,hr⟩:∃r,L[p]?=some r:=⟨L[p],ae⟩;by_cases q:bH (L.take p) t=none
   ·rw[lF hr,bL,q]at h
    unfold de at h;by_cases ht:r.t=t
    ·by_cases h1:r.kind=1
     ·exact⟨p,r,Z,hr,h1,ht⟩
     ·have:=il (hw p r hr) h1
      rw[ht,q]at this;cases this
    ·rw[if_neg ht]at h
     exact(h rfl).elim
   ·obtain⟨a,r',h1,h2⟩:=Av hw p Z q
    exact⟨a,r',Z,h2⟩
theorem Pl (hw:Wf L) {t:Int} {e:Nat} (hr:L[e]?=some r) (h6:r.kind=6) (ht:r.t=t):(pR L t).1.e=(e:Int):=by
 have fF:=(List.getElem?_eq_some_iff.1 hr).1;have hg:bH (L.take e) t=some false:=by rw[<-ht];exact il (hw e r hr) Z
 obtain⟨a0,r0,h1,h2,h3,h4⟩:=Av hw e Z (by rw[hg];simp);have F9:∀(a:Nat) (q:aR),L[a]?=some q->HY L a=⟨q.t,a,(pC L q.t a (L.length - a)).1,(pC L q.t a (L.length - a)).2,if (pC L q.t a (L.length - a)).2=1 then ((JQ (L.take (pC L q.t a (L.length - a)).1.toNat):Nat):Int) else -1⟩:=fun a q hq=>by
  unfold HY;rw[hq]
 obtain⟨g1,g2⟩:=wS (t:=t) (l:=Jg L) ⟨HY L a0,(iy _).2 ⟨a0,r0,h2,by rw[if_pos h3,Nat.zero_add]⟩,by rw[F9 a0 r0 h2];exact h4⟩;obtain⟨k,q,k1,k2⟩:=(iy _).1 g1;split at k2
 ·rename_i Bi
  rw[Nat.zero_add,F9 k q k1]at k2;simp only[Option.some.injEq]at k2;unfold pR;rw[<-k2]at g2 ⊢;simp only at g2 ⊢;have F0:k<=e:=by
   refine Nat.le_of_not_lt fun aL=>?_
   have:=jH (hw k q k1) Bi;rw[g2]at this;have h5:=zq (L:=L) (t:=t) (p:=e) (by rw[hg];simp) (k - e);rw[show e+(k - e)=k by omega]at h5;exact h5 this
  rw[g2,Le hw hr h6 ht F0 _ Z]
 ·cases k2
theorem wC {L:List aR} (hw:Wf L) (he:∀r ∈ L,r.es.length<=1000):∀i,i<=L.length->(iS (L.take i)).Nodup
 | 0,_=>by simp[iS,gV]
 | i+1,hi=>by
   obtain⟨r,hr⟩:∃r,L[i]?=some r:=⟨L[i],ae⟩;have ih:=wC hw he i Z;rw[lF hr,gd];by_cases h6:r.kind=6
   ·rw[if_pos h6,nodup_append]
    refine⟨ih,ae,fun a ha b hb=>?_⟩;simp only[mem_singleton]at hb;subst hb;rintro rfl;have h1:=((rq hw he i Z).all _ ha).1;have:=il (hw i r hr) Z;rw[h1]at this;cases this
   ·rw[if_neg h6,append_nil]
    exact ih
theorem E4 {l:List α} (h:l.Nodup) {j:Nat} {a:α} (hi:l[i]?=some a) (hj:l[j]?=some a):i=j:=by
 have h1:=(List.getElem?_eq_some_iff.1 hi);have h2:=(List.getElem?_eq_some_iff.1 hj);obtain⟨h1,e1⟩:=h1;obtain⟨h2,e2⟩:=h2;exact(getElem_inj h).1 (e1.trans e2.symm)
open Classical in
theorem Ko (hw:Wf L) (he:∀r ∈ L,r.es.length<=1000) (x:Int) (e:bO):e ∈ dk (jN L) (jN L).mods x ↔ e ∈ gX L x:=by
 have o:=oc hw he L.length (Nat.le_refl _);have h:=rq hw he L.length (Nat.le_refl _);have xo:=wC hw he L.length (Nat.le_refl _);rw[take_length]at o h xo;obtain⟨S,hS⟩:∃S,S=dL L L.length:=⟨_,rfl⟩;have hH:jN L=S.done L.length S.txs.length fun j=>∃k,k<S.txs.length/\dl S k j:=by rw[hS];rfl
 rw[<-hS]at o h;obtain⟨P,hP⟩:∃P:Nat->Prop,P=fun j=>∃k,k<S.txs.length/\dl S k j:=⟨_,rfl⟩
 rw[hH,<-hP];obtain⟨F,hF⟩:∃F,F=S.done L.length S.txs.length P:=⟨_,rfl⟩;rw[<-hF];have hFm:F.mods=fJ P S.mods:=by rw[hF];rfl
 have hFt:F.txs=xx L.length S.txs.length S.txs:=by rw[hF];rfl
 have hFn:F.num=S.num:=by rw[hF];rfl
 have tx:∀t (k:Nat) a,S.num t=some (k:Int)->S.txs[k]?=some a->(txR F t).1.s=a.s/\(txR F t).1.n=a.n/\(a.s=1->(txR F t).1.e=a.e):=fun t k a hk ha=>by
  unfold txR Ho;rw[hFn,hk];simp only[Int.toNat_natCast];rw[hFt,fw,ha];simp only[map_some];split
  ·rename_i q;exact⟨rfl,rfl,fun q'=>Z⟩
  ·exact⟨rfl,rfl,fun _=>rfl⟩
 have row:∀t (k:Nat) a m (j:Nat),S.num t=some (k:Int)->S.txs[k]?=some a->a.t=t->a.s=1->(S.places k x).getLast?=some (j:Int)->S.mods[j]?=some m->m.w=t/\m.n=(dq L t x:Int)/\0<dq L t x/\∃i:Nat,(iS L)[i]?=some t/\a.n=(i:Int)/\a.e=(pR L t).1.e:=fun t k a m j hk ha qL hs hj hm=>by
  obtain⟨j',m',q1,q2,q3,q4⟩:=o.places k x _ (mem_of_getLast? hj);have:j=j':=Z;subst this;rw[hm]at q2;cases q2;obtain⟨k',q5,q6,q7,_⟩:=o.mods j m hm;obtain⟨i,e',r,r1,r2,r3,r4,r5,r6⟩:=h.one k a ha hs;have VJ:m.t=t:=by
   obtain⟨j1,a1,s1,s2,s3⟩:=o.num _ _ q4;have:k=j1:=Z;subst this;rw[ha]at s2;cases s2;rw[<-s3,qL]
  have D4:=h.last k x j m hj hm;have hc:=h.cnt t k x hk;have iu:0<(S.places k x).length:=length_pos_of_mem (mem_of_getLast? hj);rw[qL]at r2 r6;exact⟨by rw[q7,VJ],by rw[D4,hc],Z,i,r2,r1,by rw[r3,Pl hw r4 r5 r6]⟩
 constructor
 ·intro hm
  obtain⟨j,m,h1,h2,h3,rfl⟩:=DC hm;rw[hFm,ie]at h1;cases h0:S.mods[j]? with
  | none=>rw[h0]at h1;cases h1
  | some m0 =>
    rw[h0]at h1;simp only[map_some,Option.some.injEq]at h1;subst h1;simp only at h2;unfold mL at h3;simp only[Bool.and_eq_true,decide_eq_true_eq,Bool.or_eq_true]at h3;obtain⟨hf,hs⟩:=h3;obtain⟨k,q1,q2,q3,q4,q5,q6,q7⟩:=o.mods j m0 h0;rw[q7]at hf;have Vs:P j:=hf.resolve_left ae;rw[hP]at Vs;obtain⟨k',_,x',hl⟩:=Vs;obtain⟨j',m',r1,r2,r3,r4⟩:=o.places k' x' _ (mem_of_getLast? hl);have:j=j':=Z;subst this;rw[h0]at r2;cases r2;have hk:k'=k:=by rw[q1]at r4;simp only[Option.some.injEq]at r4;omega
    subst hk;rw[<-r3,h2]at hl;obtain⟨j1,a,s1,s2,s3⟩:=o.num _ _ q1;have:k'=j1:=Z;subst this;obtain⟨t1,t2,t3⟩:=tx m0.t k' a q1 s2;obtain⟨u1,u2,u3,i,u4,u5,u6⟩:=row m0.t k' a m0 j q1 s2 s3 (by rw[<-t1];exact hs) hl h0;refine(iy _).2 ⟨i,m0.t,u4,?_⟩;unfold o7;rw[if_pos u3,Nat.zero_add];unfold gf;simp only[Option.some.injEq,bO.mk.injEq];exact⟨u1.symm,u2.symm,by rw[t2,u5],by rw[t3 (by rw[<-t1];exact hs),u6]⟩
 ·intro hm
  obtain⟨i,t,h1,h2⟩:=(iy _).1 hm;unfold o7 at h2;split at h2
  ·rename_i iu
   simp only[Option.some.injEq,Nat.zero_add]at h2;obtain⟨_,k,a,q1,q2,q3⟩:=h.all t (mem_of_getElem? h1);have hk:S.num t=some (k:Int):=by rw[<-q2];exact o.txs k a q1
   have hc:=h.cnt t k x hk;cases hl:(S.places k x).getLast? with
   | none=>rw[getLast?_eq_none_iff]at hl;rw[hl]at hc;simp at hc;omega
   | some z =>
     obtain⟨j,m,r1,r2,r3,r4⟩:=o.places k x z (mem_of_getLast? hl);subst r1;obtain⟨u1,u2,u3,i',u4,u5,u6⟩:=row t k a m j hk q1 q2 q3 hl r2;have Uq:=E4 xo h1 u4;obtain⟨t1,t2,t3⟩:=tx t k a hk q1;have Vs:P j:=by
      rw[hP];exact⟨k,(List.getElem?_eq_some_iff.1 q1).1,x,hl⟩
     have VJ:m.t=t:=by
      obtain⟨k',v1,v2,v3,_⟩:=o.mods j m r2;rw[<-v3,u1]
     refine mem_map.2 ⟨{ m with fin:=m.fin||decide (P j) },?_,?_⟩
     ·rw[mem_filter]
      refine⟨?_,?_⟩
      ·refine mem_of_getElem? (i:=j) ?_
       rw[hFm,ie,r2];rfl
      ·simp only[mL,VJ,r3,t1,q3,Vs,decide_true,Bool.or_true,Bool.and_true]
     ·rw[<-h2]
      unfold gf;simp only[VJ,bO.mk.injEq];exact⟨u1,u2,by rw[t2,u5,Uq],by rw[t3 q3,u6]⟩
  ·cases h2
theorem zB {α:Type} {f:Nat->α->Option bO} (hf:∀i a b,f i a=some b->b.wr=(i:Int)):∀(l:List α) (i:Nat),(gV f l i).Pairwise (fun a b=>a.wr<b.wr)/\∀b ∈ gV f l i,(i:Int)<=b.wr
 | [],i=>⟨Pairwise.nil,fun b hb=>by cases hb⟩
 | a::l,i=>by
   obtain⟨h1,h2⟩:=zB hf l (i+1);simp only[gV];cases h:f i a with
   | none=>exact⟨h1,fun b hb=>by have:=h2 b hb;omega⟩
   | some c =>
     have hc:=hf i a c h;refine⟨pairwise_cons.2 ⟨fun b hb=>by have:=h2 b hb;omega,h1⟩,fun b hb=>?_⟩;rcases mem_cons.1 hb with rfl | hb
     ·omega
     ·have:=h2 b hb;omega
theorem Ak:∀{l m:List bO},l.Pairwise (fun a b=>a.wr<b.wr)->m.Pairwise (fun a b=>a.wr<b.wr)->(∀e,e ∈ l ↔ e ∈ m)->l=m
 | [],[],_,_,_=>rfl
 | [],b::m,_,_,h=>by have:=(h b).2 mem_cons_self;cases this
 | a::l,[],_,_,h=>by have:=(h a).1 mem_cons_self;cases this
 | a::l,b::m,h1,h2,h=>by
   obtain⟨p1,p2⟩:=pairwise_cons.1 h1;obtain⟨q1,q2⟩:=pairwise_cons.1 h2;have qJ:a=b:=by
    rcases mem_cons.1 ((h a).1 mem_cons_self) with e | ha
    ·exact e
    ·rcases mem_cons.1 ((h b).2 mem_cons_self) with e | hb
     ·exact e.symm
     ·have:=p1 b hb;have:=q1 a ha;omega
   subst qJ;congr 1;refine Ak p2 q2 fun e=>⟨fun he=>?_,fun he=>?_⟩
   ·rcases mem_cons.1 ((h e).1 (mem_cons_of_mem _ he)) with rfl | h'
    ·have:=p1 e he;omega
    ·exact h'
   ·rcases mem_cons.1 ((h e).2 (mem_cons_of_mem _ he)) with rfl | h'
    ·have:=q1 e he;omega
    ·exact h'
theorem v_ (L:List aR) (x:Int):(gX L x).Pairwise (fun a b=>a.wr<b.wr)/\∀b ∈ gX L x,0<=b.wr:=by
 obtain⟨h1,h2⟩:=zB (f:=o7 L x) (fun i a b h=>by
  unfold o7 at h;split at h
  ·cases h;rfl
  ·cases h) (iS L) 0
 exact⟨h1,fun b hb=>by have:=h2 b hb;omega⟩
theorem zW (hl:L.length<=60) (hw:Wf L) (he:∀r ∈ L,r.es.length<=1000) (h1:∀x,F x=none ↔ dk (jN L) (jN L).mods x=[]) (h2:∀x l,F x=some l->l.Perm (dk (jN L) (jN L).mods x)/\l.Pairwise (fun a b=>a.wr<=b.wr)) (x:Int):(F x).getD []=gX L x:=by
 have hm:=Ko hw he x;cases hF:F x with
 | none =>
   rw[(h1 x).1 hF]at hm;refine(eq_nil_iff_forall_not_mem.2 fun e hr=>?_).symm;have:=(hm e).2 hr;cases this
 | some l =>
   obtain⟨p1,p2⟩:=h2 x l hF;have hr:=P6 (zT hl he hw) p1 p2;refine Ak ?_ (v_ L x).1 fun e=>(p1.mem_iff).trans (hm e)
   rw[pairwise_iff_getElem];intro i j hi hj eS;exact(hr.lt (getElem?_eq_getElem hi) (getElem?_eq_getElem hj) eS).1
theorem IB (hl:L.length<=60) (hw:Wf L) (he:∀r ∈ L,r.es.length<=1000) (h1:∀x,F x=none ↔ dk (jN L) (jN L).mods x=[]) (h2:∀x l,F x=some l->l.Perm (dk (jN L) (jN L).mods x)/\l.Pairwise (fun a b=>a.wr<=b.wr)) (x:Int):(F x).isSome=true ↔ 0<(gX L x).length:=by
 have hs:=zW hl hw he h1 h2 x;cases hF:F x with
 | none=>rw[hF]at hs;simp only[getD_none]at hs;rw[<-hs];simp
 | some l =>
   rw[hF]at hs;simp only[getD_some]at hs;have cf:l≠[]:=fun e=>by
    have p1:=(h2 x l hF).1;rw[e]at p1;have:=(h1 x).2 p1.nil_eq.symm;rw[hF]at this;cases this
   rw[<-hs];simp only[isSome_some,true_iff];exact length_pos_iff.2 cf
end
end Go.Xs
namespace Go.Xs
open List Nat Option
variable{L:List aR}{M:Hp}{b i k nx:Nat}{best:Int}{v:XV}{α:Type}
open Go.Proofs
def Rs (L:List aR) (i:Nat) (r:aR):fS:=⟨i,r.t,r.x,r.t,((1+dq (L.take i) r.t r.x:Nat):Int),r.v,decide (r.kind=4),decide (dq (L.drop (i+1)) r.t r.x=0)⟩
def wO (L:List aR):List fS:=gV (fun i r=>if r.kind=3\/r.kind=4 then some (Rs L i r) else none) L 0
theorem Ct (a:fS):(cO a).length=8:=rfl
theorem drop_take {q:aR} (hk:L[k]?=some q) (h:i+1<=k) (t x:Int):dq ((L.take (k+1)).drop (i+1)) t x=dq ((L.take k).drop (i+1)) t x+(if fI q t x then 1 else 0):=by
 rw[List.drop_take,List.drop_take,show k+1 - (i+1)=(k - (i+1))+1 by omega];exact qS (by rw[getElem?_drop,<-hk];congr 1;omega) t x
theorem tw (h:k<=i+1) (t x:Int):dq ((L.take k).drop (i+1)) t x=0:=by
 rw[drop_eq_nil_of_le (by rw[length_take];omega)];rfl
theorem XC {q:aR} (hk:L[k]?=some q) (t x:Int):dq (L.take (min (k+1) i)) t x=dq (L.take (min k i)) t x+(if fI q t x=true/\k<i then 1 else 0):=by
 by_cases h:k<i
 ·rw[Nat.min_eq_left Z,Nat.min_eq_left Z,qS hk]
  simp[h]
 ·rw[Nat.min_eq_right Z,Nat.min_eq_right Z]
  simp[h]
theorem WB {q:aR} (hk:L[k]?=some q) (t x:Int):decide (dq ((L.take (k+1)).drop (i+1)) t x=0)=(decide (dq ((L.take k).drop (i+1)) t x=0) && !(fI q t x&&decide (i<k))):=by
 by_cases h:i<k
 ·rw[drop_take hk Z]
  cases fI q t x<;>simp[h]
 ·rw[tw Z,tw Z]
  simp[h]
theorem f72 (ρ:aK) (hL:cP M b v L) (hb:b<=nx) (hl:L.length<=100000):ar am ρ 72 [v] M nx (og nx M 8 cO (wO L)):=by
 obtain⟨row,a9,gS⟩:=hL;have ay:=fun N=>a9.len (P:=am) (t:=35) jW.2.2.2.2.2 N
 refine ar.wk 110 [.tmp 2] Tryz.func72 ?_;refine bR uY ?_;obtain⟨f,hf⟩:∃f:Nat->aR->Option fS,f=fun i r=>if r.kind=3\/r.kind=4 then some (Rs L i r) else none:=⟨_,rfl⟩
 have yI:wO L=gV f L 0:=by rw[hf];rfl
 refine aC (fun m' s=>∃(i:Nat) (vv:XV),i<=L.length/\m'=L.length - i/\gG s.env 0=some v/\gG s.env 3=some vv/\gG s.env 4=some (.int .i64 i)/\di s.M nx s.nx vv 8 cO (gV f (L.take i) 0)/\aq nx M s.M/\nx<=s.nx) L.length ⟨0,.nils,Z,Z,?_⟩ ?_
 ·refine bR uY ?_
  exact⟨dG.nil _ _,aq.refl _ _,Z⟩
 ·rintro m' ⟨env,M',nx'⟩ ⟨i,vv,hi,ir,e0,e3,e4,hv,ha,hn⟩
  simp only at e0 e3 e4 hv ha hn;by_cases aL:(i:Int)<L.length
  ·have aP:i<L.length:=Z
   obtain⟨r,hr⟩:∃r,L[i]?=some r:=⟨L[i],by simp[aP]⟩;have bV:=eF i;have kS:=iM f hr;have Gl:=dS f (L.take i) 0;have FZ:(L.take i).length<=100000:=by rw[length_take];omega
   obtain⟨n,o,jw,bC,aU⟩:=a9.elem (P:=am) aP (t:=35) (t':=116) jW.2.2.2.1 nO.1;have aU:=aU M' (ha.le hb);obtain⟨pk,pa,pb,pv,ve,dI,⟨p1,p2⟩,⟨q1,q2⟩,_⟩:=(gS i r hr).cells;rw[dI]at aU;generalize hB:Code.block 1 _=B;refine iQ uY e0 e3 e4 ay aL bC aU ?_;subst hB;rw[l9];by_cases hm:r.kind=3\/r.kind=4
   ·refine Po (fun s=>∃(E5 E6:Nat),gG s.env 0=some v/\gG s.env 3=some vv/\gG s.env 4=some (.int .i64 i)/\gG s.env 5=some (.mp E5 0)/\gG s.env 6=some (.mp E6 0)/\nx'<=E5/\E5<E6/\E6<s.nx /\
     gG s.M E5=some (.row [.int .i64 r.kind,.int .u64 r.t,.int .u64 r.x,.int .u64 r.w,.int .u64 r.n,.int .u64 r.v,.int .i64 pk,.int .u64 pa,.int .u64 pb,pv,ve]) /\
     gG s.M E6=some (.row [.int .i64 i,.int .u64 r.t,.int .u64 r.x,.int .u64 r.t,.int .u64 1,.int .u64 r.v,.bool (decide (r.kind=4)),.bool true])/\aq nx' M' s.M/\nx'<=s.nx) ?_ ?_
    ·rcases hm with h3 | h4
     ·refine ii uY e0 e3 e4 bC aU p1 p2 q1 q2 h3 @bU ?_
      exact⟨_,_,rfl,rfl,Z,Z,Z,(by repeat (first | rw[if_pos (show aw _ _ from rfl)] | rw[if_neg (by simp only[aw];omega)])),(by repeat (first | rw[if_pos (show aw _ _ from rfl)] | rw[if_neg (by simp only[aw];omega)])),O,Z⟩
     ·refine ii uY e0 e3 e4 bC aU p1 p2 q1 q2 h4 @bU ?_
      exact⟨_,_,rfl,rfl,Z,Z,Z,(by repeat (first | rw[if_pos (show aw _ _ from rfl)] | rw[if_neg (by simp only[aw];omega)])),(by repeat (first | rw[if_pos (show aw _ _ from rfl)] | rw[if_neg (by simp only[aw];omega)])),O,Z⟩
    ·rintro⟨env,M2,n2⟩ ⟨E5,E6,e0,e3,e4,e5,e6,sP,CC,Qt,z5,z6,jX,fq⟩
     simp only at e0 e3 e4 e5 e6 Qt z5 z6 jX fq;have My:gV f (L.take (i+1)) 0=gV f (L.take i) 0++[Rs L i r]:=by rw[kS,hf];simp only[if_pos hm,toList_some]
     clear aU bC kS p1 p2 q1 q2 dI;refine iC uY e0 e3 e4 e5 e6 ?_;refine aC (fun m' s=>∃(k:Nat),k<=L.length/\m'=L.length - k/\gG s.env 0=some v/\gG s.env 3=some vv/\gG s.env 4=some (.int .i64 i)/\gG s.env 5=some (.mp E5 0)/\gG s.env 6=some (.mp E6 0)/\gG s.env 7=some (.int .i64 k)/\E6<s.nx /\
      gG s.M E5=some (.row [.int .i64 r.kind,.int .u64 r.t,.int .u64 r.x,.int .u64 r.w,.int .u64 r.n,.int .u64 r.v,.int .i64 pk,.int .u64 pa,.int .u64 pb,pv,ve]) /\
      gG s.M E6=some (.row [.int .i64 i,.int .u64 r.t,.int .u64 r.x,.int .u64 r.t,.int .u64 ((1+dq (L.take (min k i)) r.t r.x:Nat):Int),.int .u64 r.v,.bool (decide (r.kind=4)),.bool (decide (dq ((L.take k).drop (i+1)) r.t r.x=0))])/\aq nx' M' s.M/\nx'<=s.nx) L.length ⟨0,Z,Z,?_⟩ ?_
     ·refine iQ uY e0 e3 e4 e5 e6 z5 z6 ?_
      exact⟨Z,by rw[Nat.zero_min];simp[dq],jX,Z⟩
     ·rintro m2 ⟨env,M3,n3⟩ ⟨k,hk,JE,e0,e3,e4,e5,e6,e7,Qt,z5,z6,oN,ZS⟩
      simp only at e0 e3 e4 e5 e6 e7 Qt z5 z6 oN ZS;by_cases kA:(k:Int)<L.length
      ·have AY:k<L.length:=Z
       obtain⟨q,hq⟩:∃q,L[k]?=some q:=⟨L[k],by simp[AY]⟩;have y8:=eF k;obtain⟨n,o,jw,bC,mi⟩:=a9.fldG (P:=am) AY (t:=35) jW.2.2.2.1;obtain⟨_,_,_,_,_,dI,_⟩:=(gS _ q hq).cells;have NJ:=mi 0 (.int .i64 q.kind) Z (by rw[dI];rfl) 3 1 dA.1 M3 ((ha.trans (oN.le Z)).le hb);have Qq:=mi 1 (.int .u64 q.t) Z (by rw[dI];rfl) 23 1 bi.1 M3 ((ha.trans (oN.le Z)).le hb);have Qr:=mi 2 (.int .u64 q.x) Z (by rw[dI];rfl) 23 1 bi.1 M3 ((ha.trans (oN.le Z)).le hb);rw[Nat.add_zero]at NJ;obtain⟨nn,F7⟩:∃nn,nn=1+dq (L.take (min k i)) r.t r.x:=⟨_,rfl⟩;obtain⟨ff,hff⟩:∃ff,ff=decide (dq ((L.take k).drop (i+1)) r.t r.x=0):=⟨_,rfl⟩;have hnb1:nn<=100001:=by
        have:=Dc (L.take (min k i)) r.t r.x;rw[length_take]at this;omega
       rw[<-F7,<-hff]at z6;clear mi dI a9;generalize hB:Code.block 3 _=B;refine CU uY e0 e3 e4 e5 e6 e7 ay kA ?_;subst hB;rw[l9];refine yo (fun s=>gG s.env 0=some v/\gG s.env 3=some vv/\gG s.env 4=some (.int .i64 i)/\gG s.env 5=some (.mp E5 0)/\gG s.env 6=some (.mp E6 0)/\gG s.env 7=some (.int .i64 k)/\gG s.env 8=some (.bool (fI q r.t r.x))/\s.M=M3/\n3<=s.nx) ?_ ?_
       ·by_cases k3:q.kind=3
        ·by_cases kt:q.t=r.t
         ·by_cases kx:q.x=r.x
          ·refine ii uY e0 e3 e4 e5 e6 e7 bC NJ Qq Qr (aI z5 (aI k3 (aI kt (aI kx @bU)))) ?_
           exact⟨by simp[fI,k3,kt,kx],Z⟩
          ·refine ii uY e0 e3 e4 e5 e6 e7 bC NJ Qq Qr (aI z5 (aI k3 (aI kt (aI kx @bU)))) ?_
           exact⟨by simp[fI,k3,kt,kx],Z⟩
         ·refine ii uY e0 e3 e4 e5 e6 e7 bC NJ Qq Qr (aI z5 (aI k3 (aI kt @bU))) ?_
          exact⟨by simp[fI,k3,kt],Z⟩
        ·by_cases k4:q.kind=4
         ·by_cases kt:q.t=r.t
          ·by_cases kx:q.x=r.x
           ·refine ii uY e0 e3 e4 e5 e6 e7 bC NJ Qq Qr (aI z5 (aI k4 (aI kt (aI kx @bU)))) ?_
            exact⟨by simp[fI,k4,kt,kx],Z⟩
           ·refine ii uY e0 e3 e4 e5 e6 e7 bC NJ Qq Qr (aI z5 (aI k4 (aI kt (aI kx @bU)))) ?_
            exact⟨by simp[fI,k4,kt,kx],Z⟩
          ·refine ii uY e0 e3 e4 e5 e6 e7 bC NJ Qq Qr (aI z5 (aI k4 (aI kt @bU))) ?_
           exact⟨by simp[fI,k4,kt],Z⟩
         ·refine ii uY e0 e3 e4 e5 e6 e7 bC NJ Qq Qr (aI z5 (aI k3 (aI k4 @bU))) ?_
          exact⟨by simp[fI,k3,k4],Z⟩
       ·rintro⟨env,M4,n4⟩ ⟨e0,e3,e4,e5,e6,e7,e8,rfl,QX⟩
        simp only at e0 e3 e4 e5 e6 e7 e8 QX;have hN:=XC (i:=i) hq r.t r.x;have hF:=WB (i:=i) hq r.t r.x;obtain⟨nn',Bb⟩:∃nn',nn'=1+dq (L.take (min (k+1) i)) r.t r.x:=⟨_,rfl⟩;obtain⟨ff',yL⟩:∃ff',ff'=decide (dq ((L.take (k+1)).drop (i+1)) r.t r.x=0):=⟨_,rfl⟩;rw[<-yL,<-hff]at hF;obtain⟨a,hma⟩:∃a,a=fI q r.t r.x:=⟨_,rfl⟩;rw[<-hma]at e8 hN hF;have yZ:nn'=nn+(if a=true/\k<i then 1 else 0):=Z;cases a with
        | false =>
          have fq:nn=nn':=by simp at yZ;omega
          cases ff with
          | true =>
            have sS:ff'=true:=by simpa using hF
            refine dw uY e0 e3 e4 e5 e6 e7 e8 z5 z6 y8 ?_;exact⟨L.length - (k+1),Z,k+1,Z,rfl,rfl,Z,by rw[<-Bb,<-yL,sS,fq],fun q hq=>(by have:=oN q hq;exact J),Z⟩
          | false =>
            have sS:ff'=false:=by simpa using hF
            refine dw uY e0 e3 e4 e5 e6 e7 e8 z5 z6 y8 ?_;exact⟨L.length - (k+1),Z,k+1,Z,rfl,rfl,Z,by rw[<-Bb,<-yL,sS,fq],fun q hq=>(by have:=oN q hq;exact J),Z⟩
        | true =>
          by_cases mo:(k:Int)<i
          ·have fq:IntKind.u64.wrap ((nn:Int)+1)=(nn':Int):=by
            rw[wrap_u64 Z Z];rw[if_pos ⟨rfl,Z⟩]at yZ;omega
           have vg:¬ (i:Int)<k:=Z;have JA:decide (i<k)=false:=decide_eq_false Z;rw[JA]at hF;cases ff with
           | true =>
             have sS:ff'=true:=by simpa using hF
             refine ii uY e0 e3 e4 e5 e6 e7 e8 z5 z6 y8 (aI mo (aI vg fq)) ?_;exact⟨L.length - (k+1),Z,k+1,Z,rfl,rfl,Z,by rw[<-Bb,<-yL,sS],fun q hq=>(by have:=oN q hq;exact J),Z⟩
           | false =>
             have sS:ff'=false:=by simpa using hF
             refine ii uY e0 e3 e4 e5 e6 e7 e8 z5 z6 y8 (aI mo (aI vg fq)) ?_;exact⟨L.length - (k+1),Z,k+1,Z,rfl,rfl,Z,by rw[<-Bb,<-yL,sS],fun q hq=>(by have:=oN q hq;exact J),Z⟩
          ·have fq:nn=nn':=by
            rw[if_neg (fun h=>mo Z)]at yZ;omega
           by_cases vg:(i:Int)<k
           ·have JA:decide (i<k)=true:=decide_eq_true Z
            rw[JA]at hF;have sS:ff'=false:=by simpa using hF
            cases ff with
            | true =>
              refine ii uY e0 e3 e4 e5 e6 e7 e8 z5 z6 y8 (aI mo vg) ?_;exact⟨L.length - (k+1),Z,k+1,Z,rfl,rfl,Z,by rw[<-Bb,<-yL,sS,fq],fun q hq=>(by have:=oN q hq;exact J),Z⟩
            | false =>
              refine ii uY e0 e3 e4 e5 e6 e7 e8 z5 z6 y8 (aI mo vg) ?_;exact⟨L.length - (k+1),Z,k+1,Z,rfl,rfl,Z,by rw[<-Bb,<-yL,sS,fq],fun q hq=>(by have:=oN q hq;exact J),Z⟩
           ·have JA:decide (i<k)=false:=decide_eq_false Z
            rw[JA]at hF;cases ff with
            | true =>
              have sS:ff'=true:=by simpa using hF
              refine ii uY e0 e3 e4 e5 e6 e7 e8 z5 z6 y8 (aI mo vg) ?_;exact⟨L.length - (k+1),Z,k+1,Z,rfl,rfl,Z,by rw[<-Bb,<-yL,sS,fq],fun q hq=>(by have:=oN q hq;exact J),Z⟩
            | false =>
              have sS:ff'=false:=by simpa using hF
              refine ii uY e0 e3 e4 e5 e6 e7 e8 z5 z6 y8 (aI mo vg) ?_;exact⟨L.length - (k+1),Z,k+1,Z,rfl,rfl,Z,by rw[<-Bb,<-yL,sS,fq],fun q hq=>(by have:=oN q hq;exact J),Z⟩
      ·have F0:k=L.length:=Z
       subst F0;have JF:Rs L i r=⟨i,r.t,r.x,r.t,((1+dq (L.take (min L.length i)) r.t r.x:Nat):Int),r.v,decide (r.kind=4),decide (dq ((L.take L.length).drop (i+1)) r.t r.x=0)⟩:=by
        rw[Nat.min_eq_right Z,take_length];rfl
       obtain⟨md,ZO⟩:∃md,md=Rs L i r:=⟨_,rfl⟩;rw[<-ZO]at JF My;have hz:gG M3 E6=some (.row (cO md)):=by rw[z6,JF];rfl
       have hv3:di M3 nx n3 vv 8 cO (gV f (L.take i) 0):=hv.up (fun q _ hq=>oN q Z) Z;have dX:=hv3.push md am 177 56 [.int .i64 0,.int .u64 0,.int .u64 0,.int .u64 0,.int .u64 0,.int .u64 0,.bool false,.bool false] Z Z rfl (by simp only[fE];omega) rfl;simp only[cO]at dX hz;clear z6 JF;refine ii uY e0 e3 e4 e5 e6 e7 ay kA hz dX bV ?_;refine⟨L.length - (i+1),Z,i+1,_,Z,rfl,rfl,rfl,?_,fun q hq=>?_,Z⟩
       ·rw[My]
        exact hv3.pushed md Z Z rfl Z
       ·rw[dG.push_old hv3 _ (.inl hq) Z]
        have:=(oN q Z).trans (ha q hq);exact J
   ·have h3:¬ r.kind=3:=fun h=>hm (.inl h)
    have h4:¬ r.kind=4:=fun h=>hm (.inr h)
    have h_:f i r=none:=by rw[hf];simp[h3,h4]
    rw[h_]at kS;refine ii uY e0 e3 e4 bC aU p1 p2 q1 q2 h3 (aI h4 bV) ?_;refine⟨L.length - (i+1),Z,i+1,_,Z,rfl,rfl,rfl,?_,(by(repeat (refine aq.set ?_ Z _));exact ha),Z⟩;rw[kS,toList_none,append_nil];exact hv.up (fun q _ hq=>J) Z
  ·have gB:i=L.length:=Z
   refine gw uY e0 e3 e4 ay aL @og.eq_1 ?_;rw[gB,take_length,<-yI]at hv;exact⟨hv.up (fun _ _ _=>rfl) Z,ha,Z⟩
def Bg {α β:Type} (f:Nat->α->List β):List α->Nat->List β
 | [],_=>[]
 | a::l,i=>f i a++Bg f l (i+1)
theorem zK {α β:Type} (f:Nat->α->List β) (a:α):∀(l:List α) (i:Nat),Bg f (l++[a]) i=Bg f l i++f (i+l.length) a
 | [],i=>by simp[Bg]
 | x::l,i=>by
   simp only[cons_append,Bg,zK f a l (i+1),length_cons,append_assoc];rw[show i+1+l.length=i+(l.length+1) by omega]
theorem Ht {β:Type} (f:Nat->α->List β) {l:List α} {a:α} (h:l[i]?=some a):Bg f (l.take (i+1)) 0=Bg f (l.take i) 0++f i a:=by
 have hi:=(List.getElem?_eq_some_iff.1 h).1;rw[take_add_one,h];simp only[toList_some];rw[zK,Nat.zero_add,length_take,Nat.min_eq_left Z]
theorem DM {α β:Type} (f:Nat->α->List β) (m:Nat):∀(l:List α) (i:Nat),(∀j a,a ∈ l->(f j a).length<=m)->(Bg f l i).length<=l.length*m
 | [],_,_=>by simp[Bg]
 | a::l,i,h=>by
   have h1:=h i a mem_cons_self;have h2:=DM f m l (i+1) fun j b hb=>h j b (mem_cons_of_mem _ hb)
   simp only[Bg,length_append,length_cons,succ_mul];omega
def Gd (i:Nat) (r:aR) (k:Nat) (e:En):my:=⟨i,k,r.t,e.x,e.w,e.n,true,e.m⟩
def P9 (i:Nat) (r:aR):List my:=if r.kind=2 then [⟨i,0,r.t,r.x,r.w,r.n,false,false⟩] else []
def GP (i:Nat) (r:aR):List my:=P9 i r++gV (fun k e=>some (Gd i r k e)) r.es 0
def ro (L:List aR):List my:=Bg GP L 0
theorem DD (i:Nat) (r:aR):(P9 i r).length<=1:=by unfold P9;split<;>simp
theorem K6 (i:Nat) (r:aR):(GP i r).length<=1+r.es.length:=by
 have:=DD i r;have:=dS (fun k e=>some (Gd i r k e)) r.es 0;unfold GP;rw[length_append];omega
theorem zD (a:my):(cX a).length=8:=rfl
theorem xa (hl:L.length<=1000) (he:∀r ∈ L,r.es.length<=1000) (i:Nat):(Bg GP (L.take i) 0).length<=1001000:=by
 have:=DM GP 1001 (L.take i) 0 fun j a ha=>by
  have:=K6 j a;have:=he a (mem_of_mem_take ha);omega
 have h2:(L.take i).length<=1000:=by rw[length_take];omega
 have h3:(L.take i).length*1001<=1000*1001:=mul_le_mul_right _ h2;omega
theorem f73 (ρ:aK) (hL:cP M b v L) (hb:b<=nx) (hl:L.length<=1000) (he:∀r ∈ L,r.es.length<=1000):ar am ρ 73 [v] M nx (og nx M 8 cX (ro L)):=by
 obtain⟨row,a9,gS⟩:=hL;have ay:=fun N=>a9.len (P:=am) (t:=35) jW.2.2.2.2.2 N
 refine ar.wk 59 [.tmp 2] Tryz.func73 ?_;refine bR IU ?_;have yI:ro L=Bg GP L 0:=rfl;refine aC (fun m' s=>∃(i:Nat) (vv:XV),i<=L.length/\m'=L.length - i/\gG s.env 0=some v/\gG s.env 3=some vv/\gG s.env 4=some (.int .i64 i)/\di s.M nx s.nx vv 8 cX (Bg GP (L.take i) 0)/\aq nx M s.M/\nx<=s.nx) L.length ⟨0,.nils,Z,Z,?_⟩ ?_
 ·refine bR IU ?_
  exact⟨dG.nil _ _,aq.refl _ _,Z⟩
 ·rintro m' ⟨env,M',nx'⟩ ⟨i,vv,hi,ir,e0,e3,e4,hv,ha,hn⟩
  simp only at e0 e3 e4 hv ha hn;by_cases aL:(i:Int)<L.length
  ·have aP:i<L.length:=Z
   obtain⟨r,hr⟩:∃r,L[i]?=some r:=⟨L[i],by simp[aP]⟩;have her:=he r (mem_of_getElem? hr);have bV:=eF i;have kS:=Ht GP hr;have Gl:=xa hl he i;obtain⟨n,o,jw,bC,aU⟩:=a9.elem (P:=am) aP (t:=35) (t':=116) jW.2.2.2.1 nO.1;have aU:=aU M' (ha.le hb);obtain⟨pk,pa,pb,pv,ve,dI,⟨p1,p2⟩,⟨q1,q2⟩,dZ,_⟩:=(gS i r hr).cells;rw[dI]at aU;obtain⟨prev,UH⟩:∃prev,prev=Bg GP (L.take i) 0:=⟨_,rfl⟩;rw[<-UH]at hv kS Gl;generalize hB:Code.block 1 _=B;refine iC IU e0 e3 e4 ay aL ?_;subst hB;rw[l9];refine yz (fun s=>∃(E5:Nat) (vv:XV),gG s.env 0=some v/\gG s.env 3=some vv/\gG s.env 4=some (.int .i64 i)/\gG s.env 5=some (.mp E5 0)/\nx'<=E5/\E5<s.nx /\
    gG s.M E5=some (.row [.int .i64 r.kind,.int .u64 r.t,.int .u64 r.x,.int .u64 r.w,.int .u64 r.n,.int .u64 r.v,.int .i64 pk,.int .u64 pa,.int .u64 pb,pv,ve]) /\
    gY s.M (fun q=>nx<=q/\q<s.nx/\q≠E5) vv 8 cX (prev++P9 i r)/\aq nx M s.M/\nx'<=s.nx) ?_ ?_
   ·by_cases h2:r.kind=2
    ·have sW:∀y z,gY (ci (ci M' (nx'+8) y) (nx'+8) z) (fun q=>nx<=q/\q<nx') vv 8 cX prev:=fun y z=>dG.keep hv fun q hq=>⟨(by have:=hq.2;exact J),hq⟩
     have dX:=fun y z=>(sW y z).push (hi:=nx') (fun q hq=>hq.2) ⟨i,0,r.t,r.x,r.w,r.n,false,false⟩ am 179 56 [.int .i64 0,.int .i64 0,.int .u64 0,.int .u64 0,.int .u64 0,.int .u64 0,.bool false,.bool false] Z Z rfl (by simp only[fE];omega) rfl
     simp only[cX]at dX;refine ii IU e0 e3 e4 bC aU p1 p2 q1 q2 h2 (aI dX @bU) ?_;refine⟨_,rfl,Z,Z,?_,?_,fun q hq=>?_,Z⟩
     ·rw[dG.push_oldP hv _ (by intro h;omega) Z]
      exact J
     ·rw[show P9 i r=[_] from if_pos h2]
      exact(sW (.cst []) (.cst [])).pushed ⟨i,0,r.t,r.x,r.w,r.n,false,false⟩ (show nx<=_/\_/\_ from ⟨Z,Z,Z⟩) rfl Z
     ·rw[dG.push_oldP hv _ (by intro h;omega) Z]
      have:=ha q hq;exact J
    ·refine ii IU e0 e3 e4 bC aU p1 p2 q1 q2 h2 @bU ?_
     refine⟨_,rfl,Z,Z,(by repeat (first | rw[if_pos (show aw _ _ from rfl)] | rw[if_neg (by simp only[aw];omega)])),?_,(by(repeat (refine aq.set ?_ Z _));exact ha),Z⟩;rw[show P9 i r=[] from if_neg h2,append_nil];exact dG.keep hv fun q hq=>(by
      obtain⟨r1,r2⟩:nx<=q/\q<nx':=hq;exact⟨J,Z,Z,Z⟩)
   ·rintro⟨env,M2,n2⟩ ⟨E5,vv,e0,e3,e4,e5,sP,CC,z5,hv,jX,fq⟩
    simp only at e0 e3 e4 e5 CC z5 hv jX fq;obtain⟨base,AT⟩:∃base,base=prev++P9 i r:=⟨_,rfl⟩;have xj:base.length<=1001001:=by
     have:=DD i r;rw[AT,length_append];omega
    rw[<-AT]at hv;have My:Bg GP (L.take (i+1)) 0=base++gV (fun k e=>some (Gd i r k e)) r.es 0:=by rw[kS,AT,GP,append_assoc]
    have Mx:bE M2 b ve 4 r.es.length (r.es.flatMap b9):=dZ.agr (jX.le hb);have fF:=fun N=>Mx.len (P:=am) (t:=114) oH.2.2.2.2.2 N
    clear aU bC kS p1 p2 dI;refine mY IU e0 e3 e4 e5 ?_;refine aC (fun m' s=>∃(k:Nat) (vv:XV),k<=r.es.length/\m'=r.es.length - k/\gG s.env 0=some v/\gG s.env 3=some vv/\gG s.env 4=some (.int .i64 i)/\gG s.env 5=some (.mp E5 0)/\gG s.env 6=some (.int .i64 k)/\E5<s.nx /\
     gG s.M E5=some (.row [.int .i64 r.kind,.int .u64 r.t,.int .u64 r.x,.int .u64 r.w,.int .u64 r.n,.int .u64 r.v,.int .i64 pk,.int .u64 pa,.int .u64 pb,pv,ve]) /\
     gY s.M (fun q=>nx<=q/\q<s.nx/\q≠E5) vv 8 cX (base++gV (fun k e=>some (Gd i r k e)) (r.es.take k) 0)/\aq nx M s.M/\nx'<=s.nx) r.es.length ⟨0,vv,Z,Z,?_⟩ ?_
    ·refine iC IU e0 e3 e4 e5 z5 ?_
     refine⟨Z,?_,jX,Z⟩;rw[show gV (fun k e=>some (Gd i r k e)) [] 0=[] from rfl,append_nil];exact dG.keep hv fun q hq=>⟨rfl,hq.1,by have:=hq.2.1;omega,hq.2.2⟩
    ·rintro m2 ⟨env,M3,n3⟩ ⟨k,vv,hk,JE,e0,e3,e4,e5,e6,Qt,z5,hv,oN,ZS⟩
     simp only at e0 e3 e4 e5 e6 Qt z5 hv oN ZS;obtain⟨acc,Jp⟩:∃acc,acc=base++gV (fun k e=>some (Gd i r k e)) (r.es.take k) 0:=⟨_,rfl⟩;have jc:acc.length<=1100000:=by
      have h1:=dS (fun k e=>some (Gd i r k e)) (r.es.take k) 0;have h2:(r.es.take k).length<=1000:=by rw[length_take];omega
      rw[Jp,length_append];omega
     rw[<-Jp]at hv;by_cases kA:(k:Int)<r.es.length
     ·have AY:k<r.es.length:=Z
      obtain⟨e,hek⟩:∃e,r.es[k]?=some e:=⟨r.es[k],by simp[AY]⟩;have y8:=eF k;have T9:acc++[Gd i r k e]=base++gV (fun k e=>some (Gd i r k e)) (r.es.take (k+1)) 0:=by rw[iM _ hek,Jp,append_assoc];rfl
      obtain⟨n,o,jw,bC,aU⟩:=bE.elem (P:=am) dZ AY (t:=114) (t':=176) oH.2.2.2.1 GH.1;have aU:=aU M3 (oN.le hb);rw[iz _ _ _ hek]at aU;simp only[b9]at aU;have sW:∀y z,gY (ci (ci M3 (n3+10) y) (n3+10) z) (fun q=>nx<=q/\q<n3/\q≠E5) vv 8 cX acc:=fun y z=>dG.keep hv fun q hq=>⟨(by have:=hq.2.1;exact J),hq⟩
      have dX:=fun y z=>(sW y z).push (hi:=n3) (fun q hq=>hq.2.1) (Gd i r k e) am 179 56 [.int .i64 0,.int .i64 0,.int .u64 0,.int .u64 0,.int .u64 0,.int .u64 0,.bool false,.bool false] Z Z rfl (by simp only[fE];omega) rfl
      simp only[cX,Gd]at dX;refine ii IU e0 e3 e4 e5 e6 fF kA bC aU z5 (aI q1 (aI q2 (aI dX y8))) ?_;refine⟨r.es.length - (k+1),Z,k+1,_,Z,rfl,rfl,rfl,Z,?_,?_,fun q hq=>?_,Z⟩
      ·rw[dG.push_oldP hv _ (by intro h;exact h.2.2 rfl) Z]
       exact J
      ·rw[<-T9]
       exact(sW (.cst []) (.cst [])).pushed (Gd i r k e) (show nx<=_/\_/\_ from ⟨Z,Z,Z⟩) rfl Z
      ·rw[dG.push_oldP hv _ (by intro h;omega) Z]
       have:=oN q hq;exact J
     ·have F0:k=r.es.length:=Z
      refine ii IU e0 e3 e4 e5 e6 fF kA z5 q1 q2 bV ?_;rw[F0,take_length]at Jp;refine⟨L.length - (i+1),Z,i+1,_,Z,rfl,rfl,rfl,?_,oN,Z⟩;rw[My,<-Jp];exact dG.keep hv fun q hq=>⟨rfl,hq.1,by have:=hq.2.1;omega⟩
  ·have gB:i=L.length:=Z
   refine gw IU e0 e3 e4 ay aL @og.eq_1 ?_;rw[gB,take_length,<-yI]at hv;exact⟨hv.up (fun _ _ _=>rfl) Z,ha,Z⟩
def nF (L:List aR):List Int:=(wO L).map (·.x)++(ro L).map (·.x)
def vN (o:List Int) (z:Int):Prop:=∀y ∈ o,y<z
structure pX (o l:List Int) (best:Int) (ok:Bool):Prop where
 no:ok=false->∀z ∈ l,¬ vN o z
 yes:ok=true->best ∈ l/\vN o best/\∀z ∈ l,vN o z->best<=z
theorem pX.start (o:List Int) (b:Int):pX o [] b false:=⟨fun _ z h=>(by cases h),fun h=>(by cases h)⟩
theorem pX.skip {o l:List Int} {z:Int} {ok:Bool} (h:pX o l best ok) (hz:¬ vN o z):pX o (l++[z]) best ok:=by
 refine⟨fun q y hy=>?_,fun q=>⟨mem_append_left _ (h.yes q).1,(h.yes q).2.1,fun y hy hc=>?_⟩⟩
 ·rcases mem_append.1 hy with hy | hy
  ·exact h.no q y hy
  ·simp only[mem_singleton]at hy;subst hy;exact hz
 ·rcases mem_append.1 hy with hy | hy
  ·exact(h.yes q).2.2 y hy hc
  ·simp only[mem_singleton]at hy;subst hy;exact(hz hc).elim
theorem pX.first {o l:List Int} {z:Int} (h:pX o l best false) (hz:vN o z):pX o (l++[z]) z true:=by
 refine⟨fun q=>(by cases q),fun _=>⟨ae,hz,fun y hy hc=>?_⟩⟩;rcases mem_append.1 hy with hy | hy
 ·exact(h.no rfl y hy hc).elim
 ·simp only[mem_singleton]at hy;omega
theorem pX.less {o l:List Int} {z:Int} (h:pX o l best true) (hz:vN o z) (hl:z<best):pX o (l++[z]) z true:=by
 refine⟨fun q=>(by cases q),fun _=>⟨ae,hz,fun y hy hc=>?_⟩⟩;rcases mem_append.1 hy with hy | hy
 ·have:=(h.yes rfl).2.2 y hy hc;omega
 ·simp only[mem_singleton]at hy;omega
theorem pX.keep {o l:List Int} {z:Int} (h:pX o l best true) (hl:¬ z<best):pX o (l++[z]) best true:=by
 refine⟨fun q=>(by cases q),fun _=>⟨mem_append_left _ (h.yes rfl).1,(h.yes rfl).2.1,fun y hy hc=>?_⟩⟩;rcases mem_append.1 hy with hy | hy
 ·exact(h.yes rfl).2.2 y hy hc
 ·simp only[mem_singleton]at hy;omega
theorem pX.up {o l:List Int} {z:Int} {ok:Bool} (hz:l[i]?=some z) (h:pX o (l.take i++[z]) best ok):pX o (l.take (i+1)) best ok:=by
 rw[take_add_one,hz];exact h
def nM (o l:List Int):Nat:=(l.filter fun z=>decide (z ∉ o)).length
theorem sr {o l:List Int} {b:Int} (hb:pX o l b true):nM (o++[b]) l<nM o l:=by
 obtain⟨h1,h2,_⟩:=hb.yes rfl;have sy:b ∉ o:=fun h=>by have:=h2 b h;omega
 unfold nM;have e:(l.filter fun z=>decide (z ∉ o++[b]))=(l.filter fun z=>decide (z ∉ o)).filter fun z=>decide (z≠b):=by
  rw[List.filter_filter];congr 1;funext z;simp only[mem_append,mem_singleton,not_or,ne_eq,Bool.decide_and];rw[Bool.and_comm]
 rw[e];refine length_filter_lt_length_iff_exists.2 ⟨b,?_,ae⟩;rw[mem_filter];exact⟨h1,by simpa using sy⟩
structure pU (o l:List Int):Prop where
 up:o.Pairwise (· < ·)
 sub:∀z ∈ o,z ∈ l
 all:∀z ∈ l,z ∈ o\/vN o z
 len:o.length+nM o l<=l.length
theorem pU.start (l:List Int):pU [] l:=⟨Pairwise.nil,fun z h=>(by cases h),fun z _=>.inr fun y h=>(by cases h),by simpa [nM] using length_filter_le _ _⟩
theorem pU.more {o l:List Int} {b:Int} (h:pU o l) (hb:pX o l b true):pU (o++[b]) l:=by
 obtain⟨h1,h2,h3⟩:=hb.yes rfl;refine⟨pairwise_append.2 ⟨h.up,pairwise_singleton _ _,fun y hy z hz=>?_⟩,fun z hz=>?_,fun z hz=>?_,?_⟩
 ·simp only[mem_singleton]at hz;subst hz;exact h2 y hy
 ·rcases mem_append.1 hz with hz | hz
  ·exact h.sub z hz
  ·simp only[mem_singleton]at hz;subst hz;exact h1
 ·rcases h.all z hz with q | q
  ·exact .inl (mem_append_left _ q)
  ·have:=h3 z hz q
   by_cases e:z=b
   ·subst e;exact .inl ae
   ·refine .inr fun y hy=>?_
    rcases mem_append.1 hy with hy | hy
    ·exact q y hy
    ·simp only[mem_singleton]at hy;omega
 ·have:=sr hb
  have:=h.len;rw[length_append];simp only[length_cons,length_nil];omega
theorem pU.last {o l:List Int} {b:Int} (h:pU o l) (hb:pX o l b false) (z:Int):z ∈ o ↔ z ∈ l :=
 ⟨h.sub z,fun hz=>(h.all z hz).elim id fun q=>(hb.no rfl z hz q).elim⟩
structure Oq (L:List aR) (o:List Int):Prop where
 up:o.Pairwise (· < ·)
 mem:∀z,z ∈ o ↔ z ∈ nF L
 len:o.length<=(nF L).length
theorem rt (hl:L.length<=1000) (he:∀r ∈ L,r.es.length<=1000):(wO L).length<=1000/\(ro L).length<=1001000/\(nF L).length<=1002000:=by
 have h1:(wO L).length<=L.length:=dS _ _ _;have h2:=xa hl he L.length;rw[take_length]at h2;have h2:(ro L).length<=1001000:=h2;refine⟨Z,h2,?_⟩;unfold nF;rw[length_append,length_map,length_map];omega
theorem map_take {β:Type} (f:α->β) {l:List α} {a:α} (h:l[i]?=some a):(l.take (i+1)).map f=(l.take i).map f++[f a]:=by
 rw[take_add_one,h,map_append];rfl
theorem Ef {o:List Int} {y z:Int} (h:o.Pairwise (· < ·)) (hy:o[o.length - 1]?=some y):vN o z ↔ y<z:=by
 refine⟨fun hc=>hc y (mem_of_getElem? hy),fun Ra x hx=>?_⟩;obtain⟨i,hi,rfl⟩:=mem_iff_getElem.1 hx;obtain⟨hl,e⟩:=List.getElem?_eq_some_iff.1 hy;by_cases q:i=o.length - 1
 ·subst q;omega
 ·have:=(pairwise_iff_getElem.1 h) i (o.length - 1) hi hl Z
  omega
theorem f44 (ρ:aK) (hL:cP M b v L) (hb:b<=nx) (hl:L.length<=1000) (he:∀r ∈ L,r.es.length<=1000) :
 ar am ρ 44 [v] M nx fun r=>∃o,Oq L o/\og nx M 1 pj o r:=by
 obtain⟨hfm,hfk,QK⟩:=rt hl he;refine ar.wk 89 [.tmp 2] Tryz.func44 ?_;refine bR wf ?_;refine gQ (f72 ρ hL Z Z) ?_;rintro⟨u5,M1,n1⟩ ⟨g1,g2,g3⟩;simp only at g1 g2 g3;refine bR wf ?_;refine gQ (f73 ρ (hL.agr (g2.le Z)) Z hl he) ?_;rintro⟨u6,M2,n2⟩ ⟨k1,k2,k3⟩;simp only at k1 k2 k3;obtain⟨ml,F2⟩:∃ml,ml=wO L:=⟨_,rfl⟩;obtain⟨kl,kA⟩:∃kl,kl=ro L:=⟨_,rfl⟩;have F6:nF L=ml.map (·.x)++kl.map (·.x):=by rw[F2,kA];rfl
 rw[<-F2]at g1 hfm;rw[<-kA]at k1 hfk;have a2:aq nx M M2:=(g2.le Z).trans (k2.le Z);have lI:bE M2 n2 u5 8 ml.length (ml.flatMap cO):=(g1.up (fun q _ hq=>k2 q Z) (Nat.le_refl _)).at Z;have mh:=k1.at (Nat.le_refl n2);clear hL g1 k1;have ZT:=fun N=>lI.len (P:=am) (t:=177) DQ.2.2.2.2.2 N
 have ZU:=fun N=>mh.len (P:=am) (t:=179) C5.2.2.2.2.2 N
 refine bR wf ?_;refine aC (fun m' s=>∃(i:Nat) (vv:XV),i<=ml.length/\m'=ml.length - i/\gG s.env 3=some vv/\gG s.env 4=some .nils/\gG s.env 5=some u5/\gG s.env 6=some u6/\gG s.env 7=some (.int .i64 i)/\di s.M n2 s.nx vv 1 pj ((ml.take i).map (·.x))/\aq n2 M2 s.M/\n2<=s.nx) ml.length ⟨0,.nils,Z,Z,?_⟩ ?_
 ·refine bR wf ?_
  exact⟨dG.nil _ _,aq.refl _ _,Z⟩
 ·rintro m' ⟨env,M',nx'⟩ ⟨i,vv,hi,ir,e3,e4,e5,e6,e7,hv,ha,hn⟩
  simp only at e3 e4 e5 e6 e7 hv ha hn;by_cases aL:(i:Int)<ml.length
  ·have aP:i<ml.length:=Z
   obtain⟨r,hr⟩:∃r,ml[i]?=some r:=⟨ml[i],by simp[aP]⟩;have bV:=eF i;have kS:=map_take (·.x) hr;have Gl:((ml.take i).map (·.x)).length<=1000:=by rw[length_map,length_take];omega
   obtain⟨n,o,jw,bC,mi⟩:=lI.fldG (P:=am) aP (t:=177) DQ.2.2.2.1;have hx:=mi 2 (.int .u64 r.x) Z (by rw[eT Ct hr];rfl) 23 1 bi.1 M' ha;have dX:=hv.push r.x am 44 8 [.int .u64 0] Z Z rfl (by simp only[fE];omega) rfl;simp only[pj]at dX;refine ii wf e3 e4 e5 e6 e7 ZT aL bC hx bV dX ?_;refine⟨ml.length - (i+1),Z,i+1,_,Z,rfl,rfl,rfl,?_,fun q hq=>?_,Z⟩
   ·rw[kS]
    exact hv.pushed r.x Z Z rfl Z
   ·rw[dG.push_old hv _ (.inl hq) Z]
    have:=ha q hq;exact J
  ·have gB:i=ml.length:=Z
   rw[gB,take_length]at hv;refine iQ wf e3 e4 e5 e6 e7 ZT aL ?_;clear ZT lI;refine aC (fun m' s=>∃(i:Nat) (vv:XV),i<=kl.length/\m'=kl.length - i/\gG s.env 3=some vv/\gG s.env 4=some .nils/\gG s.env 6=some u6/\gG s.env 8=some (.int .i64 i)/\di s.M n2 s.nx vv 1 pj (ml.map (·.x)++(kl.take i).map (·.x))/\aq n2 M2 s.M/\n2<=s.nx) kl.length ⟨0,vv,Z,Z,?_⟩ ?_
   ·refine Ao wf e4 e6 ?_
    exact⟨e3,by simpa using hv.up (fun _ _ _=>rfl) Z,ha,Z⟩
   ·rintro m' ⟨env,M',nx'⟩ ⟨i,vv,hi,ir,e3,e4,e6,e8,hv,ha,hn⟩
    simp only at e3 e4 e6 e8 hv ha hn;by_cases aL:(i:Int)<kl.length
    ·have aP:i<kl.length:=Z
     obtain⟨r,hr⟩:∃r,kl[i]?=some r:=⟨kl[i],by simp[aP]⟩;have bV:=eF i;have kS:=map_take (·.x) hr;obtain⟨pl,gE⟩:∃pl,pl=ml.map (·.x)++(kl.take i).map (·.x):=⟨_,rfl⟩;have Gl:pl.length<=1002000:=by rw[gE,length_append,length_map,length_map,length_take];omega
     rw[<-gE]at hv;obtain⟨n,o,jw,bC,mi⟩:=mh.fldG (P:=am) aP (t:=179) C5.2.2.2.1;have hx:=mi 3 (.int .u64 r.x) Z (by rw[eT zD hr];rfl) 23 1 bi.1 M' ha;have dX:=hv.push r.x am 44 8 [.int .u64 0] Z Z rfl (by simp only[fE];omega) rfl;simp only[pj]at dX;refine dw wf e3 e4 e6 e8 ZU aL bC hx bV dX ?_;refine⟨kl.length - (i+1),Z,i+1,_,Z,rfl,rfl,rfl,?_,fun q hq=>?_,Z⟩
     ·rw[kS,<-append_assoc,<-gE]
      exact hv.pushed r.x Z Z rfl Z
     ·rw[dG.push_old hv _ (.inl hq) Z]
      have:=ha q hq;exact J
    ·have gB:i=kl.length:=Z
     rw[gB,take_length,<-F6]at hv;refine gw wf e3 e4 e6 e8 ZU aL ?_;obtain⟨nl,RQ⟩:∃nl,nl=nF L:=⟨_,rfl⟩;rw[<-RQ]at hv QK;have a9:=hv.at (Nat.le_refl nx');have CL:=fun N=>a9.len (P:=am) (t:=44) fu.2.2.2.2.2 N
     have aM:aq nx M M':=a2.trans (ha.le Z);have F7:nx<=nx':=Z;clear mh ZU hv ha F6 a2;refine aC (fun m' s=>∃(o:List Int) (u4:XV),m'=nM o nl/\pU o nl/\gG s.env 3=some vv/\gG s.env 4=some u4/\di s.M nx' s.nx u4 1 pj o/\aq nx' M' s.M/\nx'<=s.nx) (nM [] nl) ⟨[],.nils,rfl,pU.start _,?_⟩ ?_
     ·refine Ao wf e3 e4 ?_
      exact⟨dG.nil _ _,aq.refl _ _,Z⟩
     ·rintro m' ⟨env,M3,n3⟩ ⟨o,u4,ir,ho,e3,e4,hv,ha,hn⟩
      simp only at e3 e4 hv ha hn;have JY:o.length<=1002000:=by have:=ho.len;omega
      have hso:=hv.at (Nat.le_refl n3);have mo:=fun N=>hso.len (P:=am) (t:=44) fu.2.2.2.2.2 N
      refine Ao wf e3 e4 ?_;refine aC (fun m2 s=>∃(k:Nat) (best:Int) (ok:Bool),k<=nl.length/\m2=nl.length - k/\pX o (nl.take k) best ok/\gG s.env 3=some vv/\gG s.env 4=some u4/\gG s.env 9=some (.int .u64 best)/\gG s.env 10=some (.bool ok)/\gG s.env 11=some (.int .i64 k)/\s.M=M3/\n3<=s.nx) nl.length ⟨0,0,false,Z,Z,pX.start _ _,?_⟩ ?_
      ·refine Ao wf e3 e4 ?_
       omega
      ·rintro m2 ⟨env,M4,n4⟩ ⟨k,best,ok,hk,JE,hB,e3,e4,e9,dx,kW,rfl,QX⟩
       simp only at e3 e4 e9 dx kW ha QX hv hso;by_cases kA:(k:Int)<nl.length
       ·have AY:k<nl.length:=Z
        obtain⟨z,hz⟩:∃z,nl[k]?=some z:=⟨nl[k],by simp[AY]⟩;have y8:=eF k;obtain⟨n,q,jw,bC,mi⟩:=a9.fldG (P:=am) AY (t:=44) fu.2.2.2.1;have aU:=mi 0 (.int .u64 z) Z (by rw[eT nu hz];rfl) 23 1 bi.1 M4 ha;rw[Nat.add_zero]at aU;clear mi;by_cases VL:o.length=0
        ·have UB:o=[]:=length_eq_zero_iff.1 VL
         have hC:vN o z:=fun y hy=>by rw[UB]at hy;cases hy
         have CO:((o.length:Int)=0)=True:=by simp[VL]
         cases ok with
         | false =>
           refine ii wf e3 e4 e9 dx kW CL kA mo CO bC (aI aU y8) ?_;exact⟨nl.length - (k+1),Z,k+1,z,true,Z,rfl,pX.up hz (hB.first hC),rfl,rfl,rfl,Z⟩
         | true =>
           by_cases ML:z<best
           ·refine ii wf e3 e4 e9 dx kW CL kA mo CO bC (aI aU (aI y8 ML)) ?_
            exact⟨nl.length - (k+1),Z,k+1,z,true,Z,rfl,pX.up hz (hB.less hC ML),rfl,rfl,rfl,Z⟩
           ·refine ii wf e3 e4 e9 dx kW CL kA mo CO bC (aI aU (aI y8 ML)) ?_
            exact⟨nl.length - (k+1),Z,k+1,best,true,Z,rfl,pX.up hz (hB.keep ML),rfl,rfl,rfl,Z⟩
        ·obtain⟨y,hy⟩:∃y,o[o.length - 1]?=some y:=⟨o[o.length - 1]' Z,getElem?_eq_getElem Z⟩
         have NR:=Ef (z:=z) ho.up hy;have CO:((o.length:Int)=0)=False:=eq_false Z;have qC:IntKind.i64.wrap ((o.length:Int) - 1)=((o.length - 1:Nat):Int):=by rw[wrap_i64 Z Z];omega
         obtain⟨n',q',_,iN,Uk⟩:=hso.fldG (P:=am) (show o.length - 1<o.length by omega) (t:=44) fu.2.2.2.1;have dJ:=Uk 0 (.int .u64 y) Z (by rw[eT nu hy];rfl) 23 1 bi.1 M4 (aq.refl _ _);rw[Nat.add_zero]at dJ;clear Uk;by_cases Ra:y<z
         ·have hC:vN o z:=NR.2 Ra
          cases ok with
          | false =>
            refine ii wf e3 e4 e9 dx kW CL kA mo CO bC (aI aU (aI y8 (aI qC (aI iN (aI dJ Ra))))) ?_;exact⟨nl.length - (k+1),Z,k+1,z,true,Z,rfl,pX.up hz (hB.first hC),rfl,rfl,rfl,Z⟩
          | true =>
            by_cases ML:z<best
            ·refine ii wf e3 e4 e9 dx kW CL kA mo CO bC (aI aU (aI y8 (aI ML (aI qC (aI iN (aI dJ Ra)))))) ?_
             exact⟨nl.length - (k+1),Z,k+1,z,true,Z,rfl,pX.up hz (hB.less hC ML),rfl,rfl,rfl,Z⟩
            ·refine ii wf e3 e4 e9 dx kW CL kA mo CO bC (aI aU (aI y8 (aI ML (aI qC (aI iN (aI dJ Ra)))))) ?_
             exact⟨nl.length - (k+1),Z,k+1,best,true,Z,rfl,pX.up hz (hB.keep ML),rfl,rfl,rfl,Z⟩
         ·refine ii wf e3 e4 e9 dx kW CL kA mo CO bC (aI aU (aI y8 (aI qC (aI iN (aI dJ Ra))))) ?_
          exact⟨nl.length - (k+1),Z,k+1,best,ok,Z,rfl,pX.up hz (hB.skip fun h=>Ra (NR.1 h)),rfl,rfl,rfl,Z⟩
       ·have F0:k=nl.length:=Z
        rw[F0,take_length]at hB;cases ok with
        | false =>
          refine iQ wf e3 e4 e9 dx kW CL kA ?_;refine⟨o,⟨ho.up,fun z=>by rw[<-RQ];exact ho.last hB z,by rw[<-RQ];have:=ho.len;omega⟩,dG.keep hv fun q hq=>?_,aM.trans (ha.le Z),by show nx<=n4+8;omega⟩;obtain⟨r1,r2⟩:nx'<=q/\q<n3:=hq;exact⟨rfl,show nx<=q/\q<n4+8 by omega⟩
        | true =>
          have dX:=hv.push best am 44 8 [.int .u64 0] Z Z rfl (by simp only[fE];omega) rfl;simp only[pj]at dX;refine CU wf e3 e4 e9 dx kW CL kA dX ?_;refine⟨nM (o++[best]) nl,by rw[ir];exact sr hB,o++[best],_,rfl,ho.more hB,rfl,hv.pushed best Z Z rfl Z,fun q hq=>?_,Z⟩;rw[dG.push_old hv _ (.inl hq) Z];have:=ha q hq;exact J
def jk (L:List aR) (_:Nat) (z:Int):Option Int:=if 0<(gX L z).length then some z else none
theorem nZ (ρ:aK) (hL:cP M b v L) (hb:b<=nx) (hl:L.length<=1000) (he:∀r ∈ L,r.es.length<=1000) :
 ar am ρ 14 [v] M nx fun r=>∃o,Oq L o/\og nx M 1 pj (gV (jk L) o 0) r:=by
 obtain⟨hfm,hfk,QK⟩:=rt hl he;refine ar.wk 30 [.tmp 2] Tryz.func14 ?_;refine bR NC ?_;refine gQ (f44 ρ hL Z hl he) ?_;rintro⟨u,M1,n1⟩ ⟨cl,cF,g1,g2,g3⟩;simp only at g1 g2 g3;have Zb:cl.length<=1002000:=Nat.le_trans cF.len QK;have a9:=g1.at (Nat.le_refl n1);have ay:=fun N=>a9.len (P:=am) (t:=44) fu.2.2.2.2.2 N
 refine bR NC ?_;refine aC (fun m' s=>∃(i:Nat) (vv:XV),i<=cl.length/\m'=cl.length - i/\gG s.env 0=some v/\gG s.env 3=some vv/\gG s.env 4=some u/\gG s.env 5=some (.int .i64 i)/\di s.M n1 s.nx vv 1 pj (gV (jk L) (cl.take i) 0)/\aq n1 M1 s.M/\n1<=s.nx) cl.length ⟨0,.nils,Z,Z,?_⟩ ?_
 ·refine bR NC ?_
  exact⟨dG.nil _ _,aq.refl _ _,Z⟩
 ·rintro m' ⟨env,M',nx'⟩ ⟨i,vv,hi,ir,e0,e3,e4,e5,hv,ha,hn⟩
  simp only at e0 e3 e4 e5 hv ha hn;by_cases aL:(i:Int)<cl.length
  ·have aP:i<cl.length:=Z
   obtain⟨z,hz⟩:∃t,cl[i]?=some t:=⟨cl[i],by simp[aP]⟩;have bV:=eF i;have kS:=iM (jk L) hz;have Gl:=dS (jk L) (cl.take i) 0;have FZ:(cl.take i).length<=1002000:=by rw[length_take];omega
   obtain⟨n,o,jw,bC,mi⟩:=a9.fldG (P:=am) aP (t:=44) fu.2.2.2.1;have aU:=fun N hN=>mi 0 (.int .u64 z) Z (by rw[eT nu hz];rfl) 23 1 bi.1 N hN
   rw[Nat.add_zero]at aU;have QR:=aU M' ha;clear mi;refine CU NC e0 e3 e4 e5 ay aL bC QR ?_;have a1:aq nx M M':=(g2.le Z).trans (ha.le Z);refine gQ (Ro ρ (hL.agr (a1.le hb)) Z Z z) ?_;rintro⟨u2,M2,n2⟩ ⟨k1,k2,k3⟩;simp only at k1 k2 k3;have Z_:=k1.at (Nat.le_refl n2);have xm:=fun N=>Z_.len (P:=am) (t:=121) fP.2.2.2.2.2 N
   have jX:=ha.trans (k2.le Z);have sW:di M2 n1 n2 vv 1 pj (gV (jk L) (cl.take i) 0):=hv.up (fun q _ hq=>k2 q Z) Z;have dJ:=aU M2 jX;by_cases h0:(0:Int)<((gX L z).length:Int)
   ·have h_:jk L i z=some z:=by unfold jk;rw[if_pos Z]
    rw[h_]at kS;have dX:=sW.push z am 44 8 [.int .u64 0] Z Z rfl (by simp only[fE];omega) rfl;simp only[pj]at dX;refine dw NC e0 e3 e4 e5 xm h0 bC dJ dX bV ?_;refine⟨cl.length - (i+1),Z,i+1,_,Z,rfl,rfl,rfl,?_,fun q hq=>?_,Z⟩
    ·rw[kS]
     exact sW.pushed z Z Z rfl Z
    ·rw[dG.push_old sW _ (.inl hq) Z]
     have:=jX q hq;exact J
   ·have h_:jk L i z=none:=by unfold jk;rw[if_neg Z]
    rw[h_]at kS;refine iQ NC e0 e3 e4 e5 xm h0 bV ?_;exact⟨cl.length - (i+1),Z,i+1,_,Z,rfl,rfl,rfl,by rw[kS];simpa using sW.up (fun _ _ _=>rfl) Z,jX,Z⟩
  ·have gB:i=cl.length:=Z
   refine gw NC e0 e3 e4 e5 ay aL ?_;rw[gB,take_length]at hv;refine⟨cl,cF,dG.keep hv fun k hk=>?_,(g2.le Z).trans (ha.le Z),by show nx<=nx'+6;omega⟩;obtain⟨r1,r2⟩:n1<=k/\k<nx':=hk;exact⟨rfl,Z,show k<nx'+6 by omega⟩
end Go.Xs
namespace Go.Xs
open List Nat Option
variable{L:List aR}
noncomputable section
theorem E0 {x:Int} (h:0<(gX L x).length):x ∈ nF L:=by
 obtain⟨e,he⟩:=exists_mem_of_length_pos h;obtain⟨i,t,_,h2⟩:=(iy _).1 he;unfold o7 at h2;split at h2
 ·rename_i iu
  have iu:0<dq L t x:=iu;unfold dq at iu;obtain⟨r,hr⟩:=exists_mem_of_length_pos iu;rw[mem_filter]at hr;obtain⟨hr,hm⟩:=hr;simp only[fI,Bool.and_eq_true,decide_eq_true_eq]at hm;obtain⟨j,hj⟩:=getElem?_of_mem hr;unfold nF;refine mem_append_left _ (mem_map.2 ⟨Rs L j r,(iy _).2 ⟨j,r,hj,by rw[if_pos hm.1,Nat.zero_add]⟩,?_⟩);exact hm.2.2
 ·cases h2
theorem GL {f:Nat->Int->Option Int} (hf:∀i a b,f i a=some b->b=a):∀{l:List Int} {i:Nat},l.Pairwise (· < ·)->(gV f l i).Pairwise (· < ·)
 | [],_,_=>Pairwise.nil
 | a::l,i,h=>by
   obtain⟨h1,h2⟩:=pairwise_cons.1 h;have ih:=GL hf (i:=i+1) h2;simp only[gV];cases hh:f i a with
   | none=>exact ih
   | some c =>
     have:=hf i a c hh;subst this;refine pairwise_cons.2 ⟨fun b hb=>?_,ih⟩;obtain⟨k,y,hy,hk⟩:=(iy _).1 hb;have:=hf _ _ _ hk;subst this;exact h1 _ (mem_of_getElem? hy)
theorem IT:∀{l m:List Int},l.Pairwise (· < ·)->m.Pairwise (· < ·)->(∀e,e ∈ l ↔ e ∈ m)->l=m
 | [],[],_,_,_=>rfl
 | [],b::m,_,_,h=>by have:=(h b).2 mem_cons_self;cases this
 | a::l,[],_,_,h=>by have:=(h a).1 mem_cons_self;cases this
 | a::l,b::m,h1,h2,h=>by
   obtain⟨p1,p2⟩:=pairwise_cons.1 h1;obtain⟨q1,q2⟩:=pairwise_cons.1 h2;have qJ:a=b:=by
    rcases mem_cons.1 ((h a).1 mem_cons_self) with e | ha
    ·exact e
    ·rcases mem_cons.1 ((h b).2 mem_cons_self) with e | hb
     ·exact e.symm
     ·have:=p1 b hb;have:=q1 a ha;omega
   subst qJ;congr 1;refine IT p2 q2 fun e=>⟨fun he=>?_,fun he=>?_⟩
   ·rcases mem_cons.1 ((h e).1 (mem_cons_of_mem _ he)) with rfl | h'
    ·have:=p1 e he;omega
    ·exact h'
   ·rcases mem_cons.1 ((h e).2 (mem_cons_of_mem _ he)) with rfl | h'
    ·have:=q1 e he;omega
    ·exact h'
theorem EJ {o ys:List Int} (ho:Oq L o) (h1:∀x,x ∈ ys ↔ 0<(gX L x).length) (h2:ys.Nodup) (h3:ys.Pairwise (· <= ·)):gV (jk L) o 0=ys:=by
 have hr:∀i a b,jk L i a=some b->b=a/\0<(gX L a).length:=fun i a b h=>by
  unfold jk at h;split at h
  ·rename_i q
   simp only[Option.some.injEq]at h;exact⟨h.symm,q⟩
  ·cases h
 refine IT (GL (fun i a b h=>(hr i a b h).1) ho.up) ?_ fun z=>?_
 ·exact(h3.and h2).imp fun {a b} h=>by have:=h.1;have:=h.2;omega
 ·rw[h1]
  constructor
  ·intro hz
   obtain⟨k,y,hy,hk⟩:=(iy _).1 hz;obtain⟨rfl,q⟩:=hr _ _ _ hk;exact q
  ·intro hz
   obtain⟨k,hk⟩:=getElem?_of_mem ((ho.mem z).2 (E0 hz));refine(iy _).2 ⟨k,z,hk,?_⟩;unfold jk;rw[if_pos hz]
end
end Go.Xs
namespace Go.Xs
open List Nat Option
variable{sz:Nat}{v x y:XV}
noncomputable section
def Lk (x y:XV):Prop:=x=y\/(∃k a b,x = .int k a/\y = .int k b)\/∃a b,x = .bool a/\y = .bool b
theorem Lk.refl (x:XV):Lk x x:=.inl rfl
theorem Lk.trans {z:XV} (h:Lk x y) (h':Lk y z):Lk x z:=by
 rcases h with rfl | ⟨k,a,b,rfl,rfl⟩ | ⟨a,b,rfl,rfl⟩
 ·exact h'
 ·rcases h' with rfl | ⟨k',a',b',e,rfl⟩ | ⟨a',b',e,rfl⟩
  ·exact .inr (.inl ⟨k,a,b,rfl,rfl⟩)
  ·cases e;exact .inr (.inl ⟨k,a,b',rfl,rfl⟩)
  ·cases e
 ·rcases h' with rfl | ⟨k',a',b',e,rfl⟩ | ⟨a',b',e,rfl⟩
  ·exact .inr (.inr ⟨a,b,rfl,rfl⟩)
  ·cases e
  ·cases e;exact .inr (.inr ⟨a,b',rfl,rfl⟩)
inductive pD:List XV->List XV->Prop where
 | nil:pD [] []
 | cons {x y:XV} {xs ys:List XV}:Lk x y->pD xs ys->pD (x::xs) (y::ys)
theorem pD.refl:∀(xs:List XV),pD xs xs
 | []=>.nil
 | x::xs=>.cons (.refl x) (pD.refl xs)
theorem pD.len {xs ys:List XV} (h:pD xs ys):ys.length=xs.length:=by
 induction h with
 | nil=>rfl
 | cons _ _ ih=>simp[ih]
theorem pD.trans {xs ys zs:List XV} (h:pD xs ys) (h':pD ys zs):pD xs zs:=by
 induction h generalizing zs with
 | nil=>exact h'
 | cons h1 _ ih =>
   cases h' with
   | cons h2 h3=>exact .cons (h1.trans h2) (ih h3)
theorem pD.take {xs ys:List XV} (h:pD xs ys) (n:Nat):pD (xs.take n) (ys.take n):=by
 induction h generalizing n with
 | nil=>simp only[take_nil];exact .nil
 | cons h1 _ ih=>cases n with
   | zero=>exact .nil
   | succ n=>exact .cons h1 (ih n)
theorem pD.drop {xs ys:List XV} (h:pD xs ys) (n:Nat):pD (xs.drop n) (ys.drop n):=by
 induction h generalizing n with
 | nil=>simp only[drop_nil];exact .nil
 | cons h1 h2 ih=>cases n with
   | zero=>exact .cons h1 h2
   | succ n=>exact ih n
theorem pD.put {y:XV}:∀{xs:List XV} {j:Nat} {x:XV},xs[j]?=some x->Lk x y->pD xs (bp xs j [y])
 | [],_,_,h,_=>by simp at h
 | a::xs,0,x,h,hk=>by
   simp only[getElem?_cons_zero,Option.some.injEq]at h;subst h;have:bp (a::xs) 0 [y]=y::xs:=by rw[fa _ _ _ ae];simp
   rw[this];exact .cons hk (.refl _)
 | a::xs,j+1,x,h,hk=>by
   simp only[getElem?_cons_succ]at h;simp only[bp];exact .cons (.refl a) (pD.put h hk)
def q8 (p:Nat->Prop) (M M':Hp):Prop:=∀k,p k->∀cs,gG M k=some (.row cs)->∃cs',gG M' k=some (.row cs')/\pD cs cs'
variable {p:Nat->Prop} {M M' M'':Hp}
theorem q8.refl (p:Nat->Prop) (M:Hp):q8 p M M:=fun _ _ cs h=>⟨cs,h,.refl cs⟩
theorem q8.trans (h:q8 p M M') (h':q8 p M' M''):q8 p M M'':=fun k hk cs hc=>by
 obtain⟨cs',h1,h2⟩:=h k hk cs hc;obtain⟨cs'',h3,h4⟩:=h' k hk cs' h1;exact⟨cs'',h3,h2.trans h4⟩
theorem q8.keep (hk:∀k,p k->gG M' k=gG M k):q8 p M M':=fun k hp cs h=>⟨cs,(hk k hp).trans h,.refl cs⟩
theorem q8.put {n j:Nat} {rw:List XV} (h:gG M n=some (.row rw)) (hx:rw[j]?=some x) (hk:Lk x y):q8 p M (ci M n (.row (bp rw j [y]))):=fun k _ cs hc=>by
 rw[ao];split
 ·rename_i e
  have e:n=k:=e;subst e;rw[h]at hc;cases hc;exact⟨_,rfl,pD.put hx hk⟩
 ·exact⟨cs,hc,.refl cs⟩
theorem dG.like {len:Nat} {row:List XV} (h:dG M p v sz len row) (hM:q8 p M M'):∃row',dG M' p v sz len row'/\pD row row':=by
 obtain⟨h1,h2,⟨rfl,rfl⟩ | ⟨n,rfl,h3,h4⟩⟩:=h
 ·exact⟨row,⟨h1,h2,.inl ⟨rfl,rfl⟩⟩,.refl row⟩
 ·obtain⟨cs',h5,h6⟩:=hM n h3 row h4
  exact⟨cs',⟨h1,by rw[h6.len,h2],.inr ⟨n,rfl,h3,h5⟩⟩,h6⟩
theorem fD {k:IntKind} {a:Int} (h:Lk (.int k a) y):∃b,y = .int k b:=by
 rcases h with rfl | ⟨k',a',b',e,rfl⟩ | ⟨a',b',e,rfl⟩
 ·exact⟨a,rfl⟩
 ·cases e;exact⟨b',rfl⟩
 ·cases e
theorem LU {a:Bool} (h:Lk (.bool a) y):∃b,y = .bool b:=by
 rcases h with rfl | ⟨k',a',b',e,rfl⟩ | ⟨a',b',e,rfl⟩
 ·exact⟨a,rfl⟩
 ·cases e
 ·cases e;exact⟨b',rfl⟩
theorem dG.lk {len:Nat} {row:List XV} (h:dG M p v sz len row) (hl:Lk v y):y=v:=by
 obtain⟨_,_,⟨rfl,_⟩ | ⟨n,rfl,_⟩⟩:=h<;>rcases hl with rfl | ⟨k',a',b',e,rfl⟩ | ⟨a',b',e,rfl⟩<;>first | rfl | cases e
mutual
theorem ji.like (hM:q8 p M M'):∀{e:Ex} {cs cs':List XV},ji M p e cs->pD cs cs'->∃e',ji M' p e' cs'/\dV e'=dV e
 | .mk k x y ps,cs,cs',h,hl=>by
   simp only[ji]at h;obtain⟨v,row,rfl,h2,h3⟩:=h;cases hl with | cons l1 hl=>cases hl with | cons l2 hl=>cases hl with | cons l3 hl=>cases hl with | cons l4 hl=>cases hl with | nil =>
   obtain⟨k',rfl⟩:=fD l1;obtain⟨x',rfl⟩:=fD l2;obtain⟨y',rfl⟩:=fD l3;have hv:=h2.lk l4;subst hv;obtain⟨row',r1,r2⟩:=h2.like hM;obtain⟨ps',q1,q2,q3⟩:=eO.like hM h3 r2;refine⟨.mk k' x' y' ps',?_,by simp only[dV,q3]⟩;simp only[ji];exact⟨_,row',rfl,by rw[q2];exact r1,q1⟩
theorem eO.like (hM:q8 p M M'):∀{es:List Ex} {row row':List XV},eO M p es row->pD row row'->∃es',eO M' p es' row'/\es'.length=es.length/\jb es'=jb es
 | [],_,_,_,_=>⟨[],by simp only[eO],rfl,rfl⟩
 | e::es,row,row',h,hl=>by
   simp only[eO]at h;obtain⟨e',h1,h2⟩:=ji.like hM h.1 (hl.take 4);obtain⟨es',h3,h4,h5⟩:=eO.like hM h.2 (hl.drop 4);exact⟨e'::es',by simp only[eO];exact⟨h1,h3⟩,by simp[h4],by simp only[jb,h2,h5]⟩
end
theorem DS {es:List En}:∀{row:List XV},pD (es.flatMap b9) row->∃es':List En,es'.length=es.length/\row=es'.flatMap b9:=by
 induction es with
 | nil=>intro row h;cases h;exact⟨[],rfl,rfl⟩
 | cons e es ih =>
   intro row h;simp only[flatMap_cons,b9,cons_append,nil_append]at h;cases h with | cons l1 h=>cases h with | cons l2 h=>cases h with | cons l3 h=>cases h with | cons l4 h =>
   obtain⟨x,rfl⟩:=fD l1;obtain⟨w,rfl⟩:=fD l2;obtain⟨n,rfl⟩:=fD l3;obtain⟨m,rfl⟩:=LU l4;obtain⟨es',h1,rfl⟩:=ih h;exact⟨⟨x,w,n,m⟩::es',by simp[h1],rfl⟩
theorem lg.like (hM:q8 p M M') {r:aR} {cs cs':List XV} (h:lg M p r cs) (hl:pD cs cs'):∃r',lg M' p r' cs'/\dV r'.p=dV r.p/\r'.es.length=r.es.length:=by
 obtain⟨pc,ve,rfl,h2,h3⟩:=h;obtain⟨a,b,c,v,rfl,_⟩:=id h2.shape;simp only[cons_append,nil_append]at hl;cases hl with | cons l1 hl=>cases hl with | cons l2 hl=>cases hl with | cons l3 hl=>cases hl with | cons l4 hl=>cases hl with | cons l5 hl=>cases hl with | cons l6 hl =>
 obtain⟨z1,rfl⟩:=fD l1;obtain⟨z2,rfl⟩:=fD l2;obtain⟨z3,rfl⟩:=fD l3;obtain⟨z4,rfl⟩:=fD l4;obtain⟨z5,rfl⟩:=fD l5;obtain⟨z6,rfl⟩:=fD l6;cases hl with | cons m1 hl=>cases hl with | cons m2 hl=>cases hl with | cons m3 hl=>cases hl with | cons m4 hl=>cases hl with | cons m5 hl=>cases hl with | nil =>
 obtain⟨e',g1,g2⟩:=ji.like hM h2 (.cons m1 (.cons m2 (.cons m3 (.cons m4 .nil))));have hv:=h3.lk m5;subst hv;obtain⟨row',r1,r2⟩:=h3.like hM;obtain⟨es',q1,rfl⟩:=DS r2;exact⟨⟨z1,z2,z3,z4,z5,z6,e',es'⟩,⟨_,_,rfl,g1,by rw[q1];exact r1⟩,g2,q1⟩
end
end Go.Xs
namespace Go.Xs
open List Nat Option
open Go.Proofs
def IQ (p:Nat->Prop) (nx:Nat) (M:Hp) (r:ew):Prop:=r.1 = .tup []/\q8 p M r.2.1/\(∀q,q<nx->¬ p q->gG r.2.1 q=gG M q)/\nx<=r.2.2
theorem f43:∀(sz:Nat) (ρ:aK) (e:Ex) (M:Hp) (nx:Nat) (p:Nat->Prop) (cs:List XV),dV e<sz->ji M p e cs->(∀q,p q->q<nx)->dV e<=100000->ar am ρ 43 [.agg cs] M nx (IQ p nx M):=by
 intro sz
 induction sz with
 | zero=>intro ρ e M nx p cs h;omega
 | succ sz ih =>
 intro ρ e M nx p cs cJ he hp ip;have sx:=he;obtain⟨k,x,y,ps⟩:=e;simp only[ji]at sx;obtain⟨v,row,rfl,a9,_⟩:=sx;have hv:=a9.cell;have D5:ps.length<=100000:=by
  have:=lz ps;simp only[dV]at ip;omega
 have ay:∀N,kZ am N 38 v=some ⟨.int .i64 ps.length,[],[]⟩:=fun N=>(a9.at hp).len (P:=am) (t:=38) c_.2.2.2.2.2 N
 refine ar.wk 33 [] Tryz.func43 ?_;refine Ao fT hv.1 hv.2 ?_;refine aC (fun m' s=>∃(i:Nat),i<=ps.length/\m'=ps.length - i/\gG s.env 1=some (.mp nx 0)/\gG s.env 2=some (.int .i64 i)/\gG s.M nx=some (.row [.int .i64 k,.int .u64 x,.int .u64 y,v])/\q8 p M s.M/\(∀q:Nat,q<nx->¬ p q->gG s.M q=gG M q)/\nx+1<=s.nx) ps.length ⟨0,Z,Z,?_⟩ ?_
 ·refine bR fT ?_
  refine⟨q8.keep fun q hq=>?_,fun q h1 h2=>?_,Z⟩
  ·have:=hp q hq
   exact J
  ·rw[if_neg (by simp only[aw];omega)]
 ·rintro m' ⟨env,M',nx'⟩ ⟨i,hi,ir,e1,e2,z0,hM,ho,hn⟩
  simp only at e1 e2 z0 hM ho hn;by_cases aL:(i:Int)<ps.length
  ·have aP:i<ps.length:=Z
   have bV:=eF i;obtain⟨e',hE,YD⟩:=ji.like hM he (pD.refl _);obtain⟨k',x',y',ps'⟩:=e';simp only[ji]at hE;obtain⟨v',row',dI,ox,JH⟩:=hE;simp only[List.cons.injEq,XV.int.injEq,true_and,and_true]at dI;obtain⟨rfl,rfl,rfl,rfl⟩:=dI;obtain⟨VF,Gn,⟨rfl,hl3⟩ | ⟨n,Q6,Gp,Qu⟩⟩:=ox
   ·exfalso
    obtain⟨_,_,⟨_,h0⟩ | ⟨n,h0,_⟩⟩:=a9
    ·omega
    ·cases h0
   ·have gE:ps'.length=ps.length:=by
     obtain⟨_,_,⟨h0,_⟩ | ⟨n',h0,_⟩⟩:=a9
     ·rw[h0]at Q6;cases Q6
     ·rw[h0]at Q6;injection Q6 with _ _ _ e4 _;exact e4.symm
    rw[gE]at Q6 Gn;subst Q6;have F7:=hp n Gp;obtain⟨c,hc⟩:∃c,ps'[i]?=some c:=⟨ps'[i]' Z,getElem?_eq_getElem Z⟩;have Vx:=JH.get hc;obtain⟨kc,xc,yc,vc,DZ,MI,psc,rowc,hOc⟩:∃kc xc yc vc,(row'.drop (i*4)).take 4=[.int .i64 kc,.int .u64 xc,.int .u64 yc,vc]/\(dY vc=[vc]/\ax vc=true)/\∃(psc:List Ex) (rowc:List XV),dG M' p vc 4 psc.length rowc:=by
     obtain⟨kc,xc,yc,psc⟩:=c;simp only[ji]at Vx;obtain⟨vc,rowc,h1,h2,_⟩:=Vx;exact⟨kc,xc,yc,vc,h1,h2.cell,psc,rowc,h2⟩
    have rC:(i+1)*4<=ps.length*4:=mul_le_mul_right _ aP;have bC:∀kk,br am 38 (.sl n 4 0 ps.length ps.length) (.int kk (i:Int))=some (.mp n (i*4)):=fun kk=>by
     rw[cy,c_.2.2.2.1,ev _ _ _ _ _ Z Z];simp
    have aU:b_ am M' 40 (.mp n (i*4))=some ⟨.agg [.int .i64 kc,.int .u64 xc,.int .u64 yc,vc],[n],[]⟩:=by
     rw[fG (by unfold vR;rw[Qu]) eP.1 Z,DZ]
    have Bh:dV c<sz/\dV c<=100000:=by
     have:=fb (mem_of_getElem? hc);simp only[dV]at cJ ip this YD ⊢;omega
    rw[DZ]at Vx;refine iQ fT e1 e2 ay aL z0 bC aU ?_;refine gQ (ih ρ c M' (nx'+10) p _ Bh.1 Vx (fun q hq=>by have:=hp q hq;omega) Bh.2) ?_;rintro⟨u,M2,n2⟩ ⟨g1,g2,g3,g4⟩;simp only at g1 g2 g3 g4;subst g1;have z1:=(g3 nx Z (fun h=>by have:=hp nx h;omega)).trans z0;obtain⟨oQ,aW,MD⟩:=g2 n Gp _ Qu;have MG:oQ.length=ps.length*4:=by rw[MD.len,Gn]
    have QA:∃a1 a2 a3,(oQ.drop (i*4)).take 4=[.int .i64 a1,.int .u64 a2,.int .u64 a3,vc]:=by
     have:=(MD.drop (i*4)).take 4;rw[DZ]at this;generalize (oQ.drop (i*4)).take 4=L4 at this;cases this with | cons l1 hl=>cases hl with | cons l2 hl=>cases hl with | cons l3 hl=>cases hl with | cons l4 hl=>cases hl with | nil =>
     obtain⟨b1,rfl⟩:=fD l1;obtain⟨b2,rfl⟩:=fD l2;obtain⟨b3,rfl⟩:=fD l3;exact⟨b1,b2,b3,by rw[hOc.lk l4]⟩
    obtain⟨a1,a2,a3,Mr⟩:=QA;have Vz:oQ[i*4]?=some (.int .i64 a1):=by
     have:=congrArg (·[0]?) Mr;simpa [getElem?_take,getElem?_drop] using this
    have Zp:oQ[i*4+1]?=some (.int .u64 a2):=by
     have:=congrArg (·[1]?) Mr;simpa [getElem?_take,getElem?_drop] using this
    have sV:i*4+[XV.int .i64 77].length<=oQ.length:=by simp only[length_cons,length_nil];omega
    have Un:(bp oQ (i*4) [XV.int .i64 77])[i*4+1]?=some (.int .u64 a2):=by
     have:=congrArg (·[0]?) (iH oQ (i*4) (i*4+1) [XV.int .i64 77] sV (Nat.le_refl _));simp only[getElem?_drop,Nat.add_zero]at this;rw[this,Zp]
    have MC:b_ am (ci M2 n (.row (bp oQ (i*4) [.int .i64 77]))) 23 (.mp n (i*4+1))=some ⟨.int .u64 a2,[n],[]⟩ :=
     dB (by unfold vR;rw[ao,if_pos rfl]) bi.1 Un
    have Q4:(bp oQ (i*4) [XV.int .i64 77]).length=ps.length*4:=by rw[ib _ _ _ sV,MG]
    refine ii fT e1 e2 ay aL z1 bC aW MC bV MG Q4 ?_;refine⟨ps.length - (i+1),Z,i+1,Z,rfl,rfl,(hM.trans g2).trans ((q8.put aW Vz (.inr (.inl ⟨_,_,_,rfl,rfl⟩))).trans (q8.put (by rw[ao,if_pos rfl]) Un (.inr (.inl ⟨_,_,_,rfl,rfl⟩)))),fun q h1 h2=>?_,Z⟩;have UJ:n≠q:=fun e=>h2 (e ▸ Gp)
    rw[if_neg (show ¬ aw n q from UJ),if_neg (show ¬ aw n q from UJ),g3 q Z h2];exact ho q h1 h2
  ·refine iC fT e1 e2 ay aL z0 ?_
   exact⟨rfl,hM,ho,by dsimp only;omega⟩
theorem mA (ρ:aK) {r:aR} {M:Hp} {nx:Nat} {p:Nat->Prop} {cs:List XV} (hr:lg M p r cs) (hp:∀q,p q->q<nx) (FY:dV r.p<=100000) (sS:r.es.length<=100000):ar am ρ 13 [.agg cs] M nx (IQ p nx M):=by
 obtain⟨pc,ve,rfl,hE,hO⟩:=hr;obtain⟨pk,pa,pb,pv,rfl,p1,p2⟩:=hE.shape;obtain⟨q1,q2⟩:=hO.cell;have ay:∀N,kZ am N 41 ve=some ⟨.int .i64 r.es.length,[],[]⟩:=fun N=>(hO.at hp).len (P:=am) (t:=41) eo.2.2.2.2.2 N
 refine ar.wk 34 [] Tryz.func13 ?_;refine mY vG p1 p2 q1 q2 ?_;generalize xu:ci M nx _=M1;have z0:gG M1 nx=some (.row [.int .i64 r.kind,.int .u64 r.t,.int .u64 r.x,.int .u64 r.w,.int .u64 r.n,.int .u64 r.v,.int .i64 pk,.int .u64 pa,.int .u64 pb,pv,ve]):=by rw[<-xu];exact J
 have Bi:∀q,q<nx->gG M1 q=gG M q:=fun q hq=>by rw[<-xu];exact J
 clear xu;have sP:ji M1 p r.p [.int .i64 pk,.int .u64 pa,.int .u64 pb,pv]:=hE.keep fun q hq=>⟨Bi q (hp q hq),hq⟩
 refine gQ (f43 _ ρ r.p M1 (nx+3) p _ (lt_succ_self _) sP (fun q hq=>by have:=hp q hq;omega) FY) ?_;rintro⟨u,M2,n2⟩ ⟨g1,g2,g3,g4⟩;simp only at g1 g2 g3 g4;subst g1;have z1:=(g3 nx Z (fun h=>by have:=hp nx h;omega)).trans z0;have rz:q8 p M M2:=(q8.keep fun q hq=>Bi q (hp q hq)).trans g2;have VL:∀q,q<nx->¬ p q->gG M2 q=gG M q:=fun q h1 h2=>(g3 q Z h2).trans (Bi q h1)
 refine bR vG ?_;refine aC (fun m' s=>∃(i:Nat),i<=r.es.length/\m'=r.es.length - i/\gG s.env 1=some (.mp nx 0)/\gG s.env 2=some (.int .i64 i)/\gG s.M nx=some (.row [.int .i64 r.kind,.int .u64 r.t,.int .u64 r.x,.int .u64 r.w,.int .u64 r.n,.int .u64 r.v,.int .i64 pk,.int .u64 pa,.int .u64 pb,pv,ve])/\q8 p M s.M/\(∀q:Nat,q<nx->¬ p q->gG s.M q=gG M q)/\nx+1<=s.nx) r.es.length ⟨0,Z,Z,?_⟩ ?_
 ·refine bR vG ?_
  exact⟨z1,rz,VL,Z⟩
 ·rintro m' ⟨env,M',nx'⟩ ⟨i,hi,ir,e1,e2,z0,hM,ho,hn⟩
  simp only at e1 e2 z0 hM ho hn;by_cases aL:(i:Int)<r.es.length
  ·have aP:i<r.es.length:=Z
   have bV:=eF i;obtain⟨oQ,hO2,MD⟩:=hO.like hM;obtain⟨es',Mw,rfl⟩:=DS MD;obtain⟨_,je,⟨rfl,h0⟩ | ⟨n,rfl,Gp,Qu⟩⟩:=hO2
   ·omega
   ·have F7:=hp n Gp
    have rC:(i+1)*4<=r.es.length*4:=mul_le_mul_right _ aP;obtain⟨e,he⟩:∃e,es'[i]?=some e:=⟨es'[i]' Z,getElem?_eq_getElem Z⟩;have Mr:=iz es' i e he;obtain⟨oQ,UM⟩:∃oQ,oQ=es'.flatMap b9:=⟨_,rfl⟩;rw[<-UM]at Qu je Mr;have Vz:oQ[i*4]?=some (.int .u64 e.x):=by
     have:=congrArg (·[0]?) Mr;simpa [getElem?_take,getElem?_drop,b9] using this
    have VA:oQ[i*4+3]?=some (.bool e.m):=by
     have:=congrArg (·[3]?) Mr;simpa [getElem?_take,getElem?_drop,b9] using this
    have bC:∀kk,br am 41 (.sl n 4 0 r.es.length r.es.length) (.int kk (i:Int))=some (.mp n (i*4)):=fun kk=>by
     rw[cy,eo.2.2.2.1,ev _ _ _ _ _ Z Z];simp
    have ZK:b_ am M' 23 (.mp n (i*4))=some ⟨.int .u64 e.x,[n],[]⟩:=dB (by unfold vR;rw[Qu]) bi.1 Vz;obtain⟨x1,VV⟩:∃x1,x1=IntKind.u64.wrap (e.x+1):=⟨_,rfl⟩;have sV:i*4+[XV.int .u64 x1].length<=oQ.length:=by simp only[length_cons,length_nil];omega
    have Uo:(bp oQ (i*4) [XV.int .u64 x1])[i*4+3]?=some (.bool e.m):=by
     have:=congrArg (·[0]?) (iH oQ (i*4) (i*4+3) [XV.int .u64 x1] sV (by simp only[length_cons,length_nil];omega));simp only[getElem?_drop,Nat.add_zero]at this;rw[this,VA]
    have ZI:b_ am (ci M' n (.row (bp oQ (i*4) [.int .u64 x1]))) 4 (.mp n (i*4+3))=some ⟨.bool e.m,[n],[]⟩ :=
     dB (by unfold vR;rw[ao,if_pos rfl]) kH.1 Uo
    have Q4:(bp oQ (i*4) [XV.int .u64 x1]).length=r.es.length*4:=by rw[ib _ _ _ sV,je]
    have hx1':=VV.symm;clear MD hO VV UM;refine ii vG e1 e2 ay aL z0 bC ZK hx1' Qu je (aI ZI (aI Q4 bV)) ?_;refine⟨r.es.length - (i+1),Z,i+1,Z,rfl,rfl,hM.trans ((q8.put Qu Vz (.inr (.inl ⟨_,_,_,rfl,rfl⟩))).trans (q8.put (by rw[ao,if_pos rfl]) Uo (.inr (.inr ⟨_,_,rfl,rfl⟩)))),fun q h1 h2=>?_,Z⟩;have UJ:n≠q:=fun e=>h2 (e ▸ Gp)
    rw[if_neg (show ¬ aw n q from UJ),if_neg (show ¬ aw n q from UJ)];exact ho q h1 h2
  ·refine iC vG e1 e2 ay aL z0 ?_
   exact⟨rfl,hM,ho,by dsimp only;omega⟩
end Go.Xs
namespace Go.Xs
open List Nat Option
variable{M M':Hp}{b nx o:Nat}{v:XV}
noncomputable section
open Go.Proofs
theorem kn.kp {l:List bO} (h:kn M b v l) (ha:Kp b M M'):kn M' b v l:=by
 obtain⟨rk,sv,h1,h2,h3,h4⟩:=h;exact⟨rk,sv,h1,h2,ha rk _ h2 h3,h4.kp ha⟩
theorem ey.kp {f:Int->Option (List bO)} (h:ey M b o f) (ha:Kp b M M'):ey M' b o f:=by
 obtain⟨ho,rm,c,l,h1,h2,h3,h4,h5⟩:=h;exact⟨ho,rm,c,l,ha o _ ho h1,h2,ha rm _ h2 h3,h4,fun x v hx=>by
  obtain⟨ins,h6,h7⟩:=h5 x v hx;exact⟨ins,h6,h7.kp ha⟩⟩
theorem Kv {F:Int->Option (List bO)} (hO:ey M b o F) (hB:Ev M o) (ha:Kp b M M'):Ev M' o:=by
 obtain⟨rm,c,l,b1,b2,b3,b4⟩:=hB;obtain⟨ho,rm',c',l',c1,c2,c3,_⟩:=hO;rw[b1]at c1;simp only[Option.some.injEq,bx.row.injEq,List.cons.injEq,XV.mm.injEq,and_true]at c1;subst c1;exact⟨rm,c,l,ha o _ ho b1,ha rm _ c2 b2,b3,b4⟩
theorem Nv.agr {N N':Hp} (h:Nv nx N M N' M') (hs:Pi N M) (ha:aq nx N N') (hc:∀k o,gG M k=some o->k<nx):aq nx M M'/\Pi N' M':=by
 refine⟨fun k hk=>?_,fun k y hy=>?_⟩
 ·cases hN:gG N k with
  | some x=>rw[h.own k x hN,ha k hk,hN,hs k x hN]
  | none =>
    cases hM:gG M k with
    | some x=>exact h.old k x hk hN hM
    | none=>rw[h.mid k hk hN ((ha k hk).trans hN),hM]
 ·by_cases hk:k<nx
  ·have e:=ha k hk
   rw[hy]at e;rw[h.own k y e.symm];exact hy
  ·rw[h.new hc k Z]
   exact hy
theorem SM {row Rf:List XV} {i:Nat} {a b c:Int} {k1 k2 k3:IntKind} {cs:List XV} (hc:(row.drop (i*11)).take 11 = .int k1 a :: .int k2 b :: .int k3 c::cs) (h:pD row Rf):∃d,Rf[i*11+2]?=some (.int k3 d):=by
 have:=(h.drop (i*11)).take 11;rw[hc]at this;generalize hL4:(Rf.drop (i*11)).take 11=L4 at this;cases this with | cons l1 hl=>cases hl with | cons l2 hl=>cases hl with | cons l3 hl =>
 obtain⟨d,rfl⟩:=fD l3;refine⟨d,?_⟩;have:=congrArg (·[2]?) hL4;simpa [getElem?_take,getElem?_drop] using this
theorem f3 (hS:kL) (hN:kJ) (hI:Ci) (ρ:aK) (j9:ρ.det=false) {L:List aR} (hL:cP M b v L) (hb:b<=nx) (iu:∀r ∈ L,gI r.p) (x w n pos writer:Int)
 (hw:∀M' n',ar am ρ 8 [] M' n' fun r=>r.1 = .bool true/\aq n' M' r.2.1) :
 ar am ρ 3 [v,.int .u64 x,.agg [.int .u64 w,.int .u64 n],.int .i64 pos,.int .i64 writer] M nx fun r=>r.1 = .bool true/\aq nx M r.2.1:=by
 refine ar.wk 132 [.tmp 10] Tryz.func3 ?_;refine bR rD ?_;generalize xu:ci M nx _=M1;have a1:aq nx M M1:=by rw[<-xu];exact O
 have z7:gG M1 nx=some (.row [.int .u64 w,.int .u64 n]):=by rw[<-xu];exact J
 clear xu;refine lG (f7 ρ (hL.agr (a1.le hb)) Z af) fun M2 n2 g2 g3=>?_
 have z7:=(g2 nx Z).trans z7;have a2:aq nx M M2:=a1.trans (g2.le Z);clear g2 a1;cases ip:AM L 60 with
 | false =>
   refine mI rD ip ?_;refine gQ (hw _ _) ?_;rintro⟨u,M3,n3⟩ ⟨k1,k2⟩;simp only at k1 k2;subst k1;refine bR rD ?_;exact a2.trans (k2.le Z)
 | true =>
   unfold AM at ip;rw[Bool.and_eq_true,decide_eq_true_eq]at ip;obtain⟨FY,sS⟩:=ip;have Ul:AM L 60=true:=by unfold AM;rw[FY];simpa using sS
   have xk:∀r ∈ L,r.es.length<=60/\dV r.p<=60:=fun r hr=>by
    rw[take_of_length_le Z,List.all_eq_true]at FY;have:=FY r hr;unfold vE at this;rw[Bool.and_eq_true,decide_eq_true_eq,decide_eq_true_eq]at this;exact⟨this.1,Em this.2⟩
   have uS:∀r ∈ L,Ti r:=fun r hr=>⟨⟨by have:=(xk r hr).2;omega,iu r hr⟩,by have:=(xk r hr).1;omega⟩
   have dZ:∀r ∈ L,r.es.length<=1000:=fun r hr=>by have:=(xk r hr).1;omega
   have Um:∀r ∈ L,dV r.p<=100000:=fun r hr=>by have:=xk r hr;omega
   have D3:∀r ∈ L,dV r.p<=100000/\r.es.length<=100000:=fun r hr=>by have:=xk r hr;omega
   clear FY xk iu;refine mI rD Ul ?_;refine gQ (f9 ρ (hL.agr (a2.le hb)) Z Z D3) ?_;rintro⟨own,M3,n3⟩ ⟨g1,g2,g3⟩;unfold KE at g1;simp only at g1 g2 g3;obtain⟨UX,hlo1,g1⟩:∃UX,nx+1<=UX/\oK M3 (fun k=>UX<=k/\k<n3) own L:=⟨_,Z,g1⟩;have z7:=(g2 nx Z).trans z7;have a3:aq nx M M3:=a2.trans (g2.le Z);clear g2 a2;refine bR rD ?_;refine gQ (jU hS hN ρ j9 (g1.at (b:=n3) fun k hk=>hk.2) Z Z uS fun Gs=>B4 sS dZ Gs) ?_;rintro⟨u,M4,n4⟩ ⟨cn,rl,Y_,k2,k3⟩;simp only at k2 k3;rcases k3 with ⟨je,hu,k4⟩ | ⟨je,h,N,cr,hu,hF,k4,_⟩
   ·subst hu
    have a4:aq nx M M4:=a3.trans (k4.le Z);clear k4 Y_ g1 uS D3;refine mI rD je ?_;refine lG (WV ρ _ _) fun M5 n5 q2 q3=>?_
    refine mI rD je ?_;refine gQ (hw _ _) ?_;rintro⟨u,M6,n6⟩ ⟨q4,q5⟩;simp only at q4 q5;subst q4;refine mI rD je ?_;exact a4.trans ((q2.le Z).trans (q5.le Z))
   ·subst hu
    subst je;have Gs:∀j r,L[j]?=some r->eA (L.take j) r=0:=by
     obtain⟨q1,q2 | ⟨r,_,q3,q4⟩⟩:=Y_
     ·intro j r hj
      have:=(List.getElem?_eq_some_iff.1 hj).1;exact q1 j r Z hj
     ·exact(q4 rfl).elim
    have vW:=(zT sS dZ Gs).wr L.length cr;have F6:=vW.nmod;have hnu:=vW.numsOk;clear vW Y_ uS;obtain⟨VZ,hlo2,hF⟩:∃VZ,n3<=VZ/\HF M4 n4 N VZ h ((jN L).wr L.length cr):=⟨_,Z,hF⟩;have Yl:aq n3 M3 M4:=k4.le Z;clear k4;refine bR rD ?_;refine gQ (mJ ρ (hL.agr ((a3.trans (Yl.le Z)).le hb)) Z Z D3).out ?_;rintro⟨vr,M5,n5⟩ ⟨⟨g4,g5,g6⟩,cF,_⟩;unfold KE at g4;simp only at g4 g5 g6 cF;obtain⟨V0,hlo3,g4⟩:∃V0,n4<=V0/\oK M5 (fun k=>V0<=k/\k<n5) vr L:=⟨_,Z,g4⟩;have Ym:aq n4 M4 M5:=g5.le Z;have NM:=hF.agr Ym (nx':=n5) Z;have oy:Pi N M5:=NM.mu.sub;have yN:=NM.ge;obtain⟨hi,vg,hH⟩:=NM.at';clear g5 hF NM hL D3;refine bR rD ?_;refine gQ (ar.frame oy (k9 hI ρ j9 hH Z hnu Z)) ?_;rintro⟨u,M6,n6⟩ ⟨N',⟨o,F,q1,hO,hB,YE,YF,q2,q3⟩,YG⟩;simp only at q1 hO hB q2 q3 YG;subst q1;obtain⟨a6,Og⟩:=YG.agr oy q2 (fun k o hk=>by have:=(cF k o hk).1;omega);have sy:∀k y,gG N' k=some y->VZ<=k:=fun k y hy=>by
     by_cases hk:k<n5
     ·exact yN k y ((q2 k Z).symm.trans hy)
     ·have:=hH.lo_lt
      omega
    have bA:∀x,(F x).getD []=gX L x:=zW sS Gs dZ YE YF;have UO:=IB sS Gs dZ YE YF;have MK:=fun x=>(v_ L x).2
    have Yn:aq n5 M5 M6:=a6.le Z;clear YE YF YG cF hH yN oy hnu F6 a6 q2;have Vk:aq n3 M3 M6:=Yl.trans ((Ym.le Z).trans (Yn.le Z));have z7:=(Vk nx Z).trans z7;have YZ:oK M6 (fun k=>V0<=k/\k<n5) vr L:=g4.keep fun q hq=>⟨Yn q hq.2,hq⟩
    have US:∀q,n5<=q->aO q vr=true:=by
     obtain⟨row,a9,_⟩:=YZ;exact fun q hq=>a9.klt fun k hk=>by have:=hk.2;omega
    have aQ:∀q,n6<=q->aO q (.mp o 0)=true:=fun q hq=>by
     have:=hO.1;simp only[aO,blt_eq];omega
    obtain⟨p,hp⟩:∃p:Nat->Prop,p=fun k=>UX<=k/\k<n3:=⟨_,rfl⟩
    have Gq:∀q,p q->UX<=q/\q<n3:=fun q hq=>by rw[hp]at hq;exact hq
    have Bd:oK M6 p own L:=g1.keep fun q hq=>⟨Vk q hq.2,by rw[hp];exact hq⟩
    have aM6:aq nx M M6:=a3.trans (Vk.le Z);clear hp g1 g4 Yl Ym Yn Vk a3;obtain⟨row,YU,T7⟩:=Bd;have ay:=fun N=>(YU.at (b:=n6) fun q hq=>by have:=Gq q hq;omega).len (P:=am) (t:=22) jp.2.2.2.2.2 N
    refine bR rD ?_;refine aC (fun m' s=>∃i:Nat,i<=L.length/\m'=L.length - i/\gG s.env 1=some (.int .u64 x)/\gG s.env 3=some (.int .i64 pos)/\gG s.env 4=some (.int .i64 writer)/\gG s.env 7=some (.mp nx 0)/\gG s.env 11=some own/\gG s.env 15=some vr/\gG s.env 16=some (.mp o 0)/\gG s.env 17=some (.int .i64 i)/\q8 p M6 s.M/\(∀q:Nat,q<n6->¬ p q->gG s.M q=gG M6 q)/\n6<=s.nx) L.length ⟨0,Z,Z,?_⟩ ?_
    ·refine bR rD ?_
     exact⟨q8.refl _ _,fun _ _ _=>trivial,Z⟩
    ·rintro m' ⟨env,M7,n7⟩ ⟨i,hi',ir,e1,e3,e4,e7,kW,gW,pE,CB,hM,ho,hn⟩
     simp only at e1 e3 e4 e7 kW gW pE CB hM ho hn;by_cases aL:(i:Int)<L.length
     ·have aP:i<L.length:=Z
      have bV:=eF i;obtain⟨r,hr⟩:∃r,L[i]?=some r:=⟨L[i],by simp[aP]⟩;obtain⟨row',YV,MD⟩:=YU.like hM;obtain⟨r',NN,mr,F8⟩:=lg.like hM (T7 i r hr) ((MD.drop (i*11)).take 11);have h_:=dZ r (mem_of_getElem? hr);have Zo:dV r'.p<=100000:=by rw[mr];exact(Um r (mem_of_getElem? hr))
      obtain⟨pk,pa,pb,pv,ve,DZ,⟨p1,p2⟩,⟨q1,q2⟩⟩:=NN.cells;rw[DZ]at NN;obtain⟨VF,Gn,⟨_,h0⟩ | ⟨k,hk0,Q3,YM⟩⟩:=YV
      ·omega
      ·have QP:=(Gq k Q3).2
       have rC:(i+1)*11<=L.length*11:=mul_le_mul_right _ aP;have bC:∀kk,br am 22 own (.int kk (i:Int))=some (.mp k (i*11)):=fun kk=>by
        rw[hk0,cy,jp.2.2.2.1,ev _ _ _ _ _ Z Z];simp
       have aU:b_ am M7 43 (.mp k (i*11))=some ⟨.agg [.int .i64 r'.kind,.int .u64 r'.t,.int .u64 r'.x,.int .u64 r'.w,.int .u64 r'.n,.int .u64 r'.v,.int .i64 pk,.int .u64 pa,.int .u64 pb,pv,ve],[k],[]⟩:=by
        rw[fG (by unfold vR;rw[YM]) iY.1 Z,DZ]
       refine ii rD e1 e3 e4 e7 kW gW pE CB ay aL (aI bC aU) ?_;refine gQ (mA ρ NN (fun q hq=>by have:=Gq q hq;omega) Zo Z) ?_;rintro⟨u,M8,n8⟩ ⟨g1,g2,g3,g4⟩;simp only at g1 g2 g3 g4;subst g1;obtain⟨oQ,YL,QU⟩:=g2 k Q3 _ YM;have MG:oQ.length=L.length*11:=by rw[QU.len,Gn]
       obtain⟨a,hga⟩:=SM DZ QU;obtain⟨x1,VV⟩:∃x1,IntKind.u64.wrap (a+1)=x1:=⟨_,rfl⟩;have dJ:b_ am M8 23 (.mp k (i*11+2))=some ⟨.int .u64 a,[k],[]⟩:=dB (by unfold vR;rw[YL]) bi.1 hga;clear DZ MD QU Gn NN YM aU;refine ii rD e1 e3 e4 e7 kW gW pE CB ay bC (aI dJ (aI VV (aI YL (aI MG bV)))) ?_;refine⟨L.length - (i+1),Z,i+1,Z,rfl,rfl,(hM.trans g2).trans (q8.put YL hga (.inr (.inl ⟨_,_,_,rfl,rfl⟩))),fun q h1 h2=>?_,Z⟩;rw[if_neg (show ¬ aw k q from fun e=>h2 (e ▸ Q3)),g3 q Z h2];exact ho q h1 h2
     ·refine dw rD e1 e3 e4 e7 kW gW pE CB ay aL ?_
      have hnp:∀q,n3<=q->¬ p q:=fun q h1 h2=>by have:=Gq q h2;omega
      have YJ:Kp n6 N' M7:=fun q y hq hy=>by
       rw[ho q hq (hnp q (by have:=sy q y hy;omega))];exact Og q y hy
      have Y0:cP M7 n6 vr L:=(YZ.keep (q:=fun k=>k<n6) fun q hq=>⟨ho q (by have:=hq.2;omega) (hnp q (by have:=hq.1;omega)),by have:=hq.2;omega⟩).at fun q hq=>hq
      have z7:=(ho nx Z fun h=>by have:=Gq nx h;omega).trans z7;have aM7:aq nx M M7:=fun q hq=>(ho q Z fun h=>by have:=Gq q h;omega).trans (aM6 q hq)
      have YT:=hO.kp YJ;have TX:=Kv hO hB YJ;clear ay YU T7 hM ho YJ YZ hO hB Og sy kW CB aM6;refine gQ (nZ ρ Y0 Z Z dZ) ?_;rintro⟨vw,M8,n8⟩ ⟨ol,JY,g1,g2,g3⟩;simp only at g1 g2 g3;have hWl:(gV (jk L) ol 0).length<=1002000:=by
       have:=rt (L:=L) Z dZ;have:=dS (jk L) ol 0;have:=JY.len;omega
      obtain⟨W,hW⟩:∃W,W=gV (jk L) ol 0:=⟨_,rfl⟩;rw[<-hW]at g1 hWl;have T3:=YT.agr (g2.le Z);have hB8:=Ai YT TX (g2.le Z);have Y1:=Y0.agr (g2.le Z);have z7:=(g2 nx Z).trans z7;have aM8:aq nx M M8:=aM7.trans (g2.le Z);have hsW:=g1.at (Nat.le_refl n8);have QT:=fun N=>hsW.len (P:=am) (t:=44) fu.2.2.2.2.2 N
      clear YT TX Y0 g2 aM7;refine gw rD e1 e3 e4 e7 gW pE ?_;refine aC (fun m' s=>∃t:Nat,t<=2/\m'=2 - t/\gG s.env 1=some (.int .u64 x)/\gG s.env 3=some (.int .i64 pos)/\gG s.env 4=some (.int .i64 writer)/\gG s.env 7=some (.mp nx 0)/\gG s.env 15=some vr/\gG s.env 16=some (.mp o 0)/\gG s.env 18=some vw/\gG s.env 19=some (.int .i64 t)/\aq n8 M8 s.M/\n8<=s.nx) 2 ⟨0,Z,Z,?_⟩ ?_
      ·refine gw rD e1 e3 e4 e7 gW pE ?_
       exact⟨aq.refl _ _,Z⟩
      ·rintro m' ⟨env,M9,n9⟩ ⟨t,ht,ir,e1,e3,e4,e7,gW,pE,vT,vU,ha,hn⟩
       simp only at e1 e3 e4 e7 gW pE vT vU ha hn;have bV:=eF t;by_cases aL:(t:Int)<2
       ·refine dp rD e1 e3 e4 e7 gW pE vT vU aL ?_
        refine gQ (ni hS hN ρ j9 (T3.agr (ha.le Z)) Z (Ai T3 hB8 (ha.le Z))).out ?_;rintro⟨got,Ma,na⟩ ⟨⟨⟨ys,y1,y2,y3,y4,y5⟩,k2,k3⟩,cF,_⟩;simp only at y5 k2 k3 cF;have Oi:W=ys:=hW.trans (EJ JY (fun z=>(y1 z).trans (UO z)) y2 y3);subst Oi;have uU:=fun N=>y5.sl.len (P:=am) (t:=44) fu.2.2.2.2.2 N
        have aa:aq n8 M8 Ma:=ha.trans (k2.le Z);obtain⟨lo4,hlo4,Up⟩:∃lo4,n8<=lo4/\((got = .nils/\W.length=0)\/∃K,got = .sl K 1 0 W.length W.length/\lo4<=K/\K<na/\gG Ma K=some (.row (W.map (XV.int .u64)))):=by
         obtain⟨_,_,h0 | ⟨_,K,k1,k2,k3,_,k4⟩⟩:=y5
         ·exact⟨n8,Z,.inl h0⟩
         ·exact⟨_,Z,.inr ⟨K,k1,k2,k3,k4⟩⟩
        clear y5 k2 y1 y2 y3 hW;refine dw rD e1 e3 e4 e7 gW pE vT vU uU QT ?_;refine aC (fun m' s=>∃(i:Nat) (cw:List XV),i<=W.length/\m'=W.length - i/\gG s.env 1=some (.int .u64 x)/\gG s.env 3=some (.int .i64 pos)/\gG s.env 4=some (.int .i64 writer)/\gG s.env 7=some (.mp nx 0)/\gG s.env 15=some vr/\gG s.env 16=some (.mp o 0)/\gG s.env 18=some vw/\gG s.env 19=some (.int .i64 t)/\gG s.env 20=some got/\gG s.env 21=some (.int .i64 i) /\
         (∀K,got = .sl K 1 0 W.length W.length->gG s.M K=some (.row cw))/\cw.length=W.length/\(∀j z,i<=j->W[j]?=some z->cw[j]?=some (.int .u64 z))/\aq n8 M8 s.M/\Cl s.nx s.M/\na<=s.nx) W.length ⟨0,W.map (XV.int .u64),Z,Z,?_⟩ ?_
        ·refine CU rD e1 e3 e4 e7 gW pE vT vU ?_
         refine⟨fun K hK=>?_,ae,fun j z _ hj=>by rw[getElem?_map,hj];rfl,aa,cF.le Z,Z⟩;rcases Up with ⟨h0,_⟩ | ⟨K',h0,_,_,h1⟩
         ·rw[hK]at h0;cases h0
         ·rw[hK]at h0;cases h0;exact h1
        ·rintro m'' ⟨env,Mc,nc⟩ ⟨i,cw,hi,ZN,e1,e3,e4,e7,gW,pE,vT,vU,FV,TS,NU,Uj,Ue,ha,Ms,hn⟩
         simp only at e1 e3 e4 e7 gW pE vT vU FV TS NU ha Ms hn;by_cases aL:(i:Int)<W.length
         ·have aP:i<W.length:=Z
          have F_:=eF i;obtain⟨z,hz⟩:∃z,W[i]?=some z:=⟨W[i]' Z,getElem?_eq_getElem Z⟩;rcases Up with ⟨_,h0⟩ | ⟨K,hK,Gg,Gh,_⟩
          ·omega
          ·have YK:=NU K hK
           have bC:∀kk,br am 44 got (.int kk (i:Int))=some (.mp K i):=fun kk=>by
            rw[hK,cy,fu.2.2.2.1,ev _ _ _ _ _ Z Z];simp
           have aU:b_ am Mc 23 (.mp K i)=some ⟨.int .u64 z,[K],[]⟩:=dB (by unfold vR;rw[YK]) bi.1 (Ue i z (Nat.le_refl _) hz);obtain⟨n',oo,jw,iN,mi⟩:=hsW.fldG (P:=am) aP (t:=44) fu.2.2.2.1;have dJ:=mi 0 (.int .u64 z) Z (by rw[eT nu hz];rfl) 23 1 bi.1 Mc ha;rw[Nat.add_zero]at dJ;clear mi;have z7:=(ha nx Z).trans z7;refine ii rD e1 e3 e4 e7 gW pE vT vU FV TS (aI aL (aI uU (aI bC (aI iN (aI aU (aI dJ z7)))))) ?_;refine bF (by(refine bR rD ?_;try exact⟨⟩)) rfl ?_;refine ii rD e1 e3 e4 e7 gW pE vT vU FV TS (aI aL (aI uU (aI bC (aI iN (aI aU (aI dJ z7)))))) ?_;refine aT (bN.read (v:=.bool true) (Ms.le Z) (by simp only[aE];rw[aQ _ Z,US _ Z];rfl) rfl fun N hN=>oF ρ (T3.agr ((ha.trans (hN.le Z)).le Z)) (Y1.agr ((ha.trans (hN.le Z)).le Z)) Z Z z w n pos writer (bA z) (MK z)) af ?_;refine ii rD e1 e3 e4 e7 gW pE vT vU FV TS (aI aL (aI uU (aI bC (aI iN (aI aU (aI dJ (aI z7 (aI @aA (aI YK (aI Uj F_)))))))))) ?_;have gE:i+[XV.int .u64 77].length<=cw.length:=by simp only[length_cons,length_nil];omega
           refine⟨W.length - (i+1),Z,i+1,_,Z,rfl,rfl,fun K1 Gg=>?_,by rw[ib _ _ _ gE];exact Uj,fun j z' hj Rb=>?_,fun q hq=>?_,?_,Z⟩
           ·rw[hK]at Gg
            cases Gg;exact if_pos rfl
           ·have:=congrArg (·[j - (i+1)]?) (iH cw i (i+1) [XV.int .u64 77] gE (Nat.le_refl _))
            simp only[getElem?_drop]at this;rw[show i+1+(j - (i+1))=j by omega]at this;rw[this];exact Ue j z' Z Rb
           ·rw[ao,if_neg (fun e=>by have e:K=q:=e;omega)]
            exact ha q hq
           ·exact(Ms.le Z).set Z (by simp only[cp];exact rI gE (aE.le (le_add_right nc 32) (by have:=(Ms K _ YK).2;simpa only [cp] using this)) rfl)
         ·refine ii rD e1 e3 e4 e7 gW pE vT vU FV TS (aI aL (aI uU bV)) ?_
          exact⟨2 - (t+1),Z,t+1,Z,Z,rfl,ha,Z⟩
       ·have z7:=(ha nx Z).trans z7
        refine dw rD e1 e3 e4 e7 gW pE vT vU aL z7 ?_;refine lG (oF ρ (T3.agr (ha.le Z)) (Y1.agr (ha.le Z)) Z Z x w n pos writer (bA x) (MK x)) fun Mb nb k2 k3=>?_
        have qJ:=ha.trans (k2.le Z);refine CU rD e1 e3 e4 e7 gW pE vT vU ?_;refine lG (oF ρ (T3.agr (qJ.le Z)) (Y1.agr (qJ.le Z)) Z Z x 0 0 pos writer (bA x) (MK x)) fun Mc nc k5 k6=>?_
        have RL:=qJ.trans (k5.le Z);refine CU rD e1 e3 e4 e7 gW pE vT vU ?_;refine gQ (hw _ _) ?_;rintro⟨u,Md,nd⟩ ⟨q1,q2⟩;simp only at q1 q2;subst q1;refine bR rD ?_;exact(aM8.trans (RL.le Z)).trans (q2.le Z)
end
end Go.Xs
namespace Go.Xs
open List Nat Option
variable{M:Hp}{nx:Nat}
noncomputable section
open Go.Proofs
def encB (k:Int):List XV:=[.int .u8 k]
theorem Da.of {lo hi:Nat} {v:XV} {l:List Int} (h:di M lo hi v 1 encB l) (hl:∀k ∈ l,0<=k/\k<256):Da M hi v l.length:=by
 obtain⟨h1,h2,⟨rfl,h3⟩ | ⟨K,rfl,⟨k1,k2⟩,h4⟩⟩:=h
 ·exact⟨h1,.inl ⟨rfl,h3⟩⟩
 ·refine⟨h1,.inr ⟨K,0,_,_,rfl,Nat.le_refl _,k2,by unfold vR;rw[h4],Z,fun j x _ hj hx=>?_⟩⟩
  have e:l.flatMap encB=l.map fun k=>.int .u8 k:=by
   clear h1 h2 h4 hl hj hx
   induction l with
   | nil=>rfl
   | cons a l ih=>rw[flatMap_cons,ih];rfl
  rw[e,getElem?_map]at hx;cases hk:l[j]? with
  | none=>rw[hk]at hx;cases hx
  | some k=>rw[hk]at hx;cases hx;exact⟨k,rfl,hl k (mem_of_getElem? hk)⟩
theorem wrap_byte (k:Int):0<=IntKind.u8.wrap k/\IntKind.u8.wrap k<256:=by
 rw[IntKind.wrap_u8];omega
theorem ar.le {P:Program} {ρ:aK} {g:Nat} {args:List XV} {R:ew->Prop} (h:ar P ρ g args M nx R):ar P ρ g args M nx fun r=>R r/\nx<=r.2.2:=by
 have h0:∀{R},ft P ρ g args M nx R->ft P ρ g args M nx fun r=>R r/\nx<=r.2.2:=fun h=>h.imp fun w σ r v w' aQ f8 hr hp=>⟨r,⟨hr,by obtain⟨_,_,_,_,h,_⟩:=hp;exact h⟩,hp⟩
 refine⟨h0 h.1,fun hd ⟨r0,mP⟩=>?_⟩;obtain⟨r,h1,h2⟩:=h.2 hd ⟨r0,mP.1⟩;by_cases hc:nx<=r.2.2
 ·exact⟨r,⟨h1,hc⟩,h2⟩
 ·exact⟨r0,mP,(h0 h2).mono fun x hx=>by obtain⟨rfl,hx⟩:=hx;exact(hc hx).elim⟩
theorem f6 (hS:kL) (hN:kJ) (hI:Ci) (ρ:aK) (j9:ρ.det=false)
 (hw:∀M' n',ar am ρ 8 [] M' n' fun r=>r.1 = .bool true/\aq n' M' r.2.1) :
 ar am ρ 6 [] M nx fun r=>r.1 = .bool true/\aq nx M r.2.1:=by
 refine ar.wk 77 [.tmp 0] Tryz.func6 ?_;refine bR AB ?_;refine aC (fun m' s=>∃(i:Nat) (k:Int),i<=40/\m'=40 - i/\0<=k/\k<100003/\gG s.env 0=some (.bool false)/\gG s.env 1=some (.int .i64 k)/\gG s.env 2=some (.int .i64 i)/\aq nx M s.M/\nx<=s.nx) 40 ⟨0,1,Z,Z,Z,Z,?_⟩ ?_
 ·refine bR AB ?_
  exact⟨aq.refl _ _,Z⟩
 ·rintro m' ⟨env,M',nx'⟩ ⟨i,k,hi,ir,hk0,Bi,e0,e1,e2,ha,hn⟩
  simp only at e0 e1 e2 ha hn;by_cases aL:(i:Int)<40
  ·refine mY AB e0 e1 e2 aL ?_
   refine aC (fun m' s=>∃(n:Nat) (k:Int) (vv:XV) (l:List Int),n<=120/\m'=120 - n/\0<=k/\k<100003/\l.length=n/\(∀k ∈ l,0<=k/\k<256)/\gG s.env 0=some (.bool false)/\gG s.env 1=some (.int .i64 k)/\gG s.env 2=some (.int .i64 i)/\gG s.env 3=some vv/\gG s.env 4=some (.int .i64 n)/\di s.M nx' s.nx vv 1 encB l/\aq nx' M' s.M/\nx'<=s.nx) 120 ⟨0,k,.nils,[],Z,Z,Z,Z,rfl,fun k h=>by simp at h,?_⟩ ?_
   ·refine ti AB e0 e1 e2 ?_
    exact⟨dG.nil _ _,aq.refl _ _,Z⟩
   ·rintro m' ⟨env,M2,n2⟩ ⟨n,k,vv,l,bT,ir,hk0,Bi,hl,hb,e0,e1,e2,e3,e4,hv,jX,fq⟩
    simp only at e0 e1 e2 e3 e4 hv jX fq;by_cases F1:(n:Int)<120
    ·have dX:=hv.push (IntKind.u8.wrap k) am 75 1 [.int .u8 0] Z Z rfl (by simp only[fE];omega) rfl
     simp only[encB]at dX;have qC:=eF n;have hkw:IntKind.i64.wrap (IntKind.i64.wrap (IntKind.i64.wrap (k*31)+IntKind.i64.wrap (7*(n:Int)))+11)=k*31+7*n+11:=by
      rw[wrap_i64 (n:=k*31) Z Z,wrap_i64 (n:=7*(n:Int)) Z Z,wrap_i64 (n:=k*31+7*(n:Int)) Z Z,wrap_i64 Z Z]
     refine dp AB e0 e1 e2 e3 e4 F1 dX qC hkw ?_;refine⟨120 - (n+1),Z,n+1,_,_,l++[IntKind.u8.wrap k],Z,rfl,Int.tmod_nonneg _ Z,Int.tmod_lt_of_pos _ Z,by simp[hl],fun x hx=>?_,rfl,rfl,rfl,hv.pushed (IntKind.u8.wrap k) Z Z rfl Z,fun q hq=>?_,Z⟩
     ·rw[mem_append,mem_singleton]at hx
      rcases hx with hx | rfl
      ·exact hb x hx
      ·exact wrap_byte k
     ·rw[dG.push_old hv _ (.inl hq) Z]
      have:=jX q hq;exact J
    ·refine gw AB e0 e1 e2 e3 e4 F1 ?_
     refine gQ (Yu ρ (Da.of hv hb) Z _) ?_;rintro⟨u,M3,n3⟩ ⟨⟨L,hL,_,hp⟩,g2,g3⟩;simp only at hL g2 g3;have a3:aq nx M M3:=ha.trans ((jX.le Z).trans (g2.le Z));clear hv hb jX g2 ha;refine ti AB e0 e1 e2 ?_;generalize hE:ci _ 47 _=E;have t0:gG E 0=some (.bool false):=by rw[<-hE];exact J
     have t1:gG E 1=some (.int .i64 k):=by rw[<-hE];exact J
     have t2:gG E 2=some (.int .i64 i):=by rw[<-hE];exact J
     have t5:gG E 5=some u:=by rw[<-hE];exact J
     clear hE e0 e1 e2 e3 e4;refine gQ (f3 hS hN hI ρ j9 hL Z hp _ _ _ _ _ hw).le ?_;rintro⟨u4,M4,n4⟩ ⟨⟨g4,g5⟩,g6⟩;simp only at g4 g5 g6;subst g4;have a4:=a3.trans (g5.le Z);refine mY AB t0 t1 t2 t5 ?_;refine gQ (f5 hS hN hI ρ j9 (hL.agr (g5.le Z)) Z hp fun M' n' _ _=>hw M' n').le ?_;rintro⟨u5,M5,n5⟩ ⟨⟨g7,g8⟩,g9⟩;simp only at g7 g8 g9;subst g7;have a5:=a4.trans (g8.le Z);clear hL hp g5 g8 a3 a4;refine mY AB t0 t1 t2 t5 ?_;have bV:IntKind.u64.wrap ((i:Int).tmod 2)=0\/IntKind.u64.wrap ((i:Int).tmod 2)=1:=by
      rw[Int.tmod_eq_emod_of_nonneg Z,wrap_u64 Z Z];omega
     refine gQ (f4w ρ _ _ _ _ _ bV).le ?_;rintro⟨u6,M6,n6⟩ ⟨⟨g1,g2⟩,g3⟩;simp only at g1 g2 g3;subst g1;have F_:=eF i;refine iC AB t0 t1 t2 t5 F_ ?_;exact⟨40 - (i+1),Z,i+1,k,Z,rfl,hk0,Bi,rfl,rfl,a5.trans (g2.le Z),Z⟩
  ·refine mY AB e0 e1 e2 aL ?_
   generalize hE:ci _ 66 _=E;clear hE;refine gQ (f3 hS hN hI ρ j9 (L:=[]) (b:=nx') ⟨[],⟨ae,.inl ⟨rfl,rfl,rfl⟩⟩,fun j x h=>by simp at h⟩ Z (fun r h=>by simp at h) _ _ _ _ _ hw).le ?_;rintro⟨u4,M4,n4⟩ ⟨⟨g4,g5⟩,g6⟩;simp only at g4 g5 g6;subst g4;have a4:=ha.trans (g5.le Z);clear g5 ha;refine bR AB ?_;generalize hE:ci _ 71 _=E;have t68:gG E 68=some (.bool true):=by rw[<-hE];exact J
   clear hE;have hL:cP (ci M4 (n4+2) (.row [.int .i64 6,.int .u64 1,.int .u64 0,.int .u64 0,.int .u64 0,.int .u64 0,.int .i64 0,.int .u64 0,.int .u64 0,.nils,.nils])) (n4+4) (.sl (n4+2) 11 0 1 1) [⟨6,1,0,0,0,0,.mk 0 0 0 [],[]⟩]:=by
    refine⟨_,⟨ae,.inr ⟨n4+2,0,1,_,rfl,Z,by unfold vR;rw[ao,if_pos rfl],ae,rfl⟩⟩,fun j r h=>?_⟩;cases j with
    | zero =>
      simp only[getElem?_cons_zero,Option.some.injEq]at h;subst h;exact⟨[.int .i64 0,.int .u64 0,.int .u64 0,.nils],.nils,rfl,⟨.nils,[],rfl,⟨ae,.inl ⟨rfl,rfl,rfl⟩⟩,trivial⟩,⟨ae,.inl ⟨rfl,rfl,rfl⟩⟩⟩
    | succ j=>simp at h
   refine gQ (f3 hS hN hI ρ j9 hL Z (fun r h=>by rw[mem_singleton]at h;subst h;simp[gI,o_]) _ _ _ _ _ hw).le ?_;rintro⟨u5,M5,n5⟩ ⟨⟨g1,g2⟩,g3⟩;simp only at g1 g2 g3;subst g1;have a5:aq nx M M5:=fun q hq=>(g2 q Z).trans ((by rw[ao,if_neg Z]:gG (ci M4 (n4+2) _) q=gG M4 q).trans (a4 q hq))
   refine mI AB t68 ?_;refine gQ (hw _ _) ?_;rintro⟨u6,M6,n6⟩ ⟨k1,k2⟩;simp only at k1 k2;subst k1;refine bR AB ?_;exact a5.trans (k2.le Z)
end
end Go.Xs
namespace Go.Xs
open List Nat Option
variable{hi:Nat}
noncomputable section
open Go.Proofs Go.Sort
variable {α:Type} [Inhabited α]
def yh (rwo:Array α->bx) (nx k:Nat) (M:Hp) (d':Array α) (r:ew):Prop:=r.1 = .tup []/\(gG r.2.1 k=some (rwo d')/\d'.size<=1000)/\bK nx k M r.2.1/\nx<=r.2.2
def LA (rwo:Array α->bx) (nx k:Nat) (M:Hp) (v:XV) (d':Array α) (r:ew):Prop:=r.1=v/\(gG r.2.1 k=some (rwo d')/\d'.size<=1000)/\bK nx k M r.2.1/\nx<=r.2.2
def To (lt:α->α->Bool) (a b n:Nat) (d0:Array α) (m i:Nat) (d':Array α):Prop:=a<i/\i<=b+1/\m=b+1 - i/\d'.size=n/\insOuter lt a b i d'=insertionSort lt d0 a b
def S3 (a b n:Nat) (d0:Array α) (m i j:Nat) (d':Array α):Prop:=a<=i/\i<=j+1/\j<b/\m=j+1 - i/\d'.size=n/\reverseLoop i j d'=reverseRange d0 a b
def aaa (lt:α->α->Bool) (hi first root n:Nat) (d0:Array α) (m r:Nat) (d':Array α):Prop:=r<=1000/\m=hi - r/\d'.size=n/\siftDown lt hi first r d'=siftDown lt hi first root d0
theorem SW {lt:α->α->Bool} {first r:Nat} {d:Array α} (h:¬ hi<=2*r+1) (h2:2*r+2<hi) (h3:lt d[first+(2*r+1)]! d[first+(2*r+2)]! = true) :
 siftDown lt hi first r d=if (!lt d[first+r]! d[first+(2*r+2)]!)=true then d else siftDown lt hi first (2*r+2) (swp d (first+r) (first+(2*r+2))):=by
 rw[siftDown,dif_neg h,if_pos (by rw[show first+(2*r+1)+1=first+(2*r+2) by omega,h3];simp;omega),dif_pos h2]
theorem R1 {lt:α->α->Bool} {first r:Nat} {d:Array α} (h:¬ hi<=2*r+1) (h2:¬ (2*r+2<hi/\lt d[first+(2*r+1)]! d[first+(2*r+2)]! = true)) :
 siftDown lt hi first r d=if (!lt d[first+r]! d[first+(2*r+1)]!)=true then d else siftDown lt hi first (2*r+1) (swp d (first+r) (first+(2*r+1))):=by
 rw[siftDown,dif_neg h,if_neg (by rw[show first+(2*r+1)+1=first+(2*r+2) by omega];simpa using h2)]
def aaf (lt:α->α->Bool) (a b n:Nat) (d0:Array α) (m kk:Nat) (d':Array α):Prop:=kk<=1000/\m=kk/\d'.size=n/\heapPop lt a (b - a) (heapBuild lt (b - a) a kk d')=heapSort lt d0 a b
def aab (lt:α->α->Bool) (a b n:Nat) (d0:Array α) (m kk:Nat) (d':Array α):Prop:=kk<=b - a/\m=kk/\d'.size=n/\heapPop lt a kk d'=heapSort lt d0 a b
def TH (lt:α->α->Bool) (a b n:Nat) (R:Nat×Array α) (m i j:Nat) (d':Array α):Prop:=a<i/\i<=j+1/\j<b/\m=j+1 - i/\d'.size=n/\partEqLoop lt a i j d'=R
def aae (lt:α->α->Bool) (a b n:Nat) (R:Nat×Array α) (m i j:Nat) (d':Array α):Prop:=a<i/\i<=j+1/\j<b/\m=j+1 - i/\d'.size=n/\partLoop lt a i j d'=R
def aad (lt:α->α->Bool) (a b n:Nat) (R:Array α×Bool) (m jj i:Nat) (d':Array α):Prop:=a<i/\i<=b/\jj<=5/\m=5 - jj/\d'.size=n/\partialIns lt a b (5 - jj) i d'=R
def Sw (rwo:Array α->bx) (nx k n:Nat) (M:Hp) (a b:Nat) (d:Array α) (r:ew):Prop:=r.1 = .tup []/\(∃d':Array α,d'.size=n/\PermIn a b d d'/\gG r.2.1 k=some (rwo d'))/\bK nx k M r.2.1/\nx<=r.2.2
def aag (a b n:Nat) (d:Array α) (i0 m i:Nat) (d':Array α):Prop:=i0<=i/\i<=i0+3/\m=i0+3 - i/\d'.size=n/\PermIn a b d d'
def Mf (lt:α->α->Bool) (rwo:Array α->bx) (nx k n:Nat) (M:Hp) (a b:Nat) (d:Array α) (r:ew):Prop:=r.1 = .tup []/\(∃d':Array α,d'.size=n/\(PermIn a b d d'/\SortedIn lt a b d')/\gG r.2.1 k=some (rwo d'))/\bK nx k M r.2.1/\nx<=r.2.2
structure Sy (tS tE:Nat) (rwo:Array α->bx) (enc:α->XV) (k n:Nat) (sv:XV) (off:Nat->Nat):Prop where
 ix:∀i,i<n->∀kd,br am tS sv (.int kd (i:Int))=some (.mp k (off i))
 ld:∀M (d:Array α),gG M k=some (rwo d)->d.size=n->∀i,i<n->b_ am M tE (.mp k (off i))=some ⟨enc d[i]!,[k],[]⟩
 st:∀M (d:Array α),gG M k=some (rwo d)->d.size=n->∀i,i<n->∀x,jG am M tE (enc x) (.mp k (off i))=some ⟨.udf,[k],[(k,some (rwo (d.setIfInBounds i x)))]⟩
theorem Sy.sw {tS tE:Nat} {rwo:Array α->bx} {enc:α->XV} {k n:Nat} {sv:XV} {off:Nat->Nat} (A:Sy tS tE rwo enc k n sv off) (M:Hp) (d:Array α) (hM:gG M k=some (rwo d)) (hd:d.size=n) {i j:Nat} (hi:i<n) (hj:j<n) :
 (∀kd,br am tS sv (.int kd (i:Int))=some (.mp k (off i)))/\(∀kd,br am tS sv (.int kd (j:Int))=some (.mp k (off j))) /\
 b_ am M tE (.mp k (off i))=some ⟨enc d[i]!,[k],[]⟩/\b_ am M tE (.mp k (off j))=some ⟨enc d[j]!,[k],[]⟩ /\
 jG am M tE (enc d[j]!) (.mp k (off i))=some ⟨.udf,[k],[(k,some (rwo (d.setIfInBounds i d[j]!)))]⟩ /\
 jG am (ci M k (rwo (d.setIfInBounds i d[j]!))) tE (enc d[i]!) (.mp k (off j))=some ⟨.udf,[k],[(k,some (rwo ((d.setIfInBounds i d[j]!).setIfInBounds j d[i]!)))]⟩ :=
 ⟨A.ix i hi,A.ix j hj,A.ld M d hM hd i hi,A.ld M d hM hd j hj,A.st M d hM hd i hi _,A.st _ _ (by rw[ao,if_pos rfl]) aj j hj _⟩
structure AU (ρ:aK) (lt:Int->Int->Bool) (rwo:Array Int->bx) (enc:Int->XV) (k n:Nat) (sv:XV) (off:Nat->Nat):Prop extends Sy 44 23 rwo enc k n sv off where
 cs:∀N nx x y,bN am ρ 150 [enc x,enc y] N nx ⟨.bool (lt x y),[],[]⟩ nx
 hT:∀{x y},lt x y=true->lt x y=true
 hF:∀{x y},lt x y=false->lt x y=false
 swo:SWO lt
structure AI (ρ:aK) (lt:bO->bO->Bool) (rwo:Array bO->bx) (enc:bO->XV) (c:bO->bO->Int) (k n:Nat) (sv:XV) (off:Nat->Nat):Prop extends Sy 100 106 rwo enc k n sv off where
 cs:∀N nx x y,bN am ρ 40 [enc x,enc y] N nx ⟨.int .i64 (c x y),[],[]⟩ nx
 hT:∀{x y},lt x y=true->c x y<0
 hF:∀{x y},lt x y=false->¬ c x y<0
 swo:SWO lt
theorem au (ρ:aK) (k n:Nat):AU ρ ltInt dQ (XV.int .u64) k n (.sl k 1 0 n n) fun i=>i :=
 ⟨⟨(X4 k n).ix,(X4 k n).ld,(X4 k n).st⟩,fun _ _ _ _=>bN.pure rfl rfl fun N=>mH ρ N _ _ _,fun h=>h,fun h=>h,Fv⟩
theorem ai (ρ:aK) (k n:Nat):AI ρ cL dT (fun e=>.agg (aV e)) (fun x y=>xD x.wr y.wr) k n (.sl k 4 0 n n) fun i=>i*4 :=
 ⟨⟨(Yj k n).ix,(Yj k n).ld,(Yj k n).st⟩,fun _ _ _ _=>bN.pure rfl rfl fun N=>yW ρ N _ _ _,eK,eQ,Fx⟩
end
end Go.Xs
namespace Go.Xs
open List Nat Option
variable{M:Hp}{a b k n nx:Nat}{enc:Int->XV}{off:Nat->Nat}{rwo:Array Int->bx}{sv:XV}
noncomputable section
open Go.Proofs Go.Sort
theorem mc1 {P:Prop} (h:P:=by
 have hwa:=bu (x:=a) Z;refine mI gz.o hwa ?_;refine aC J0
  (b - a) ⟨a+1,d,?_⟩ ?_
 ·refine bR gz.o ?_
  exact⟨hM,bK.refl _ _ _,Z,Z,Z,Z,hd,rfl⟩
 ·rintro m ⟨env,M1,n1⟩ ⟨i,d1,e0,e1,e2,ec,e6,xu,ho,bT,h1,h2,h3,bv,hI⟩
  simp only at e0 e1 e2 ec e6 xu ho bT;rw[insOuter]at hI;by_cases aL:(i:Int)<b
  ·rw[if_pos Z]at hI
   have hI:=Is.mk hI;refine gw gz.o e0 e1 e2 e6 aL ec ?_;refine aC (J1 i d1)
    i ⟨d1,Z,?_⟩ ?_
   ·refine iC gz.o e0 e1 e2 e6 ec ?_
    exact⟨xu,bv,ho,Z,⟨rfl⟩⟩
   ·clear e0 e1 e2 e6 ec
    rintro j ⟨env,M2,n2⟩ ⟨d2,g1,e0,e1,e2,ec,e6,e7,aW,py,bJ,fq,⟨hJ⟩⟩;simp only at e0 e1 e2 ec e6 e7 aW bJ fq;have Q7:=bu (x:=i) Z;clear ho;by_cases JC:(a:Int)<j
    ·obtain⟨j',rfl⟩:∃j',j=j'+1:=⟨j - 1,Z⟩
     have UT:=fQ (x:=j') Z;have x1:=A.ix (j'+1) Z;have x2:=A.ix j' Z;have l1:=A.ld M2 d2 aW py (j'+1) Z;have l2:=A.ld M2 d2 aW py j' Z;have hJ:=Is.mk hJ;refine ii gz.o e0 e1 e2 e6 e7 JC UT x1 x2 l1 (aI l2 ec) ?_;refine bF ?_ rfl ?_
     ·refine bR gz.o ?_;try exact⟨⟩
     refine bR gz.o ?_;refine aT (A.cs _ _ _ _) af ?_;cases hq:lt d2[j'+1]! d2[j']! with
     | true =>
       have hc:=A.hT hq;have dg:=A.st M2 d2 aW py (j'+1) Z d2[j']!;have dh:=A.st (ci M2 k (rwo (d2.setIfInBounds (j'+1) d2[j']!))) _ J aj j' Z d2[j'+1]!;have uP:=hJ.eq;rw[insInner,hq,if_pos aj]at uP;have uP:=Is.mk uP;refine ii gz.o e0 e1 e2 e6 e7 hc UT x1 x2 l1 (aI l2 (aI dg (aI dh ec))) ?_;exact⟨j',Z,swp d2 (j'+1) j',Z,rfl,rfl,(by rw[swp_size];exact py),((bJ.set _).set _),Z,uP⟩
     | false =>
       have hc:=A.hF hq;have uP:=hJ.eq;rw[insInner,hq,if_neg ae]at uP;have bt:=hI.eq;rw[<-uP]at bt;have bt:=Is.mk bt;clear hI hJ uP;refine CU gz.o e0 e1 e2 e6 e7 hc Q7 ec ?_;exact⟨b+1 - (i+1),Z,i+1,d2,rfl,aW,bJ,Z,Z,Z,rfl,py,bt.eq⟩
    ·have uP:d2=insInner lt a i d1:=by rw[<-hJ];cases j with | zero=>rw[insInner] | succ j=>rw[insInner,if_neg aj]
     have bt:=hI.eq;rw[<-uP]at bt;have bt:=Is.mk bt;clear hI hJ uP;refine CU gz.o e0 e1 e2 e6 e7 JC Q7 ec ?_;refine cA ?_ af ?_
     ·refine bR gz.o ?_;try exact⟨⟩
     refine CU gz.o e0 e1 e2 e6 e7 JC Q7 ec ?_;exact⟨b+1 - (i+1),Z,i+1,d2,rfl,aW,bJ,Z,Z,Z,rfl,py,bt.eq⟩
  ·rw[if_neg Z]at hI
   subst hI;refine iQ gz.o e0 e1 e2 e6 aL @yh.eq_1 ec ?_;exact⟨⟨xu,Z⟩,ho,Z⟩
 ):P:=h
theorem XA (ρ:aK) {lt:Int->Int->Bool} (A:AU ρ lt rwo enc k n sv off) {d:Array Int} (hM:gG M k=some (rwo d)) (hd:d.size=n) (hk:k<nx) (hn:n<=1000) (qJ:a<=b) (hb:b<=n) :
 ar am ρ 144 [sv,.int .i64 a,.int .i64 b] M nx (yh rwo nx k M (insertionSort lt d a b)):=by
 refine ar.wk 49 [] Tryz.func144 ?_
 let J0:=(fun(m:Nat) (s:XS)=>∃(i:Nat) (d':Array Int),gG s.env 0=some sv/\gG s.env 1=some (.int .i64 a)/\gG s.env 2=some (.int .i64 b)/\gG s.env 0=some sv/\gG s.env 6=some (.int .i64 i)/\gG s.M k=some (rwo d')/\bK nx k M s.M/\nx<=s.nx/\To lt a b n d m i d')
 let J1:=fun(i:Nat) (d1:Array Int)=>(fun(m2:Nat) (s:XS)=>∃(d':Array Int),m2<=i/\gG s.env 0=some sv/\gG s.env 1=some (.int .i64 a)/\gG s.env 2=some (.int .i64 b)/\gG s.env 0=some sv/\gG s.env 6=some (.int .i64 i)/\gG s.env 7=some (.int .i64 m2)/\gG s.M k=some (rwo d')/\d'.size=n/\bK nx k M s.M/\nx<=s.nx/\Is (insInner lt a m2 d') (insInner lt a i d1))
 have gz:=Wr.mk eC;exact mc1
theorem mc0 {P:Prop} (h:P:=by
 have hwb:=cN (x:=b) Z Z;refine mI gz.o hwb ?_;refine aC J0
  (b - a) ⟨a,b - 1,d,?_⟩ ?_
 ·refine bR gz.o ?_
  exact⟨hM,bK.refl _ _ _,Z,Z,Z,Z,Z,hd,rfl⟩
 ·rintro m ⟨env,M1,n1⟩ ⟨i,j,d1,e0,e6,e7,xu,ho,bT,h1,h2,h4,h3,bv,hI⟩
  simp only at e0 e6 e7 xu ho bT;rw[reverseLoop]at hI;by_cases aL:(i:Int)<j
  ·rw[if_pos Z]at hI
   have hI:=Is.mk hI;have wi:=bu (x:=i) Z;have wj:=cN (x:=j) Z Z;have x1:=A.ix i Z;have x2:=A.ix j Z;have l1:=A.ld M1 d1 xu bv i Z;have l2:=A.ld M1 d1 xu bv j Z;have dg:=A.st M1 d1 xu bv i Z d1[j]!;have dh:=A.st (ci M1 k (rwo (d1.setIfInBounds i d1[j]!))) _ J aj j Z d1[i]!;refine ii gz.o e0 e6 e7 aL x1 x2 l1 l2 dg dh (aI wi wj) ?_;exact⟨(j - 1)+1 - (i+1),Z,i+1,j - 1,swp d1 i j,rfl,rfl,rfl,((ho.set _).set _),Z,Z,Z,Z,rfl,(by rw[swp_size];exact bv),hI.eq⟩
  ·rw[if_neg Z]at hI
   subst hI;refine iC gz.o e0 e6 e7 aL @yh.eq_1 ?_;exact⟨⟨xu,Z⟩,ho,Z⟩
 ):P:=h
theorem Wj (ρ:aK) {lt:Int->Int->Bool} (A:AU ρ lt rwo enc k n sv off) {d:Array Int} (hM:gG M k=some (rwo d)) (hd:d.size=n) (hk:k<nx) (hn:n<=1000) (qJ:a<b) (hb:b<=n) :
 ar am ρ 148 [sv,.int .i64 a,.int .i64 b] M nx (yh rwo nx k M (reverseRange d a b)):=by
 refine ar.wk 32 [] Tryz.func148 ?_
 let J0:=(fun(m:Nat) (s:XS)=>∃(i j:Nat) (d':Array Int),gG s.env 0=some sv/\gG s.env 6=some (.int .i64 i)/\gG s.env 7=some (.int .i64 j)/\gG s.M k=some (rwo d')/\bK nx k M s.M/\nx<=s.nx/\S3 a b n d m i j d')
 have gz:=Wr.mk eC;exact mc0
end
end Go.Xs
namespace Go.Xs
open List Nat Option
variable{M:Hp}{enc:Int->XV}{k n nx:Nat}{off:Nat->Nat}{rwo:Array Int->bx}{sv:XV}
noncomputable section
open Go.Proofs Go.Sort
theorem mc3 {P:Prop} (h:P:=by
 refine bR gz.o ?_;refine aC J0
  (hi - root) ⟨root,d,?_⟩ ?_
 ·refine bR gz.o ?_
  exact⟨hM,bK.refl _ _ _,Z,Z,rfl,hd,rfl⟩
 ·rintro m ⟨env,M1,n1⟩ ⟨r,d1,e0,e2,e3,ec,e8,xu,ho,bT,h1,h2,bv,hI⟩
  simp only at e0 e2 e3 ec e8 xu ho bT;have hI:=Is.mk hI;have w1:IntKind.i64.wrap (2*(r:Int))=((2*r:Nat):Int):=by rw[wrap_i64 Z Z];omega
  have w2:=bu (x:=2*r) Z;have w3:IntKind.i64.wrap (((2*r+1:Nat):Int)+1)=((2*r+2:Nat):Int):=bu (x:=2*r+1) Z;by_cases aL:(hi:Int)<=(2*r+1:Nat)
  ·have bt:=hI.eq
   rw[siftDown,dif_pos Z]at bt;have bt:=Is.mk bt;refine dp gz.o e0 e2 e3 e8 aL w1 w2 @yh.eq_1 ec ?_;rw[<-bt.eq];exact⟨⟨xu,Z⟩,ho,Z⟩
  ·by_cases Qz:((2*r+2:Nat):Int)<hi
   ·have w6:=dK (x:=first) (y:=2*r+1) Z
    have w7:IntKind.i64.wrap (((first+(2*r+1):Nat):Int)+1)=((first+(2*r+2):Nat):Int):=bu (x:=first+(2*r+1)) Z;have x3:=A.ix (first+(2*r+1)) Z;have x4:=A.ix (first+(2*r+2)) Z;have l3:=A.ld M1 d1 xu bv (first+(2*r+1)) Z;have l4:=A.ld M1 d1 xu bv (first+(2*r+2)) Z;refine ii gz.o e0 e2 e3 e8 aL Qz w1 w2 w3 w6 (aI w7 (aI x3 (aI x4 (aI l3 (aI l4 ec))))) ?_;refine bF ?_ rfl ?_
    ·refine bR gz.o ?_;try exact⟨⟩
    refine bR gz.o ?_;refine aT (A.cs _ _ _ _) af ?_;cases hq:lt d1[first+(2*r+1)]! d1[first+(2*r+2)]! with
    | true =>
      have hc:=A.hT hq;have bt:=hI.eq;rw[SW Z Z hq]at bt;have w4:=dK (x:=first) (y:=r) Z;have w5:=dK (x:=first) (y:=2*r+2) Z;have x1:=A.ix (first+r) Z;have x2:=A.ix (first+(2*r+2)) Z;have l1:=A.ld M1 d1 xu bv (first+r) Z;have l2:=A.ld M1 d1 xu bv (first+(2*r+2)) Z;refine ii gz.o e0 e2 e3 e8 hc w3 w4 w5 x1 x2 (aI l1 (aI l2 ec)) ?_;clear hc hq w1 w2 w3 w6 w7 x3 x4 l3 l4;refine aT (A.cs _ _ _ _) af ?_;cases hq:lt d1[first+r]! d1[first+(2*r+2)]! with
      | false =>
        have hc:=A.hF hq;rw[hq,if_pos (show (!false)=true from rfl)]at bt;have bt:=Is.mk bt;refine iQ gz.o e0 e2 e3 e8 hc @yh.eq_1 ec ?_;rw[<-bt.eq];exact⟨⟨xu,Z⟩,ho,Z⟩
      | true =>
        have hc:=A.hT hq;rw[hq,if_neg ae]at bt;have bt:=Is.mk bt;have dg:=A.st M1 d1 xu bv (first+r) Z d1[first+(2*r+2)]!;have dh:=A.st (ci M1 k (rwo (d1.setIfInBounds (first+r) d1[first+(2*r+2)]!))) _ J aj (first+(2*r+2)) Z d1[first+r]!;refine ii gz.o e0 e2 e3 e8 hc w4 w5 x1 x2 l1 (aI l2 (aI dg (aI dh ec))) ?_;exact⟨hi - (2*r+2),Z,2*r+2,swp d1 (first+r) (first+(2*r+2)),rfl,rfl,((ho.set _).set _),Z,Z,rfl,(by rw[swp_size];exact bv),bt.eq⟩
    | false =>
      have hc:=A.hF hq;have bt:=hI.eq;rw[R1 Z (fun q=>by rw[hq]at q;simp at q)]at bt;have w4:=dK (x:=first) (y:=r) Z;have w5:=dK (x:=first) (y:=2*r+1) Z;have x1:=A.ix (first+r) Z;have x2:=A.ix (first+(2*r+1)) Z;have l1:=A.ld M1 d1 xu bv (first+r) Z;have l2:=A.ld M1 d1 xu bv (first+(2*r+1)) Z;refine ii gz.o e0 e2 e3 e8 hc w4 w5 x1 x2 l1 (aI l2 ec) ?_;clear hc hq w1 w2 w3 w6 w7 x3 x4 l3 l4;refine aT (A.cs _ _ _ _) af ?_;cases hq:lt d1[first+r]! d1[first+(2*r+1)]! with
      | false =>
        have hc:=A.hF hq;rw[hq,if_pos (show (!false)=true from rfl)]at bt;have bt:=Is.mk bt;refine iQ gz.o e0 e2 e3 e8 hc @yh.eq_1 ec ?_;rw[<-bt.eq];exact⟨⟨xu,Z⟩,ho,Z⟩
      | true =>
        have hc:=A.hT hq;rw[hq,if_neg ae]at bt;have bt:=Is.mk bt;have dg:=A.st M1 d1 xu bv (first+r) Z d1[first+(2*r+1)]!;have dh:=A.st (ci M1 k (rwo (d1.setIfInBounds (first+r) d1[first+(2*r+1)]!))) _ J aj (first+(2*r+1)) Z d1[first+r]!;refine ii gz.o e0 e2 e3 e8 hc w4 w5 x1 x2 l1 (aI l2 (aI dg (aI dh ec))) ?_;exact⟨hi - (2*r+1),Z,2*r+1,swp d1 (first+r) (first+(2*r+1)),rfl,rfl,((ho.set _).set _),Z,Z,rfl,(by rw[swp_size];exact bv),bt.eq⟩
   ·have bt:=hI.eq
    rw[R1 Z (fun q=>Z)]at bt;have w4:=dK (x:=first) (y:=r) Z;have w5:=dK (x:=first) (y:=2*r+1) Z;have x1:=A.ix (first+r) Z;have x2:=A.ix (first+(2*r+1)) Z;have l1:=A.ld M1 d1 xu bv (first+r) Z;have l2:=A.ld M1 d1 xu bv (first+(2*r+1)) Z;refine dw gz.o e0 e2 e3 e8 aL Qz w1 w2 w3 ec ?_;refine cA ?_ af ?_
    ·refine bR gz.o ?_;try exact⟨⟩
    refine ii gz.o e0 e2 e3 e8 w4 w5 x1 x2 l1 l2 ec ?_;clear w1 w2 w3;refine aT (A.cs _ _ _ _) af ?_;cases hq:lt d1[first+r]! d1[first+(2*r+1)]! with
    | false =>
      have hc:=A.hF hq;rw[hq,if_pos (show (!false)=true from rfl)]at bt;have bt:=Is.mk bt;refine iQ gz.o e0 e2 e3 e8 hc @yh.eq_1 ec ?_;rw[<-bt.eq];exact⟨⟨xu,Z⟩,ho,Z⟩
    | true =>
      have hc:=A.hT hq;rw[hq,if_neg ae]at bt;have bt:=Is.mk bt;have dg:=A.st M1 d1 xu bv (first+r) Z d1[first+(2*r+1)]!;have dh:=A.st (ci M1 k (rwo (d1.setIfInBounds (first+r) d1[first+(2*r+1)]!))) _ J aj (first+(2*r+1)) Z d1[first+r]!;refine ii gz.o e0 e2 e3 e8 hc w4 w5 x1 x2 l1 (aI l2 (aI dg (aI dh ec))) ?_;exact⟨hi - (2*r+1),Z,2*r+1,swp d1 (first+r) (first+(2*r+1)),rfl,rfl,((ho.set _).set _),Z,Z,rfl,(by rw[swp_size];exact bv),bt.eq⟩
 ):P:=h
theorem Sa (ρ:aK) {lt:Int->Int->Bool} (A:AU ρ lt rwo enc k n sv off) {d:Array Int} (hM:gG M k=some (rwo d)) (hd:d.size=n) (hk:k<nx) (hn:n<=1000) {root hi first:Nat} (hb:first+hi<=n) (hr:root<=1000) :
 ar am ρ 213 [sv,.int .i64 root,.int .i64 hi,.int .i64 first] M nx (yh rwo nx k M (siftDown lt hi first root d)):=by
 refine ar.wk 76 [] Tryz.func213 ?_
 let J0:=(fun(m:Nat) (s:XS)=>∃(r:Nat) (d':Array Int),gG s.env 0=some sv/\gG s.env 2=some (.int .i64 hi)/\gG s.env 3=some (.int .i64 first)/\gG s.env 0=some sv/\gG s.env 8=some (.int .i64 r)/\gG s.M k=some (rwo d')/\bK nx k M s.M/\nx<=s.nx/\aaa lt hi first root n d m r d')
 have gz:=Wr.mk gy113;exact mc3
theorem mc2 {P:Prop} (h:P:=by
 have w1:=dO (x:=b) (y:=a) Z Z;have w2:=cN (x:=b - a) Z Z;have w3:IntKind.i64.wrap (((b - a - 1:Nat):Int).tdiv 2)=(((b - a - 1) / 2:Nat):Int):=by
  rw[show ((b - a - 1:Nat):Int).tdiv 2=(((b - a - 1) / 2:Nat):Int) by rw[Int.tdiv_eq_ediv_of_nonneg Z];omega,wrap_i64 Z Z]
 refine ti gz.o w1 w2 w3 ?_;refine aC J0
  ((b - a - 1) / 2+1) ⟨(b - a - 1) / 2+1,d,?_⟩ ?_
 ·refine bR gz.o ?_
  exact⟨congrArg _ Z,hM,bK.refl _ _ _,Z,Z,rfl,hd,rfl⟩
 ·rintro m ⟨env,M1,n1⟩ ⟨kk,d1,e0,ec,e6,e7,e8,e9,xu,ho,bT,h1,h2,bv,hI⟩
  simp only at e0 ec e6 e7 e8 e9 xu ho bT;have hI:=Is.mk hI;by_cases aL:(0:Int)<=(kk:Int) - 1
  ·obtain⟨kk,rfl⟩:∃k',kk=k'+1:=⟨kk - 1,Z⟩
   have wk:((kk+1:Nat):Int) - 1=(kk:Int):=Z;rw[wk]at e9;have w4:IntKind.i64.wrap ((kk:Int) - 1)=(kk:Int) - 1:=wrap_i64 Z Z;have z:(0:Int)<=kk:=Z;refine iQ gz.o e0 e6 e7 e8 e9 z ec ?_;refine gQ (wsift.o ρ A xu bv Z hn (root:=kk) (hi:=b - a) (first:=a) Z Z) ?_;rintro⟨u,M2,n2⟩ ⟨k1,⟨k2,_⟩,k3,k4⟩;simp only at k1 k2 k3 k4;subst k1;have bt:=hI.eq;rw[heapBuild]at bt;have bt:=Is.mk bt;refine iQ gz.o e0 e6 e7 e8 e9 w4 ec ?_;exact⟨kk,Z,kk,_,rfl,k2,ho.trans k3 Z,Z,Z,rfl,iD _ _ _ _ bv,bt.eq⟩
  ·have bt:=hI.eq
   rw[show kk=0 by omega,heapBuild]at bt;have bt:=Is.mk bt;refine CU gz.o e0 e6 e7 e8 e9 aL w2 ec ?_;refine aC J1
    (b - a) ⟨b - a,d1,?_⟩ ?_
   ·refine gw gz.o e0 e6 e7 e8 e9 ec ?_
    exact⟨congrArg _ Z,xu,ho,Z,Z,rfl,bv,bt.eq⟩
   ·clear e0 e6 e7 e8 e9 ec xu ho bT bt hI aL h2 bv
    rintro m ⟨env,M1,n1⟩ ⟨kk,d1,e0,ec,e6,e7,e9,xu,ho,bT,h1,h2,bv,hI⟩;simp only at e0 ec e6 e7 e9 xu ho bT;have hI:=Is.mk hI;by_cases aL:(0:Int)<=(kk:Int) - 1
    ·obtain⟨kk,rfl⟩:∃k',kk=k'+1:=⟨kk - 1,Z⟩
     have wk:((kk+1:Nat):Int) - 1=(kk:Int):=Z;rw[wk]at e9;have w4:IntKind.i64.wrap ((kk:Int) - 1)=(kk:Int) - 1:=wrap_i64 Z Z;have w5:=dK (x:=a) (y:=kk) Z;have z:(0:Int)<=kk:=Z;have x1:=A.ix a Z;have x2:=A.ix (a+kk) Z;have l1:=A.ld M1 d1 xu bv a Z;have l2:=A.ld M1 d1 xu bv (a+kk) Z;have dg:=A.st M1 d1 xu bv a Z d1[a+kk]!;have dh:=A.st (ci M1 k (rwo (d1.setIfInBounds a d1[a+kk]!))) _ J aj (a+kk) Z d1[a]!;refine ii gz.o e0 e6 e7 e9 z w5 x1 x2 l1 l2 (aI dg (aI dh ec)) ?_;refine gQ (wsift.o ρ A (d:=swp d1 a (a+kk)) J (by rw[swp_size];exact bv) Z hn (root:=0) (hi:=kk) (first:=a) Z Z) ?_;rintro⟨u,M2,n2⟩ ⟨k1,⟨k2,_⟩,k3,k4⟩;simp only at k1 k2 k3 k4;subst k1;have bt:=hI.eq;rw[heapPop]at bt;have bt:=Is.mk bt;refine gw gz.o e0 e6 e7 e9 w4 ec ?_;exact⟨kk,Z,kk,_,rfl,k2,((ho.set _).set _).trans k3 Z,Z,Z,rfl,iD _ _ _ _ (by rw[swp_size];exact bv),bt.eq⟩
    ·have bt:=hI.eq
     rw[show kk=0 by omega,heapPop]at bt;have bt:=Is.mk bt;refine iQ gz.o e0 e6 e7 e9 aL @yh.eq_1 ec ?_;rw[<-bt.eq];exact⟨⟨xu,Z⟩,ho,Z⟩
 ):P:=h
theorem Wk (ρ:aK) {lt:Int->Int->Bool} (A:AU ρ lt rwo enc k n sv off) {d:Array Int} (hM:gG M k=some (rwo d)) (hd:d.size=n) (hk:k<nx) (hn:n<=1000) {a b:Nat} (qJ:a<b) (hb:b<=n) :
 ar am ρ 145 [sv,.int .i64 a,.int .i64 b] M nx (yh rwo nx k M (heapSort lt d a b)):=by
 refine ar.wk 56 [] Tryz.func145 ?_
 let J0:=(fun(m:Nat) (s:XS)=>∃(kk:Nat) (d':Array Int),gG s.env 0=some sv/\gG s.env 0=some sv/\gG s.env 6=some (.int .i64 a)/\gG s.env 7=some (.int .i64 0)/\gG s.env 8=some (.int .i64 (b - a:Nat))/\gG s.env 9=some (.int .i64 ((kk:Int) - 1))/\gG s.M k=some (rwo d')/\bK nx k M s.M/\nx<=s.nx/\aaf lt a b n d m kk d')
 let J1:=(fun(m:Nat) (s:XS)=>∃(kk:Nat) (d':Array Int),gG s.env 0=some sv/\gG s.env 0=some sv/\gG s.env 6=some (.int .i64 a)/\gG s.env 7=some (.int .i64 0)/\gG s.env 10=some (.int .i64 ((kk:Int) - 1))/\gG s.M k=some (rwo d')/\bK nx k M s.M/\nx<=s.nx/\aab lt a b n d m kk d')
 have gz:=Wr.mk eC;have wsift:=Wr.mk @Sa;exact mc2
end
end Go.Xs
namespace Go.Xs
open List Nat Option
variable{M:Hp}{a b k lo n nx:Nat}{enc:Int->XV}{off:Nat->Nat}{rwo:Array Int->bx}{sv:XV}
noncomputable section
open Go.Proofs Go.Sort
theorem mc7 {P:Prop} (h:P:=by
 refine mY gz.o x1 x2 l1 l2 ?_;refine aT (A.cs _ _ _ _) af ?_;cases hq:lt d[b]! d[a]! with
 | true =>
   have hc:=A.hT hq;refine ti gz.o hc hp @O2.eq_1 ?_;exact⟨b,a,IntKind.i64.wrap (s+1),rfl,Z,J,(bK.refl _ _ _).set _,Z⟩
 | false =>
   have hc:=A.hF hq;refine ti gz.o hc hp @O2.eq_1 ?_;exact⟨a,b,s,rfl,Z,rfl,bK.refl _ _ _,Z⟩
 ):P:=h
theorem PB (ρ:aK) {lt:Int->Int->Bool} (A:AU ρ lt rwo enc k n sv off) {d:Array Int} (hM:gG M k=some (rwo d)) (hd:d.size=n) (hk:k<nx) (hn:n<=1000) {p up:Nat} {s:Int} (hp:gG M p=some (.row [.int .i64 s])) (vh:k<p) (Gp:p<nx) (ha:lo<=a/\a<up) (hb:lo<=b/\b<up) (hu:up<=n) :
 ar am ρ 259 [sv,.int .i64 a,.int .i64 b,.mp p 0] M nx (O2 nx p M lo up):=by
 have x1:=A.ix a Z;have x2:=A.ix b Z;have l1:=A.ld M d hM hd a Z;have l2:=A.ld M d hM hd b Z;refine ar.wk 28 [.tmp 8,.tmp 9] Tryz.func259 ?_;have gz:=Wr.mk eC;exact mc7
theorem mc6 {P:Prop} (h:P:=by
 refine RA ?_;refine gQ (jS.o ρ A hM hd Z hn hp vh Z ha hb hu) ?_;rintro⟨u,M1,n1⟩ ⟨a1,b1,s1,g1,g2,g3,g4,g5⟩;simp only at g1 g3 g4 g5;subst g1;refine RA ?_;refine gQ (jS.o ρ A (g4.get Z vh hM) hd Z hn g3 vh Z (lo:=lo) (up:=up) Z hc hu) ?_;rintro⟨u,M2,n2⟩ ⟨b2,c2,s2,k1,k2,k3,k4,k5⟩;simp only at k1 k3 k4 k5;subst k1;have o2:bK nx p M M2:=fun j hj cf=>(k4 j Z cf).trans (g4 j Z cf)
 clear g3;refine RA ?_;refine gQ (jS.o ρ A (o2.get Z vh hM) hd Z hn k3 vh Z (lo:=lo) (up:=up) Z Z hu) ?_;rintro⟨u,M3,n3⟩ ⟨a3,b3,s3,j1,j2,j3,j4,j5⟩;simp only at j1 j3 j4 j5;subst j1;have o3:bK nx p M M3:=fun j hj cf=>(j4 j Z cf).trans (o2 j Z cf)
 clear k3 k4 g4;refine bR @O1.eq_1 ?_;exact⟨b3,s3,rfl,Z,j3,o3,Z⟩
 ):P:=h
theorem PH (ρ:aK) {lt:Int->Int->Bool} (A:AU ρ lt rwo enc k n sv off) {d:Array Int} (hM:gG M k=some (rwo d)) (hd:d.size=n) (hk:k<nx) (hn:n<=1000) {p up c:Nat} {s:Int} (hp:gG M p=some (.row [.int .i64 s])) (vh:k<p) (Gp:p<nx) (ha:lo<=a/\a<up) (hb:lo<=b/\b<up) (hc:lo<=c/\c<up) (hu:up<=n) :
 ar am ρ 215 [sv,.int .i64 a,.int .i64 b,.int .i64 c,.mp p 0] M nx (O1 nx p M lo up):=by
 refine ar.wk 36 [.tmp 10] Tryz.func215 ?_;have jS:=Wr.mk @PB;exact mc6
theorem mc5 {P:Prop} (h:P:=by
 refine Ao gz.o w1 w2 ?_;refine gQ (wmed.o ρ A hM hd Z hn hp vh Z (lo:=lo) (up:=up) Z Z Z hu) ?_;rintro⟨u,M1,n1⟩ ⟨a1,s1,g1,g2,g3,g4,g5⟩;simp only at g1 g3 g4 g5;subst g1;refine mI gz.o @O1.eq_1 ?_;exact⟨a1,s1,rfl,Z,g3,fun j hj cf=>g4 j Z cf,Z⟩
 ):P:=h
theorem OJ (ρ:aK) {lt:Int->Int->Bool} (A:AU ρ lt rwo enc k n sv off) {d:Array Int} (hM:gG M k=some (rwo d)) (hd:d.size=n) (hk:k<nx) (hn:n<=1000) {p up:Nat} {s:Int} (hp:gG M p=some (.row [.int .i64 s])) (vh:k<p) (Gp:p<nx) (ha:lo+1<=a/\a+1<up) (hu:up<=n) :
 ar am ρ 214 [sv,.int .i64 a,.mp p 0] M nx (O1 nx p M lo up):=by
 have w1:=cN (x:=a) Z Z;have w2:=bu (x:=a) Z;refine ar.wk 15 [.tmp 6] Tryz.func214 ?_;have gz:=Wr.mk Pt;have wmed:=Wr.mk @PH;exact mc5
theorem mc4 {P:Prop} (h:P:=by
 by_cases h8:(8:Int)<=(b - a:Nat)
 ·by_cases AO:(50:Int)<=(b - a:Nat)
  ·refine dw gz.o w1 w2 w3 w4 w5 w6 w7 w8 h8 AO ?_
   generalize xu:ci M _ _=M1;have a1:aq nx M M1:=by rw[<-xu];exact O
   obtain⟨P,hP⟩:∃P,P=(nx+6):=⟨_,rfl⟩;have z1:gG M1 (nx+6)=some (.row [.int .i64 0]):=by rw[<-xu];exact J
   rw[<-hP]at z1 ⊢;clear xu;refine gQ (wadj.o ρ A ((a1 k hk).trans hM) hd Z hn z1 Z Z (lo:=a) (up:=b) Z hb) ?_;rintro⟨u,M2,n2⟩ ⟨i2,s2,g1,g2,g3,g4,g5⟩;simp only at g1 g3 g4 g5;subst g1;have a2:aq nx M M2:=a1.trans (g4.below Z Z);clear g4;refine bR gz.o ?_;refine gQ (wadj.o ρ A ((a2 k hk).trans hM) hd Z hn g3 Z Z (lo:=a) (up:=b) Z hb) ?_;rintro⟨u,M3,n3⟩ ⟨i3,s3,k1,k2,k3,k4,k5⟩;simp only at k1 k3 k4 k5;subst k1;have a3:aq nx M M3:=a2.trans (k4.below Z Z);clear k4 g3;refine bR gz.o ?_;refine gQ (wadj.o ρ A ((a3 k hk).trans hM) hd Z hn k3 Z Z (lo:=a) (up:=b) Z hb) ?_;rintro⟨u,M4,n4⟩ ⟨i4,s4,j1,j2,j3,j4,j5⟩;simp only at j1 j3 j4 j5;subst j1;have a4:aq nx M M4:=a3.trans (j4.below Z Z);clear j4 k3;refine bR gz.o ?_;refine gQ (wmed.o ρ A ((a4 k hk).trans hM) hd Z hn j3 Z Z (lo:=a) (up:=b) Z Z Z hb) ?_;rintro⟨u,M5,n5⟩ ⟨i5,s5,f1,f2,f3,f4,f5⟩;simp only at f1 f3 f4 f5;subst f1;have a5:aq nx M M5:=a4.trans (f4.below Z Z);clear f4 j3;by_cases h0:s5=0
   ·refine ti gz.o @f3 h0 @ot.eq_1 ?_
    exact⟨i5,1,rfl,Z,a5,Z⟩
   ·by_cases uO:s5=12
    ·refine mY gz.o @f3 h0 uO @ot.eq_1 ?_
     exact⟨i5,2,rfl,Z,a5,Z⟩
    ·refine mY gz.o @f3 h0 uO @ot.eq_1 ?_
     exact⟨i5,0,rfl,Z,a5,Z⟩
  ·refine dw gz.o w1 w2 w3 w4 w5 w6 w7 w8 h8 AO ?_
   generalize xu:ci M _ _=M1;have a1:aq nx M M1:=by rw[<-xu];exact O
   obtain⟨P,hP⟩:∃P,P=(nx+6):=⟨_,rfl⟩;have z1:gG M1 (nx+6)=some (.row [.int .i64 0]):=by rw[<-xu];exact J
   rw[<-hP]at z1 ⊢;clear xu;refine gQ (wmed.o ρ A ((a1 k hk).trans hM) hd Z hn z1 Z Z (lo:=a) (up:=b) Z Z Z hb) ?_;rintro⟨u,M5,n5⟩ ⟨i5,s5,f1,f2,f3,f4,f5⟩;simp only at f1 f3 f4 f5;subst f1;have a5:aq nx M M5:=a1.trans (f4.below Z Z);clear f4 z1;by_cases h0:s5=0
   ·refine ti gz.o @f3 h0 @ot.eq_1 ?_
    exact⟨i5,1,rfl,Z,a5,Z⟩
   ·by_cases uO:s5=12
    ·refine mY gz.o @f3 h0 uO @ot.eq_1 ?_
     exact⟨i5,2,rfl,Z,a5,Z⟩
    ·refine mY gz.o @f3 h0 uO @ot.eq_1 ?_
     exact⟨i5,0,rfl,Z,a5,Z⟩
 ·refine dw gz.o w1 w2 w3 w4 w5 w6 w7 w8 h8 @ot.eq_1 ?_
  exact⟨a+2*q,1,rfl,Z,O,Z⟩
 ):P:=h
theorem WE (ρ:aK) {lt:Int->Int->Bool} (A:AU ρ lt rwo enc k n sv off) {d:Array Int} (hM:gG M k=some (rwo d)) (hd:d.size=n) (hk:k<nx) (hn:n<=1000) (qJ:a<b) (hb:b<=n) :
 ar am ρ 147 [sv,.int .i64 a,.int .i64 b] M nx (ot nx M a b):=by
 obtain⟨q,hq⟩:∃q,q=(b - a) / 4:=⟨_,rfl⟩;have w1:=dO (x:=b) (y:=a) Z Z;have w2:IntKind.i64.wrap (((b - a:Nat):Int).tdiv 4)=(q:Int):=by
  rw[show ((b - a:Nat):Int).tdiv 4=(q:Int) by rw[Int.tdiv_eq_ediv_of_nonneg Z];omega,wrap_i64 Z Z]
 have w3:IntKind.i64.wrap ((q:Int)*1)=(q:Int):=by rw[wrap_i64 Z Z];omega
 have w4:IntKind.i64.wrap ((q:Int)*2)=((2*q:Nat):Int):=by rw[wrap_i64 Z Z];omega
 have w5:IntKind.i64.wrap ((q:Int)*3)=((3*q:Nat):Int):=by rw[wrap_i64 Z Z];omega
 have w6:=dK (x:=a) (y:=q) Z;have w7:=dK (x:=a) (y:=2*q) Z;have w8:=dK (x:=a) (y:=3*q) Z;refine ar.wk 57 [.tmp 6,.tmp 7] Tryz.func147 ?_;have gz:=Wr.mk Pt;have wadj:=Wr.mk @OJ;have wmed:=Wr.mk @PH;exact mc4
end
end Go.Xs
namespace Go.Xs
open List Nat Option
noncomputable section
open Go.Proofs Go.Sort
theorem mc8 {P:Prop} (h:P:=by
 refine CU gz.o w1 w2 y1 y2 k1 k2 dg dh ?_;refine aC J0
  (b - 1+1 - (a+1)) ⟨a+1,b - 1,swp d a pivot,?_⟩ ?_
 ·refine bR gz.o ?_
  exact⟨rfl,((bK.refl _ _ _).set _).set _,Z,Z,Z,Z,rfl,(by rw[swp_size];exact hd),hR.symm⟩
 ·clear y1 y2 k1 k2 dg dh w1 w2 hR
  rintro m ⟨env,M1,n1⟩ ⟨i,j,d1,e0,e1,ec,ei,ej,xu,ho,bT,h1,h2,h4,h3,bv,hI⟩;simp only at e0 e1 ec ei ej xu ho bT;obtain⟨i2,bD⟩:∃q,q=scanUp (fun x=>!lt d1[a]! x) d1 j i:=⟨_,rfl⟩;obtain⟨j2,f_⟩:∃q,q=scanDown (fun x=>lt d1[a]! x) d1 i2 j:=⟨_,rfl⟩;obtain⟨b1,b2,b3,b4,b5⟩:=xe (fun x=>ae) Z h2 bD f_;rw[partEqLoop_eq,<-bD,<-f_]at hI;have hI:=Is.mk hI;have bD:=Is.mk bD;have f_:=Is.mk f_;refine iC gz.o ei ej e0 e1 ec ?_;refine bB (J1 j d1 i) (j+1 - i) (J2 i2 j d1) ⟨i,?_⟩ ?_ ?_
  ·refine iC gz.o ei ej e0 e1 ec ?_
   exact⟨xu,ho,Z,Z,Z,rfl,rfl⟩
  ·clear ei ej e0 e1 ec
   rintro m2 ⟨env,M2,n2⟩ ⟨i',e0,e1,ec,ei,ej,aW,bJ,fq,c1,c2,c3,c4⟩;simp only at ei ej e0 e1 ec aW bJ fq;have c4:=Is.mk c4;by_cases eS:(i':Int)<=j
   ·have x1:=A.ix a Z
    have x2:=A.ix i' Z;have l1:=A.ld M2 d1 aW bv a Z;have l2:=A.ld M2 d1 aW bv i' Z;have wi:=bu (x:=i') Z;refine dw gz.o ei ej eS x1 x2 l1 l2 e0 e1 ec ?_;refine bF ?_ rfl ?_
    ·refine bR gz.o ?_;try exact⟨⟩
    refine bR gz.o ?_;refine aT (A.cs _ _ _ _) af ?_;cases hq:lt d1[a]! d1[i']! with
    | false =>
      have hc:=A.hF hq;have c5:scanUp (fun x=>!lt d1[a]! x) d1 j (i'+1)=scanUp (fun x=>!lt d1[a]! x) d1 j i:=by rw[<-c4.eq,gj (i:=i') Z (by simp[hq])]
      have c5:=Is.mk c5;refine iQ gz.o ei ej hc wi e0 e1 ec ?_;exact⟨j+1 - (i'+1),Z,i'+1,rfl,aW,bJ,Z,Z,Z,rfl,c5.eq⟩
    | true =>
      have hc:=A.hT hq;have c5:i'=i2:=by rw[bD.eq,<-c4.eq,cM (.inr (by simp[hq]))]
      have c6:=Is.mk c5;clear c5;refine gw gz.o ei ej hc e0 e1 ec ?_;rw[c6.eq];exact⟨rfl,aW,bJ,Z⟩
   ·have c5:i'=i2:=by rw[bD.eq,<-c4.eq,cM (.inl Z)]
    have c6:=Is.mk c5;clear c5;refine gw gz.o ei ej eS e0 e1 ec ?_;refine cA ?_ af ?_
    ·refine bR gz.o ?_;try exact⟨⟩
    refine gw gz.o ei ej eS e0 e1 ec ?_;rw[c6.eq];exact⟨rfl,aW,bJ,Z⟩
  ·clear ei ej e0 e1 ec xu ho bT
   rintro⟨env,M1,n1⟩ ⟨e0,e1,ec,ei,ej,xu,ho,bT⟩;simp only at ei ej e0 e1 ec xu ho bT;refine iC gz.o ei ej e0 e1 ec ?_;refine bB (J3 i2 d1 j) j (J4 i2 j2 d1) ⟨j,?_⟩ ?_ ?_
   ·refine iC gz.o ei ej e0 e1 ec ?_
    exact⟨xu,ho,Z,Z,Z,rfl,rfl⟩
   ·clear ei ej e0 e1 ec
    rintro m2 ⟨env,M2,n2⟩ ⟨j',e0,e1,ec,ei,ej,aW,bJ,fq,c1,c2,c3,c4⟩;simp only at ei ej e0 e1 ec aW bJ fq;have c4:=Is.mk c4;by_cases eS:(i2:Int)<=j'
    ·obtain⟨j',rfl⟩:∃q,j'=q+1:=⟨j' - 1,Z⟩
     have x1:=A.ix a Z;have x2:=A.ix (j'+1) Z;have l1:=A.ld M2 d1 aW bv a Z;have l2:=A.ld M2 d1 aW bv (j'+1) Z;have wj:=fQ (x:=j') Z;refine dw gz.o ei ej eS x1 x2 l1 l2 e0 e1 ec ?_;refine bF ?_ rfl ?_
     ·refine bR gz.o ?_;try exact⟨⟩
     refine bR gz.o ?_;refine aT (A.cs _ _ _ _) af ?_;cases hq:lt d1[a]! d1[j'+1]! with
     | true =>
       have hc:=A.hT hq;have c5:scanDown (fun x=>lt d1[a]! x) d1 i2 j'=scanDown (fun x=>lt d1[a]! x) d1 i2 j:=by rw[<-c4.eq,eG (j:=j') Z (by simp[hq])]
       have c5:=Is.mk c5;refine iQ gz.o ei ej hc wj e0 e1 ec ?_;exact⟨j',Z,j',rfl,aW,bJ,Z,Z,Z,rfl,c5.eq⟩
     | false =>
       have hc:=A.hF hq;have c5:j'+1=j2:=by rw[f_.eq,<-c4.eq,bY (.inr (by simp[hq]))]
       have c6:=Is.mk c5;clear c5;refine gw gz.o ei ej hc e0 e1 ec ?_;rw[c6.eq];exact⟨rfl,aW,bJ,Z⟩
    ·have c5:j'=j2:=by rw[f_.eq,<-c4.eq,bY (.inl Z)]
     have c6:=Is.mk c5;clear c5;refine gw gz.o ei ej eS e0 e1 ec ?_;refine cA ?_ af ?_
     ·refine bR gz.o ?_;try exact⟨⟩
     refine gw gz.o ei ej eS e0 e1 ec ?_;rw[c6.eq];exact⟨rfl,aW,bJ,Z⟩
   ·clear ei ej e0 e1 ec xu ho bT
    rintro⟨env,M1,n1⟩ ⟨e0,e1,ec,ei,ej,xu,ho,bT⟩;simp only at ei ej e0 e1 ec xu ho bT;by_cases u_:(j2:Int)<i2
    ·have bt:=hI.eq
     rw[if_pos Z]at bt;rw[<-bt];clear hI bt bD f_;refine iQ gz.o ei ej u_ @LA.eq_1 e0 e1 ec ?_;exact⟨⟨xu,Z⟩,ho,Z⟩
    ·have bt:=hI.eq
     rw[if_neg Z]at bt;have bt:=Is.mk bt;clear hI bD f_;have b6:=b5 Z;have w1:=bu (x:=i2) Z;have w2:=cN (x:=j2) Z Z;obtain⟨y1,y2,k1,k2,dg,dh⟩:=A.sw M1 d1 xu bv (i:=i2) (j:=j2) Z Z;refine ii gz.o ei ej u_ w1 w2 y1 y2 k1 k2 dg (aI dh (aI e0 (aI e1 ec))) ?_;exact⟨j2 - 1+1 - (i2+1),Z,i2+1,j2 - 1,swp d1 i2 j2,rfl,rfl,rfl,((ho.set _).set _),Z,Z,Z,Z,rfl,(by rw[swp_size];exact bv),bt.eq⟩
 ):P:=h
theorem WL (ρ:aK) {M:Hp} {nx k n:Nat} {sv:XV} {off:Nat->Nat} {lt:Int->Int->Bool} {rwo:Array Int->bx} {enc:Int->XV} (A:AU ρ lt rwo enc k n sv off) {d:Array Int} (hM:gG M k=some (rwo d)) (hd:d.size=n) (hk:k<nx) (hn:n<=1000) {a b pivot:Nat} (dX:a<=pivot) (JZ:pivot<b) (hb:b<=n) :
 ar am ρ 151 [sv,.int .i64 a,.int .i64 b,.int .i64 pivot] M nx (LA rwo nx k M (.int .i64 ((partitionEqual lt d a b pivot).1:Nat)) (partitionEqual lt d a b pivot).2):=by
 obtain⟨R,hR⟩:∃R,R=partitionEqual lt d a b pivot:=⟨_,rfl⟩;rw[<-hR];have w1:=bu (x:=a) Z;have w2:=cN (x:=b) Z Z;obtain⟨y1,y2,k1,k2,dg,dh⟩:=A.sw M d hM hd (i:=a) (j:=pivot) Z Z;refine ar.wk 84 [.tmp 8] Tryz.func151 ?_
 let J0:=(fun(m:Nat) (s:XS)=>∃(i j:Nat) (d1:Array Int),gG s.env 0=some sv/\gG s.env 1=some (.int .i64 a)/\gG s.env 0=some sv/\gG s.env 9=some (.int .i64 i)/\gG s.env 10=some (.int .i64 j)/\gG s.M k=some (rwo d1)/\bK nx k M s.M/\nx<=s.nx/\TH lt a b n R m i j d1)
 let J1:=fun(j:Nat) (d1:Array Int) (i:Nat)=>(fun(m2:Nat) (s:XS)=>∃i':Nat,gG s.env 0=some sv/\gG s.env 1=some (.int .i64 a)/\gG s.env 0=some sv/\gG s.env 9=some (.int .i64 i')/\gG s.env 10=some (.int .i64 j)/\gG s.M k=some (rwo d1)/\bK nx k M s.M/\nx<=s.nx/\Rq (fun x=>!lt d1[a]! x) d1 i j i' m2)
 let J2:=fun(i2:Nat) (j:Nat) (d1:Array Int)=>(fun(s:XS)=>gG s.env 0=some sv/\gG s.env 1=some (.int .i64 a)/\gG s.env 0=some sv/\gG s.env 9=some (.int .i64 i2)/\gG s.env 10=some (.int .i64 j)/\gG s.M k=some (rwo d1)/\bK nx k M s.M/\nx<=s.nx)
 let J3:=fun(i2:Nat) (d1:Array Int) (j:Nat)=>(fun(m2:Nat) (s:XS)=>∃j':Nat,gG s.env 0=some sv/\gG s.env 1=some (.int .i64 a)/\gG s.env 0=some sv/\gG s.env 9=some (.int .i64 i2)/\gG s.env 10=some (.int .i64 j')/\gG s.M k=some (rwo d1)/\bK nx k M s.M/\nx<=s.nx/\Rw (fun x=>lt d1[a]! x) d1 i2 j j' m2)
 let J4:=fun(i2:Nat) (j2:Nat) (d1:Array Int)=>(fun(s:XS)=>gG s.env 0=some sv/\gG s.env 1=some (.int .i64 a)/\gG s.env 0=some sv/\gG s.env 9=some (.int .i64 i2)/\gG s.env 10=some (.int .i64 j2)/\gG s.M k=some (rwo d1)/\bK nx k M s.M/\nx<=s.nx)
 have gz:=Wr.mk gy113;exact mc8
end
end Go.Xs
namespace Go.Xs
open List Nat Option
noncomputable section
open Go.Proofs Go.Sort
theorem mc9 {P:Prop} (h:P:=by
 refine CU gz.o w1 w2 y1 y2 k1 k2 dg dh ?_;refine Nc (J0 i j d1) ?_ ?_
 ·refine mI gz.o rz ?_
  exact⟨((bK.refl _ _ _).set _).set _,Z⟩
 clear y1 y2 k1 k2 dg dh w1 w2 rz hR rB hM hd;rintro⟨env,M1,n1⟩ ⟨e0,e1,ec,ei,ej,xu,ho,bT⟩;simp only at e0 e1 ec ei ej xu ho bT;refine bB (J1 j d1 i) (j+1 - i) (J2 i2 j d1) ⟨i,?_⟩ ?_ ?_
 ·refine iC gz.o ei ej e0 e1 ec ?_
  exact⟨xu,ho,Z,Z,Z,rfl,rfl⟩
 ·clear ei ej e0 e1 ec
  rintro m2 ⟨env,M2,n2⟩ ⟨i',e0,e1,ec,ei,ej,aW,bJ,fq,c1,c2,c3,c4⟩;simp only at ei ej e0 e1 ec aW bJ fq;have c4:=Is.mk c4;by_cases eS:(i':Int)<=j
  ·have x1:=A.ix a Z
   have x2:=A.ix i' Z;have l1:=A.ld M2 d1 aW bv a Z;have l2:=A.ld M2 d1 aW bv i' Z;have wi:=bu (x:=i') Z;refine dw gz.o ei ej eS x1 x2 l1 l2 e0 e1 ec ?_;refine bF ?_ rfl ?_
   ·refine bR gz.o ?_;try exact⟨⟩
   refine bR gz.o ?_;refine aT (A.cs _ _ _ _) af ?_;cases hq:lt d1[i']! d1[a]! with
   | true =>
     have hc:=A.hT hq;have c5:scanUp (fun x=>lt x d1[a]!) d1 j (i'+1)=scanUp (fun x=>lt x d1[a]!) d1 j i:=by rw[<-c4.eq,gj (i:=i') Z (by simp[hq])]
     have c5:=Is.mk c5;refine iQ gz.o ei ej hc wi e0 e1 ec ?_;exact⟨j+1 - (i'+1),Z,i'+1,rfl,aW,bJ,Z,Z,Z,rfl,c5.eq⟩
   | false =>
     have hc:=A.hF hq;have c5:i'=i2:=by rw[bD.eq,<-c4.eq,cM (.inr (by simp[hq]))]
     have c6:=Is.mk c5;clear c5;refine gw gz.o ei ej hc e0 e1 ec ?_;rw[c6.eq];exact⟨rfl,aW,bJ,Z⟩
  ·have c5:i'=i2:=by rw[bD.eq,<-c4.eq,cM (.inl Z)]
   have c6:=Is.mk c5;clear c5;refine gw gz.o ei ej eS e0 e1 ec ?_;refine cA ?_ af ?_
   ·refine bR gz.o ?_;try exact⟨⟩
   refine gw gz.o ei ej eS e0 e1 ec ?_;rw[c6.eq];exact⟨rfl,aW,bJ,Z⟩
 ·clear ei ej e0 e1 ec xu ho bT
  rintro⟨env,M1,n1⟩ ⟨e0,e1,ec,ei,ej,xu,ho,bT⟩;simp only at ei ej e0 e1 ec xu ho bT;refine iC gz.o ei ej e0 e1 ec ?_;refine bB (J3 i2 d1 j) j (J4 i2 j2 d1) ⟨j,?_⟩ ?_ ?_
  ·refine iC gz.o ei ej e0 e1 ec ?_
   exact⟨xu,ho,Z,Z,Z,rfl,rfl⟩
  ·clear ei ej e0 e1 ec
   rintro m2 ⟨env,M2,n2⟩ ⟨j',e0,e1,ec,ei,ej,aW,bJ,fq,c1,c2,c3,c4⟩;simp only at ei ej e0 e1 ec aW bJ fq;have c4:=Is.mk c4;by_cases eS:(i2:Int)<=j'
   ·obtain⟨j',rfl⟩:∃q,j'=q+1:=⟨j' - 1,Z⟩
    have x1:=A.ix a Z;have x2:=A.ix (j'+1) Z;have l1:=A.ld M2 d1 aW bv a Z;have l2:=A.ld M2 d1 aW bv (j'+1) Z;have wj:=fQ (x:=j') Z;refine dw gz.o ei ej eS x1 x2 l1 l2 e0 e1 ec ?_;refine bF ?_ rfl ?_
    ·refine bR gz.o ?_;try exact⟨⟩
    refine bR gz.o ?_;refine aT (A.cs _ _ _ _) af ?_;cases hq:lt d1[j'+1]! d1[a]! with
    | false =>
      have hc:=A.hF hq;have c5:scanDown (fun x=>!lt x d1[a]!) d1 i2 j'=scanDown (fun x=>!lt x d1[a]!) d1 i2 j:=by rw[<-c4.eq,eG (j:=j') Z (by simp[hq])]
      have c5:=Is.mk c5;refine iQ gz.o ei ej hc wj e0 e1 ec ?_;exact⟨j',Z,j',rfl,aW,bJ,Z,Z,Z,rfl,c5.eq⟩
    | true =>
      have hc:=A.hT hq;have c5:j'+1=j2:=by rw[f_.eq,<-c4.eq,bY (.inr (by simp[hq]))]
      have c6:=Is.mk c5;clear c5;refine gw gz.o ei ej hc e0 e1 ec ?_;rw[c6.eq];exact⟨rfl,aW,bJ,Z⟩
   ·have c5:j'=j2:=by rw[f_.eq,<-c4.eq,bY (.inl Z)]
    have c6:=Is.mk c5;clear c5;refine gw gz.o ei ej eS e0 e1 ec ?_;refine cA ?_ af ?_
    ·refine bR gz.o ?_;try exact⟨⟩
    refine gw gz.o ei ej eS e0 e1 ec ?_;rw[c6.eq];exact⟨rfl,aW,bJ,Z⟩
  ·clear ei ej e0 e1 ec xu ho bT
   rintro⟨env,M1,n1⟩ ⟨e0,e1,ec,ei,ej,xu,ho,bT⟩;simp only at ei ej e0 e1 ec xu ho bT;have AR:=Gj.eq;by_cases u_:(j2:Int)<i2
   ·rw[if_pos Z]at AR
    subst AR;clear Gj bD f_;obtain⟨y1,y2,k1,k2,dg,dh⟩:=A.sw M1 d1 xu bv (i:=j2) (j:=a) Z Z;refine ii gz.o ei ej u_ @LA.eq_1 y1 y2 k1 k2 dg dh (aI e0 (aI e1 ec)) ?_;exact⟨⟨rfl,(by rw[swp_size];omega)⟩,(ho.set _).set _,Z⟩
   ·rw[if_neg Z]at AR
    obtain⟨Rr,Jn⟩:∃q,q=partLoop lt a (i2+1) (j2 - 1) (swp d1 i2 j2):=⟨_,rfl⟩;rw[<-Jn]at AR;have AR:=Is.mk AR;have Jn:=Is.mk Jn;clear Gj bD f_;have b6:=b5 Z;have w1:=bu (x:=i2) Z;have w2:=cN (x:=j2) Z Z;obtain⟨y1,y2,k1,k2,dg,dh⟩:=A.sw M1 d1 xu bv (i:=i2) (j:=j2) Z Z;refine ii gz.o ei ej u_ w1 w2 y1 y2 k1 k2 dg (aI dh (aI e0 (aI e1 ec))) ?_;refine aC (J5 Rr)
     (j2 - 1+1 - (i2+1)) ⟨i2+1,j2 - 1,swp d1 i2 j2,?_⟩ ?_
    ·refine ti gz.o e0 e1 ec ?_
     exact⟨rfl,((ho.set _).set _),Z,Z,Z,Z,rfl,(by rw[swp_size];exact bv),Jn.eq.symm⟩
    ·clear y1 y2 k1 k2 dg dh w1 w2 Jn ei ej e0 e1 ec xu ho bT u_ b1 b2 b3 b4 b5 b6 bv
     rintro m ⟨env,M1,n1⟩ ⟨i,j,d1,e0,e1,ec,ei,ej,xu,ho,bT,h1,h2,h4,h3,bv,hI⟩;simp only at e0 e1 ec ei ej xu ho bT;obtain⟨i2,bD⟩:∃q,q=scanUp (fun x=>lt x d1[a]!) d1 j i:=⟨_,rfl⟩;obtain⟨j2,f_⟩:∃q,q=scanDown (fun x=>!lt x d1[a]!) d1 i2 j:=⟨_,rfl⟩;obtain⟨b1,b2,b3,b4,b5⟩:=xe (fun x=>rfl) Z h2 bD f_;rw[partLoop_eq,<-bD,<-f_]at hI;have hI:=Is.mk hI;have bD:=Is.mk bD;have f_:=Is.mk f_;refine iC gz.o ei ej e0 e1 ec ?_;refine bB (J6 j d1 i) (j+1 - i) (J7 i2 j d1) ⟨i,?_⟩ ?_ ?_
     ·refine iC gz.o ei ej e0 e1 ec ?_
      exact⟨xu,ho,Z,Z,Z,rfl,rfl⟩
     ·clear ei ej e0 e1 ec
      rintro m2 ⟨env,M2,n2⟩ ⟨i',e0,e1,ec,ei,ej,aW,bJ,fq,c1,c2,c3,c4⟩;simp only at ei ej e0 e1 ec aW bJ fq;have c4:=Is.mk c4;by_cases eS:(i':Int)<=j
      ·have x1:=A.ix a Z
       have x2:=A.ix i' Z;have l1:=A.ld M2 d1 aW bv a Z;have l2:=A.ld M2 d1 aW bv i' Z;have wi:=bu (x:=i') Z;refine dw gz.o ei ej eS x1 x2 l1 l2 e0 e1 ec ?_;refine bF ?_ rfl ?_
       ·refine bR gz.o ?_;try exact⟨⟩
       refine bR gz.o ?_;refine aT (A.cs _ _ _ _) af ?_;cases hq:lt d1[i']! d1[a]! with
       | true =>
         have hc:=A.hT hq;have c5:scanUp (fun x=>lt x d1[a]!) d1 j (i'+1)=scanUp (fun x=>lt x d1[a]!) d1 j i:=by rw[<-c4.eq,gj (i:=i') Z (by simp[hq])]
         have c5:=Is.mk c5;refine iQ gz.o ei ej hc wi e0 e1 ec ?_;exact⟨j+1 - (i'+1),Z,i'+1,rfl,aW,bJ,Z,Z,Z,rfl,c5.eq⟩
       | false =>
         have hc:=A.hF hq;have c5:i'=i2:=by rw[bD.eq,<-c4.eq,cM (.inr (by simp[hq]))]
         have c6:=Is.mk c5;clear c5;refine gw gz.o ei ej hc e0 e1 ec ?_;rw[c6.eq];exact⟨rfl,aW,bJ,Z⟩
      ·have c5:i'=i2:=by rw[bD.eq,<-c4.eq,cM (.inl Z)]
       have c6:=Is.mk c5;clear c5;refine gw gz.o ei ej eS e0 e1 ec ?_;refine cA ?_ af ?_
       ·refine bR gz.o ?_;try exact⟨⟩
       refine gw gz.o ei ej eS e0 e1 ec ?_;rw[c6.eq];exact⟨rfl,aW,bJ,Z⟩
     ·clear ei ej e0 e1 ec xu ho bT
      rintro⟨env,M1,n1⟩ ⟨e0,e1,ec,ei,ej,xu,ho,bT⟩;simp only at ei ej e0 e1 ec xu ho bT;refine iC gz.o ei ej e0 e1 ec ?_;refine bB (J8 i2 d1 j) j (J9 i2 j2 d1) ⟨j,?_⟩ ?_ ?_
      ·refine iC gz.o ei ej e0 e1 ec ?_
       exact⟨xu,ho,Z,Z,Z,rfl,rfl⟩
      ·clear ei ej e0 e1 ec
       rintro m2 ⟨env,M2,n2⟩ ⟨j',e0,e1,ec,ei,ej,aW,bJ,fq,c1,c2,c3,c4⟩;simp only at ei ej e0 e1 ec aW bJ fq;have c4:=Is.mk c4;by_cases eS:(i2:Int)<=j'
       ·obtain⟨j',rfl⟩:∃q,j'=q+1:=⟨j' - 1,Z⟩
        have x1:=A.ix a Z;have x2:=A.ix (j'+1) Z;have l1:=A.ld M2 d1 aW bv a Z;have l2:=A.ld M2 d1 aW bv (j'+1) Z;have wj:=fQ (x:=j') Z;refine dw gz.o ei ej eS x1 x2 l1 l2 e0 e1 ec ?_;refine bF ?_ rfl ?_
        ·refine bR gz.o ?_;try exact⟨⟩
        refine bR gz.o ?_;refine aT (A.cs _ _ _ _) af ?_;cases hq:lt d1[j'+1]! d1[a]! with
        | false =>
          have hc:=A.hF hq;have c5:scanDown (fun x=>!lt x d1[a]!) d1 i2 j'=scanDown (fun x=>!lt x d1[a]!) d1 i2 j:=by rw[<-c4.eq,eG (j:=j') Z (by simp[hq])]
          have c5:=Is.mk c5;refine iQ gz.o ei ej hc wj e0 e1 ec ?_;exact⟨j',Z,j',rfl,aW,bJ,Z,Z,Z,rfl,c5.eq⟩
        | true =>
          have hc:=A.hT hq;have c5:j'+1=j2:=by rw[f_.eq,<-c4.eq,bY (.inr (by simp[hq]))]
          have c6:=Is.mk c5;clear c5;refine gw gz.o ei ej hc e0 e1 ec ?_;rw[c6.eq];exact⟨rfl,aW,bJ,Z⟩
       ·have c5:j'=j2:=by rw[f_.eq,<-c4.eq,bY (.inl Z)]
        have c6:=Is.mk c5;clear c5;refine gw gz.o ei ej eS e0 e1 ec ?_;refine cA ?_ af ?_
        ·refine bR gz.o ?_;try exact⟨⟩
        refine gw gz.o ei ej eS e0 e1 ec ?_;rw[c6.eq];exact⟨rfl,aW,bJ,Z⟩
      ·clear ei ej e0 e1 ec xu ho bT
       rintro⟨env,M1,n1⟩ ⟨e0,e1,ec,ei,ej,xu,ho,bT⟩;simp only at ei ej e0 e1 ec xu ho bT;by_cases u_:(j2:Int)<i2
       ·have bt:=hI.eq
        rw[if_pos Z]at bt;have T6:=AR.eq;rw[<-bt]at T6;subst T6;clear hI bt bD f_ AR;obtain⟨y1,y2,k1,k2,dg,dh⟩:=A.sw M1 d1 xu bv (i:=j2) (j:=a) Z Z;refine ii gz.o ei ej u_ @LA.eq_1 y1 y2 k1 k2 dg dh (aI e0 (aI e1 ec)) ?_;exact⟨⟨rfl,(by rw[swp_size];omega)⟩,(ho.set _).set _,Z⟩
       ·have bt:=hI.eq
        rw[if_neg Z]at bt;have bt:=Is.mk bt;clear hI bD f_;have b6:=b5 Z;have w1:=bu (x:=i2) Z;have w2:=cN (x:=j2) Z Z;obtain⟨y1,y2,k1,k2,dg,dh⟩:=A.sw M1 d1 xu bv (i:=i2) (j:=j2) Z Z;refine ii gz.o ei ej u_ w1 w2 y1 y2 k1 k2 dg (aI dh (aI e0 (aI e1 ec))) ?_;exact⟨j2 - 1+1 - (i2+1),Z,i2+1,j2 - 1,swp d1 i2 j2,rfl,rfl,rfl,((ho.set _).set _),Z,Z,Z,Z,rfl,(by rw[swp_size];exact bv),bt.eq⟩
 ):P:=h
theorem SZ (ρ:aK) {M:Hp} {nx k n:Nat} {sv:XV} {off:Nat->Nat} {lt:Int->Int->Bool} {rwo:Array Int->bx} {enc:Int->XV} (A:AU ρ lt rwo enc k n sv off) {d:Array Int} (hM:gG M k=some (rwo d)) (hd:d.size=n) (hk:k<nx) (hn:n<=1000) {a b pivot:Nat} (dX:a<=pivot) (JZ:pivot<b) (hb:b<=n) :
 ar am ρ 152 [sv,.int .i64 a,.int .i64 b,.int .i64 pivot] M nx (LA rwo nx k M (.tup [.int .i64 ((partition lt d a b pivot).1:Nat),.bool (partition lt d a b pivot).2.1]) (partition lt d a b pivot).2.2):=by
 obtain⟨R,hR⟩:∃R,R=partition lt d a b pivot:=⟨_,rfl⟩;rw[<-hR];obtain⟨d1,rB⟩:∃q,q=swp d a pivot:=⟨_,rfl⟩;obtain⟨i,hi⟩:∃q,q=a+1:=⟨_,rfl⟩;obtain⟨j,hj⟩:∃q,q=b - 1:=⟨_,rfl⟩;obtain⟨i2,bD⟩:∃q,q=scanUp (fun x=>lt x d1[a]!) d1 j i:=⟨_,rfl⟩;obtain⟨j2,f_⟩:∃q,q=scanDown (fun x=>!lt x d1[a]!) d1 i2 j:=⟨_,rfl⟩;have bv:d1.size=n:=by rw[rB,swp_size];exact hd
 obtain⟨b1,b2,b3,b4,b5⟩:=xe (fun x=>rfl) Z Z bD f_;have Gj:R=if i2>j2 then (j2,true,swp d1 j2 a) else ((partLoop lt a (i2+1) (j2 - 1) (swp d1 i2 j2)).1,false,swp (partLoop lt a (i2+1) (j2 - 1) (swp d1 i2 j2)).2 (partLoop lt a (i2+1) (j2 - 1) (swp d1 i2 j2)).1 a):=by
  subst f_;subst bD;subst rB;subst hi;subst hj;exact hR
 have Gj:=Is.mk Gj;have w1:IntKind.i64.wrap ((a:Int)+1)=(i:Int):=by rw[wrap_i64 Z Z];omega
 have w2:IntKind.i64.wrap ((b:Int) - 1)=(j:Int):=by rw[wrap_i64 Z Z];omega
 obtain⟨y1,y2,k1,k2,dg,dh⟩:=A.sw M d hM hd (i:=a) (j:=pivot) Z Z;have rz:rwo ((d.setIfInBounds a d[pivot]!).setIfInBounds pivot d[a]!)=rwo d1:=by rw[rB];rfl
 have bD:=Is.mk bD;have f_:=Is.mk f_;have hR:=Is.mk hR;have rB:=Is.mk rB;refine ar.wk 168 [.tmp 8,.tmp 9] Tryz.func152 ?_
 let J0:=fun(i:Nat) (j:Nat) (d1:Array Int)=>(fun(s:XS)=>gG s.env 0=some sv/\gG s.env 1=some (.int .i64 a)/\gG s.env 0=some sv/\gG s.env 10=some (.int .i64 i)/\gG s.env 11=some (.int .i64 j)/\gG s.M k=some (rwo d1)/\bK nx k M s.M/\nx<=s.nx)
 let J1:=fun(j:Nat) (d1:Array Int) (i:Nat)=>(fun(m2:Nat) (s:XS)=>∃i':Nat,gG s.env 0=some sv/\gG s.env 1=some (.int .i64 a)/\gG s.env 0=some sv/\gG s.env 10=some (.int .i64 i')/\gG s.env 11=some (.int .i64 j)/\gG s.M k=some (rwo d1)/\bK nx k M s.M/\nx<=s.nx/\Rq (fun x=>lt x d1[a]!) d1 i j i' m2)
 let J2:=fun(i2:Nat) (j:Nat) (d1:Array Int)=>(fun(s:XS)=>gG s.env 0=some sv/\gG s.env 1=some (.int .i64 a)/\gG s.env 0=some sv/\gG s.env 10=some (.int .i64 i2)/\gG s.env 11=some (.int .i64 j)/\gG s.M k=some (rwo d1)/\bK nx k M s.M/\nx<=s.nx)
 let J3:=fun(i2:Nat) (d1:Array Int) (j:Nat)=>(fun(m2:Nat) (s:XS)=>∃j':Nat,gG s.env 0=some sv/\gG s.env 1=some (.int .i64 a)/\gG s.env 0=some sv/\gG s.env 10=some (.int .i64 i2)/\gG s.env 11=some (.int .i64 j')/\gG s.M k=some (rwo d1)/\bK nx k M s.M/\nx<=s.nx/\Rw (fun x=>!lt x d1[a]!) d1 i2 j j' m2)
 let J4:=fun(i2:Nat) (j2:Nat) (d1:Array Int)=>(fun(s:XS)=>gG s.env 0=some sv/\gG s.env 1=some (.int .i64 a)/\gG s.env 0=some sv/\gG s.env 10=some (.int .i64 i2)/\gG s.env 11=some (.int .i64 j2)/\gG s.M k=some (rwo d1)/\bK nx k M s.M/\nx<=s.nx)
 let J5:=fun(Rr:Nat×Array Int)=>(fun(m:Nat) (s:XS)=>∃(i j:Nat) (d1:Array Int),gG s.env 0=some sv/\gG s.env 1=some (.int .i64 a)/\gG s.env 0=some sv/\gG s.env 10=some (.int .i64 i)/\gG s.env 11=some (.int .i64 j)/\gG s.M k=some (rwo d1)/\bK nx k M s.M/\nx<=s.nx/\aae lt a b n Rr m i j d1)
 let J6:=fun(j:Nat) (d1:Array Int) (i:Nat)=>(fun(m2:Nat) (s:XS)=>∃i':Nat,gG s.env 0=some sv/\gG s.env 1=some (.int .i64 a)/\gG s.env 0=some sv/\gG s.env 10=some (.int .i64 i')/\gG s.env 11=some (.int .i64 j)/\gG s.M k=some (rwo d1)/\bK nx k M s.M/\nx<=s.nx/\Rq (fun x=>lt x d1[a]!) d1 i j i' m2)
 let J7:=fun(i2:Nat) (j:Nat) (d1:Array Int)=>(fun(s:XS)=>gG s.env 0=some sv/\gG s.env 1=some (.int .i64 a)/\gG s.env 0=some sv/\gG s.env 10=some (.int .i64 i2)/\gG s.env 11=some (.int .i64 j)/\gG s.M k=some (rwo d1)/\bK nx k M s.M/\nx<=s.nx)
 let J8:=fun(i2:Nat) (d1:Array Int) (j:Nat)=>(fun(m2:Nat) (s:XS)=>∃j':Nat,gG s.env 0=some sv/\gG s.env 1=some (.int .i64 a)/\gG s.env 0=some sv/\gG s.env 10=some (.int .i64 i2)/\gG s.env 11=some (.int .i64 j')/\gG s.M k=some (rwo d1)/\bK nx k M s.M/\nx<=s.nx/\Rw (fun x=>!lt x d1[a]!) d1 i2 j j' m2)
 let J9:=fun(i2:Nat) (j2:Nat) (d1:Array Int)=>(fun(s:XS)=>gG s.env 0=some sv/\gG s.env 1=some (.int .i64 a)/\gG s.env 0=some sv/\gG s.env 10=some (.int .i64 i2)/\gG s.env 11=some (.int .i64 j2)/\gG s.M k=some (rwo d1)/\bK nx k M s.M/\nx<=s.nx)
 have gz:=Wr.mk gy113;exact mc9
end
end Go.Xs
namespace Go.Xs
open List Nat Option
noncomputable section
open Go.Proofs Go.Sort
theorem Tn {P:Prop} (h:P:=by
 refine mI gz.o w1 ?_;refine aC J0
  5 ⟨0,a+1,d,?_⟩ ?_
 ·refine bR gz.o ?_
  have NN:=hR.eq.symm
  (repeat' (apply an))<;>first | assumption | rfl | omega | exact bK.refl _ _ _ | exact bK.set (bK.set ho _) _ | (rw[swp_size];assumption) | exact congrArg _ Z
 ·clear w1 hR hM hd
  rintro m ⟨env,M1,n1⟩ ⟨jj,i,d1,e0,e1,e2,ec,ei,ej,xu,ho,bT,h1,h2,h4,h3,bv,hI⟩;simp only at e0 e1 e2 ec ei ej xu ho bT;by_cases h5:(jj:Int)<5
  ·obtain⟨i2,bD⟩:∃q,q=scanSorted lt d1 b i:=⟨_,rfl⟩
   obtain⟨b1,b2⟩:=oE lt d1 b _ i rfl h2;rw[<-bD]at b1 b2;rw[show 5 - jj=(5 - (jj+1))+1 by omega,partialIns_succ,<-bD]at hI;have hI:=Is.mk hI;have bD:=Is.mk bD;have wjj:=bu (x:=jj) Z;refine iQ gz.o ei ej h5 e0 e1 e2 ec ?_;refine bB (J1 jj d1 i) (b - i)
    (J2 i2 jj d1) ⟨i,?_⟩ ?_ ?_
   ·refine gw gz.o ei ej e0 e1 e2 ec ?_
    exact⟨xu,ho,Z,Z,Z,rfl,rfl⟩
   ·clear ei ej e0 e1 e2 ec
    rintro m2 ⟨env,M2,n2⟩ ⟨i',e0,e1,e2,ec,ei,ej,aW,bJ,fq,c1,c2,c3,c4⟩;simp only at ei ej e0 e1 e2 ec aW bJ fq;have c4:=Is.mk c4;by_cases eS:(i':Int)<b
    ·have x1:=A.ix i' Z
     have x2:=A.ix (i' - 1) Z;have l1:=A.ld M2 d1 aW bv i' Z;have l2:=A.ld M2 d1 aW bv (i' - 1) Z;have wi:=bu (x:=i') Z;have wm:=cN (x:=i') Z Z;refine ii gz.o ei ej eS wm x1 x2 l1 l2 e0 e1 (aI e2 ec) ?_;refine bF ?_ rfl ?_
     ·refine bR gz.o ?_;try exact⟨⟩
     refine bR gz.o ?_;refine aT (A.cs _ _ _ _) af ?_;cases hq:lt d1[i']! d1[i' - 1]! with
     | false =>
       have hc:=A.hF hq;have c5:scanSorted lt d1 b (i'+1)=scanSorted lt d1 b i:=by rw[<-c4.eq,iU (i:=i') Z hq]
       have c5:=Is.mk c5;refine CU gz.o ei ej hc wi e0 e1 e2 ec ?_;exact⟨b - (i'+1),Z,i'+1,rfl,aW,bJ,Z,Z,Z,rfl,c5.eq⟩
     | true =>
       have hc:=A.hT hq;have c5:i'=i2:=by rw[bD.eq,<-c4.eq,dC (.inr hq)]
       have c6:=Is.mk c5;clear c5;refine iQ gz.o ei ej hc e0 e1 e2 ec ?_;rw[c6.eq];exact⟨rfl,aW,bJ,Z⟩
    ·have c5:i'=i2:=by rw[bD.eq,<-c4.eq,dC (.inl Z)]
     have c6:=Is.mk c5;clear c5;refine iQ gz.o ei ej eS e0 e1 e2 ec ?_;refine cA ?_ af ?_
     ·refine bR gz.o ?_;try exact⟨⟩
     refine iQ gz.o ei ej eS e0 e1 e2 ec ?_;rw[c6.eq];exact⟨rfl,aW,bJ,Z⟩
   ·clear ei ej e0 e1 e2 ec xu ho bT
    rintro⟨env,M1,n1⟩ ⟨e0,e1,e2,ec,ei,ej,xu,ho,bT⟩;simp only at ei ej e0 e1 e2 ec xu ho bT;by_cases rC:i2=b
    ·have bt:=hI.eq
     rw[if_pos rC]at bt;subst bt;have pz:(i2:Int)=(b:Int):=Z;clear hI bD;refine dp gz.o ei ej rC pz @LA.eq_1 e0 e1 e2 ec ?_;exact⟨⟨xu,Z⟩,ho,Z⟩
    ·have bt:=hI.eq
     rw[if_neg rC]at bt;have pz:¬ (i2:Int)=(b:Int):=Z;have wba:=dO (x:=b) (y:=a) Z Z;by_cases AO:((b - a:Nat):Int)<50
     ·rw[if_pos Z]at bt
      subst bt;clear hI bD;refine ii gz.o ei ej rC pz wba AO @LA.eq_1 e0 e1 e2 ec ?_;exact⟨⟨xu,Z⟩,ho,Z⟩
     ·rw[if_neg Z]at bt
      obtain⟨d3,j8⟩:∃q,q=fixDown lt a i2 (swp d1 i2 (i2 - 1)):=⟨_,rfl⟩;rw[<-j8]at bt;obtain⟨d4,fZ⟩:∃q,q=fixUp lt b i2 d3:=⟨_,rfl⟩;rw[<-fZ]at bt;have hI3:=Is.mk bt;have s3:d3.size=n:=by
       rw[j8];unfold fixDown;split
       ·exact jO _ _ _ (by rw[swp_size];exact bv)
       ·rw[swp_size];exact bv
      have s4:d4.size=n:=by
       rw[fZ];unfold fixUp;split
       ·exact qf _ _ _ _ _ rfl s3
       ·exact s3
      unfold fixDown at j8;unfold fixUp at fZ;clear hI bt bD;have wia:=dO (x:=i2) (y:=a) Z Z;have wbi:=dO (x:=b) (y:=i2) Z Z;have MW:=cN (x:=i2) Z Z;have UZ:=bu (x:=i2) Z;obtain⟨y1,y2,k1,k2,dg,dh⟩:=A.sw M1 d1 xu bv (i:=i2) (j:=i2 - 1) Z Z;by_cases q2:(2:Int)<=((i2 - a:Nat):Int)
      ·rw[if_pos Z]at j8
       have j8:=Is.mk j8;by_cases q3:(2:Int)<=((b - i2:Nat):Int)
       ·rw[if_pos Z]at fZ
        have fZ:=Is.mk fZ;refine ii gz.o ei ej rC pz wba AO wia q2 MW y1 (aI y2 (aI k1 (aI k2 (aI dg (aI dh (aI e0 (aI e1 (aI e2 ec)))))))) ?_;clear y1 y2 k1 k2 dg dh;refine bB (J3 i2 jj d3) (i2 - 1)
         (J4 i2 jj d3) ⟨i2 - 1,swp d1 i2 (i2 - 1),?_⟩ ?_ ?_
        ·refine gw gz.o ei ej e0 e1 e2 ec ?_
         have QC:=j8.eq.symm
         (repeat' (apply an))<;>first | assumption | rfl | omega | exact bK.refl _ _ _ | exact bK.set (bK.set ho _) _ | (rw[swp_size];assumption) | exact congrArg _ Z
        ·clear ei ej e0 e1 e2 ec xu bT
         rintro m2 ⟨env,M2,n2⟩ ⟨j',d2,e0,e1,e2,ec,ei,ej,e9,aW,bJ,fq,c1,c2,c3,c4⟩;simp only at ei ej e9 e0 e1 e2 ec aW bJ fq;by_cases mj:(1:Int)<=j'
         ·obtain⟨j',rfl⟩:∃q,j'=q+1:=⟨j' - 1,Z⟩
          have c4:=Is.mk c4;have wj:=fQ (x:=j') Z;obtain⟨y1,y2,k1,k2,dg,dh⟩:=A.sw M2 d2 aW c3 (i:=j'+1) (j:=j') Z Z;refine ii gz.o ei ej e9 mj wj y1 y2 k1 k2 e0 (aI e1 (aI e2 ec)) ?_;refine aT (A.cs _ _ _ _) af ?_;cases hq:lt d2[j'+1]! d2[j']! with
          | true =>
            have hc:=A.hT hq;have c5:shiftDown lt j' (swp d2 (j'+1) j')=d3:=by rw[<-c4.eq,shiftDown,hq];rfl
            have c5:=Is.mk c5;refine ii gz.o ei ej e9 hc wj y1 y2 k1 k2 dg (aI dh (aI e0 (aI e1 (aI e2 ec)))) ?_;exact⟨j',Z,j',swp d2 (j'+1) j',rfl,rfl,((bJ.set _).set _),Z,Z,rfl,(by rw[swp_size];exact c3),c5.eq⟩
          | false =>
            have hc:=A.hF hq;have c5:d2=d3:=by rw[<-c4.eq,shiftDown,hq];rfl
            have c5:=Is.mk c5;clear c4;refine CU gz.o ei ej e9 hc e0 e1 e2 ec ?_;rw[<-c5.eq];exact⟨aW,bJ,Z⟩
         ·have c5:d2=d3:=by rw[<-c4,show j'=0 by omega];rfl
          have c5:=Is.mk c5;clear c4;refine CU gz.o ei ej e9 mj e0 e1 e2 ec ?_;rw[<-c5.eq];exact⟨aW,bJ,Z⟩
        ·clear ei ej e0 e1 e2 ec xu ho bT bv
         rintro⟨env,M1,n1⟩ ⟨e0,e1,e2,ec,ei,ej,xu,ho,bT⟩;simp only at ei ej e0 e1 e2 ec xu ho bT;refine dp gz.o ei ej wbi q3 UZ e0 e1 e2 ec ?_;refine bB (J5 i2 jj d4) (b - (i2+1))
          (J6 i2 jj d4) ⟨i2+1,d3,?_⟩ ?_ ?_
         ·refine gw gz.o ei ej e0 e1 e2 ec ?_
          have QD:=fZ.eq.symm
          (repeat' (apply an))<;>first | assumption | rfl | omega | exact bK.refl _ _ _ | exact bK.set (bK.set ho _) _ | (rw[swp_size];assumption) | exact congrArg _ Z
         ·clear ei ej e0 e1 e2 ec xu bT
          rintro m2 ⟨env,M2,n2⟩ ⟨j',d2,e0,e1,e2,ec,ei,ej,e9,aW,bJ,fq,c0,c1,c2,c3,c4⟩;simp only at ei ej e9 e0 e1 e2 ec aW bJ fq;by_cases mj:(j':Int)<b
          ·have c4:=Is.mk c4
           have wj:=cN (x:=j') Z Z;have Rj:=bu (x:=j') Z;obtain⟨y1,y2,k1,k2,dg,dh⟩:=A.sw M2 d2 aW c3 (i:=j') (j:=j' - 1) Z Z;refine ii gz.o ei ej e9 mj wj y1 y2 k1 k2 e0 (aI e1 (aI e2 ec)) ?_;refine aT (A.cs _ _ _ _) af ?_;cases hq:lt d2[j']! d2[j' - 1]! with
           | true =>
             have hc:=A.hT hq;have c5:shiftUp lt b (j'+1) (swp d2 j' (j' - 1))=d4:=by rw[<-c4.eq,jv (j:=j') (d:=d2) Z hq]
             have c5:=Is.mk c5;refine ii gz.o ei ej e9 hc wj Rj y1 y2 k1 k2 (aI dg (aI dh (aI e0 (aI e1 (aI e2 ec))))) ?_;exact⟨b - (j'+1),Z,j'+1,swp d2 j' (j' - 1),rfl,rfl,((bJ.set _).set _),Z,Z,Z,rfl,(by rw[swp_size];exact c3),c5.eq⟩
           | false =>
             have hc:=A.hF hq;have c5:d2=d4:=by rw[<-c4.eq,shiftUp,if_pos Z,hq];rfl
             have c5:=Is.mk c5;clear c4;refine CU gz.o ei ej e9 hc e0 e1 e2 ec ?_;rw[<-c5.eq];exact⟨aW,bJ,Z⟩
          ·have c5:d2=d4:=by rw[<-c4,shiftUp,if_neg Z]
           have c5:=Is.mk c5;clear c4;refine CU gz.o ei ej e9 mj e0 e1 e2 ec ?_;rw[<-c5.eq];exact⟨aW,bJ,Z⟩
         ·clear ei ej e0 e1 e2 ec xu ho bT
          rintro⟨env,M1,n1⟩ ⟨e0,e1,e2,ec,ei,ej,xu,ho,bT⟩;simp only at ei ej e0 e1 e2 ec xu ho bT;refine iQ gz.o ei ej wjj e0 e1 e2 ec ?_;exact⟨5 - (jj+1),Z,jj+1,i2,d4,rfl,rfl,xu,ho,Z,Z,Z,Z,rfl,s4,hI3.eq⟩
       ·rw[if_neg Z]at fZ
        have fZ:=Is.mk fZ;refine ii gz.o ei ej rC pz wba AO wia q2 MW y1 (aI y2 (aI k1 (aI k2 (aI dg (aI dh (aI e0 (aI e1 (aI e2 ec)))))))) ?_;clear y1 y2 k1 k2 dg dh;refine bB (J7 i2 jj d3) (i2 - 1)
         (J8 i2 jj d3) ⟨i2 - 1,swp d1 i2 (i2 - 1),?_⟩ ?_ ?_
        ·refine gw gz.o ei ej e0 e1 e2 ec ?_
         have QC:=j8.eq.symm
         (repeat' (apply an))<;>first | assumption | rfl | omega | exact bK.refl _ _ _ | exact bK.set (bK.set ho _) _ | (rw[swp_size];assumption) | exact congrArg _ Z
        ·clear ei ej e0 e1 e2 ec xu bT
         rintro m2 ⟨env,M2,n2⟩ ⟨j',d2,e0,e1,e2,ec,ei,ej,e9,aW,bJ,fq,c1,c2,c3,c4⟩;simp only at ei ej e9 e0 e1 e2 ec aW bJ fq;by_cases mj:(1:Int)<=j'
         ·obtain⟨j',rfl⟩:∃q,j'=q+1:=⟨j' - 1,Z⟩
          have c4:=Is.mk c4;have wj:=fQ (x:=j') Z;obtain⟨y1,y2,k1,k2,dg,dh⟩:=A.sw M2 d2 aW c3 (i:=j'+1) (j:=j') Z Z;refine ii gz.o ei ej e9 mj wj y1 y2 k1 k2 e0 (aI e1 (aI e2 ec)) ?_;refine aT (A.cs _ _ _ _) af ?_;cases hq:lt d2[j'+1]! d2[j']! with
          | true =>
            have hc:=A.hT hq;have c5:shiftDown lt j' (swp d2 (j'+1) j')=d3:=by rw[<-c4.eq,shiftDown,hq];rfl
            have c5:=Is.mk c5;refine ii gz.o ei ej e9 hc wj y1 y2 k1 k2 dg (aI dh (aI e0 (aI e1 (aI e2 ec)))) ?_;exact⟨j',Z,j',swp d2 (j'+1) j',rfl,rfl,((bJ.set _).set _),Z,Z,rfl,(by rw[swp_size];exact c3),c5.eq⟩
          | false =>
            have hc:=A.hF hq;have c5:d2=d3:=by rw[<-c4.eq,shiftDown,hq];rfl
            have c5:=Is.mk c5;clear c4;refine CU gz.o ei ej e9 hc e0 e1 e2 ec ?_;rw[<-c5.eq];exact⟨aW,bJ,Z⟩
         ·have c5:d2=d3:=by rw[<-c4,show j'=0 by omega];rfl
          have c5:=Is.mk c5;clear c4;refine CU gz.o ei ej e9 mj e0 e1 e2 ec ?_;rw[<-c5.eq];exact⟨aW,bJ,Z⟩
        ·clear ei ej e0 e1 e2 ec xu ho bT bv
         rintro⟨env,M1,n1⟩ ⟨e0,e1,e2,ec,ei,ej,xu,ho,bT⟩;simp only at ei ej e0 e1 e2 ec xu ho bT;refine dp gz.o ei ej wbi q3 wjj e0 e1 e2 ec ?_;exact⟨5 - (jj+1),Z,jj+1,i2,d4,rfl,rfl,by rw[fZ.eq];exact xu,ho,Z,Z,Z,Z,rfl,s4,hI3.eq⟩
      ·rw[if_neg Z]at j8
       have j8:=Is.mk j8;by_cases q3:(2:Int)<=((b - i2:Nat):Int)
       ·rw[if_pos Z,j8.eq]at fZ
        have fZ:=Is.mk fZ;refine ii gz.o ei ej rC pz wba AO wia q2 MW wbi (aI q3 (aI UZ (aI y1 (aI y2 (aI k1 (aI k2 (aI dg (aI dh (aI e0 (aI e1 (aI e2 ec))))))))))) ?_;clear y1 y2 k1 k2 dg dh;refine bB (J9 i2 jj d4) (b - (i2+1))
         (J10 i2 jj d4) ⟨i2+1,swp d1 i2 (i2 - 1),?_⟩ ?_ ?_
        ·refine gw gz.o ei ej e0 e1 e2 ec ?_
         have QD:=fZ.eq.symm
         (repeat' (apply an))<;>first | assumption | rfl | omega | exact bK.refl _ _ _ | exact bK.set (bK.set ho _) _ | (rw[swp_size];assumption) | exact congrArg _ Z
        ·clear ei ej e0 e1 e2 ec xu bT
         rintro m2 ⟨env,M2,n2⟩ ⟨j',d2,e0,e1,e2,ec,ei,ej,e9,aW,bJ,fq,c0,c1,c2,c3,c4⟩;simp only at ei ej e9 e0 e1 e2 ec aW bJ fq;by_cases mj:(j':Int)<b
         ·have c4:=Is.mk c4
          have wj:=cN (x:=j') Z Z;have Rj:=bu (x:=j') Z;obtain⟨y1,y2,k1,k2,dg,dh⟩:=A.sw M2 d2 aW c3 (i:=j') (j:=j' - 1) Z Z;refine ii gz.o ei ej e9 mj wj y1 y2 k1 k2 e0 (aI e1 (aI e2 ec)) ?_;refine aT (A.cs _ _ _ _) af ?_;cases hq:lt d2[j']! d2[j' - 1]! with
          | true =>
            have hc:=A.hT hq;have c5:shiftUp lt b (j'+1) (swp d2 j' (j' - 1))=d4:=by rw[<-c4.eq,jv (j:=j') (d:=d2) Z hq]
            have c5:=Is.mk c5;refine ii gz.o ei ej e9 hc wj Rj y1 y2 k1 k2 (aI dg (aI dh (aI e0 (aI e1 (aI e2 ec))))) ?_;exact⟨b - (j'+1),Z,j'+1,swp d2 j' (j' - 1),rfl,rfl,((bJ.set _).set _),Z,Z,Z,rfl,(by rw[swp_size];exact c3),c5.eq⟩
          | false =>
            have hc:=A.hF hq;have c5:d2=d4:=by rw[<-c4.eq,shiftUp,if_pos Z,hq];rfl
            have c5:=Is.mk c5;clear c4;refine CU gz.o ei ej e9 hc e0 e1 e2 ec ?_;rw[<-c5.eq];exact⟨aW,bJ,Z⟩
         ·have c5:d2=d4:=by rw[<-c4,shiftUp,if_neg Z]
          have c5:=Is.mk c5;clear c4;refine CU gz.o ei ej e9 mj e0 e1 e2 ec ?_;rw[<-c5.eq];exact⟨aW,bJ,Z⟩
        ·clear ei ej e0 e1 e2 ec xu ho bT
         rintro⟨env,M1,n1⟩ ⟨e0,e1,e2,ec,ei,ej,xu,ho,bT⟩;simp only at ei ej e0 e1 e2 ec xu ho bT;refine iQ gz.o ei ej wjj e0 e1 e2 ec ?_;exact⟨5 - (jj+1),Z,jj+1,i2,d4,rfl,rfl,xu,ho,Z,Z,Z,Z,rfl,s4,hI3.eq⟩
       ·rw[if_neg Z,j8.eq]at fZ
        have fZ:=Is.mk fZ;refine ii gz.o ei ej rC pz wba AO wia q2 MW wbi (aI q3 (aI wjj (aI y1 (aI y2 (aI k1 (aI k2 (aI dg (aI dh (aI e0 (aI e1 (aI e2 ec))))))))))) ?_;exact⟨5 - (jj+1),Z,jj+1,i2,d4,rfl,rfl,by rw[fZ.eq];rfl,(ho.set _).set _,Z,Z,Z,Z,rfl,s4,hI3.eq⟩
  ·rw[show 5 - jj=0 by omega]at hI
   have bt:R=(d1,false):=hI.symm;subst bt;clear hI;refine CU gz.o ei ej h5 @LA.eq_1 e0 e1 e2 ec ?_;exact⟨⟨xu,Z⟩,ho,Z⟩
 ):P:=h
theorem XI (ρ:aK) {M:Hp} {nx k n:Nat} {sv:XV} {off:Nat->Nat} {lt:Int->Int->Bool} {rwo:Array Int->bx} {enc:Int->XV} (A:AU ρ lt rwo enc k n sv off) {d:Array Int} (hM:gG M k=some (rwo d)) (hd:d.size=n) (hk:k<nx) (hn:n<=1000) {a b:Nat} (qJ:a<b) (hb:b<=n) :
 ar am ρ 149 [sv,.int .i64 a,.int .i64 b] M nx (LA rwo nx k M (.bool (partialInsertionSort lt d a b).2) (partialInsertionSort lt d a b).1):=by
 obtain⟨R,hR⟩:∃R,R=partialInsertionSort lt d a b:=⟨_,rfl⟩;rw[<-hR];have hR:=Is.mk hR;have w1:=bu (x:=a) Z;refine ar.wk 133 [.tmp 6] Tryz.func149 ?_
 let J0:=(fun(m:Nat) (s:XS)=>∃(jj i:Nat) (d1:Array Int),gG s.env 0=some sv/\gG s.env 1=some (.int .i64 a)/\gG s.env 2=some (.int .i64 b)/\gG s.env 0=some sv/\gG s.env 7=some (.int .i64 i)/\gG s.env 8=some (.int .i64 jj)/\gG s.M k=some (rwo d1)/\bK nx k M s.M/\nx<=s.nx/\aad lt a b n R m jj i d1)
 let J1:=fun(jj:Nat) (d1:Array Int) (i:Nat)=>(fun(m2:Nat) (s:XS)=>∃i':Nat,gG s.env 0=some sv/\gG s.env 1=some (.int .i64 a)/\gG s.env 2=some (.int .i64 b)/\gG s.env 0=some sv/\gG s.env 7=some (.int .i64 i')/\gG s.env 8=some (.int .i64 jj)/\gG s.M k=some (rwo d1)/\bK nx k M s.M/\nx<=s.nx/\ScS lt d1 b i i' m2)
 let J2:=fun(i2:Nat) (jj:Nat) (d1:Array Int)=>(fun(s:XS)=>gG s.env 0=some sv/\gG s.env 1=some (.int .i64 a)/\gG s.env 2=some (.int .i64 b)/\gG s.env 0=some sv/\gG s.env 7=some (.int .i64 i2)/\gG s.env 8=some (.int .i64 jj)/\gG s.M k=some (rwo d1)/\bK nx k M s.M/\nx<=s.nx)
 let J3:=fun(i2:Nat) (jj:Nat) (d3:Array Int)=>(fun(m2:Nat) (s:XS)=>∃(j':Nat) (d':Array Int),gG s.env 0=some sv/\gG s.env 1=some (.int .i64 a)/\gG s.env 2=some (.int .i64 b)/\gG s.env 0=some sv/\gG s.env 7=some (.int .i64 i2)/\gG s.env 8=some (.int .i64 jj)/\gG s.env 9=some (.int .i64 j')/\gG s.M k=some (rwo d')/\bK nx k M s.M/\nx<=s.nx/\Vi lt n i2 d3 j' m2 d')
 let J4:=fun(i2:Nat) (jj:Nat) (d3:Array Int)=>(fun(s:XS)=>gG s.env 0=some sv/\gG s.env 1=some (.int .i64 a)/\gG s.env 2=some (.int .i64 b)/\gG s.env 0=some sv/\gG s.env 7=some (.int .i64 i2)/\gG s.env 8=some (.int .i64 jj)/\gG s.M k=some (rwo d3)/\bK nx k M s.M/\nx<=s.nx)
 let J5:=fun(i2:Nat) (jj:Nat) (d4:Array Int)=>(fun(m2:Nat) (s:XS)=>∃(j':Nat) (d':Array Int),gG s.env 0=some sv/\gG s.env 1=some (.int .i64 a)/\gG s.env 2=some (.int .i64 b)/\gG s.env 0=some sv/\gG s.env 7=some (.int .i64 i2)/\gG s.env 8=some (.int .i64 jj)/\gG s.env 10=some (.int .i64 j')/\gG s.M k=some (rwo d')/\bK nx k M s.M/\nx<=s.nx/\Vj lt n b i2 d4 j' m2 d')
 let J6:=fun(i2:Nat) (jj:Nat) (d4:Array Int)=>(fun(s:XS)=>gG s.env 0=some sv/\gG s.env 1=some (.int .i64 a)/\gG s.env 2=some (.int .i64 b)/\gG s.env 0=some sv/\gG s.env 7=some (.int .i64 i2)/\gG s.env 8=some (.int .i64 jj)/\gG s.M k=some (rwo d4)/\bK nx k M s.M/\nx<=s.nx)
 let J7:=fun(i2:Nat) (jj:Nat) (d3:Array Int)=>(fun(m2:Nat) (s:XS)=>∃(j':Nat) (d':Array Int),gG s.env 0=some sv/\gG s.env 1=some (.int .i64 a)/\gG s.env 2=some (.int .i64 b)/\gG s.env 0=some sv/\gG s.env 7=some (.int .i64 i2)/\gG s.env 8=some (.int .i64 jj)/\gG s.env 9=some (.int .i64 j')/\gG s.M k=some (rwo d')/\bK nx k M s.M/\nx<=s.nx/\Vi lt n i2 d3 j' m2 d')
 let J8:=fun(i2:Nat) (jj:Nat) (d3:Array Int)=>(fun(s:XS)=>gG s.env 0=some sv/\gG s.env 1=some (.int .i64 a)/\gG s.env 2=some (.int .i64 b)/\gG s.env 0=some sv/\gG s.env 7=some (.int .i64 i2)/\gG s.env 8=some (.int .i64 jj)/\gG s.M k=some (rwo d3)/\bK nx k M s.M/\nx<=s.nx)
 let J9:=fun(i2:Nat) (jj:Nat) (d4:Array Int)=>(fun(m2:Nat) (s:XS)=>∃(j':Nat) (d':Array Int),gG s.env 0=some sv/\gG s.env 1=some (.int .i64 a)/\gG s.env 2=some (.int .i64 b)/\gG s.env 0=some sv/\gG s.env 7=some (.int .i64 i2)/\gG s.env 8=some (.int .i64 jj)/\gG s.env 10=some (.int .i64 j')/\gG s.M k=some (rwo d')/\bK nx k M s.M/\nx<=s.nx/\Vj lt n b i2 d4 j' m2 d')
 let J10:=fun(i2:Nat) (jj:Nat) (d4:Array Int)=>(fun(s:XS)=>gG s.env 0=some sv/\gG s.env 1=some (.int .i64 a)/\gG s.env 2=some (.int .i64 b)/\gG s.env 0=some sv/\gG s.env 7=some (.int .i64 i2)/\gG s.env 8=some (.int .i64 jj)/\gG s.M k=some (rwo d4)/\bK nx k M s.M/\nx<=s.nx)
 have gz:=Wr.mk gy113;exact Tn
end
end Go.Xs
namespace Go.Xs
open List Nat Option
noncomputable section
open Go.Proofs Go.Sort
theorem aah {P:Prop} (h:P:=by
 by_cases h8:(8:Int)<=l
 ·obtain⟨q,hq⟩:∃q,q=l / 4:=⟨_,rfl⟩
  obtain⟨i0,AW⟩:∃i,i=a+2*q - 1:=⟨_,rfl⟩;have w2:IntKind.i64.wrap ((l:Int).tdiv 4)=(q:Int):=by
   rw[show (l:Int).tdiv 4=(q:Int) by rw[Int.tdiv_eq_ediv_of_nonneg Z];omega,wrap_i64 Z Z]
  have w4:IntKind.i64.wrap ((q:Int)*2)=((2*q:Nat):Int):=by rw[wrap_i64 Z Z];omega
  have w5:=dK (x:=a) (y:=2*q) Z;have w6:IntKind.i64.wrap (((a+2*q:Nat):Int) - 1)=(i0:Int):=by rw[wrap_i64 Z Z];omega
  have w7:=bu (x:=a+2*q) Z;have w8:IntKind.u64.wrap (l:Int)=(l:Int):=wrap_u64 Z Z;refine ti gz.o w1 h8 w8 ?_;generalize xu:ci (ci M _ _) _ _=M1;have o1:bK nx k M M1:=by rw[<-xu];exact((bK.refl _ _ _).new Z _).new Z _
  have z1:gG M1 (nx+8)=some (.row [.int .u64 l]):=by rw[<-xu];exact J
  have z2:gG M1 k=some (rwo d):=by rw[<-xu];exact J
  clear xu;refine lG (Sz ρ _ _ l Z) fun M2 n2 g2 g3=>?_
  have o2:bK nx k M M2:=o1.agr (g2.le Z) (Nat.le_refl _);have z3:=(g2 (nx+8) Z).trans z1;have z4:=(g2 k Z).trans z2;have Ob:=rZ l Z Z;have Z2:1<=2 ^ bitsLen l:=Nat.one_le_two_pow;generalize 2 ^ bitsLen l=md at Ob Z2;have w9:IntKind.u64.wrap ((md:Int) - 1)=((md - 1:Nat):Int):=by rw[wrap_u64 Z Z];omega
  clear z1 z2 o1 g2;refine gw gz.o w1 w2 w4 w5 w6 h8 ?_;refine aC (J0 md i0)
   3 ⟨i0,d,l,?_⟩ ?_
  ·refine bR gz.o ?_
   exact⟨z4,z3,o2,Z,Z,Z,Z,hd,permIn_refl _ _ _⟩
  ·clear z3 z4 o2 hM hd
   rintro m ⟨env,M1,n1⟩ ⟨i,d1,r,e0,e1,e6,e7,e8,e9,xu,hr,ho,bT,h1,h2,h3,bv,hP⟩;simp only at e0 e1 e6 e7 e8 e9 xu hr ho bT;by_cases aL:(i:Int)<=(a+(2*q+1):Nat)
   ·refine ii gz.o e0 e1 e6 e7 e8 e9 w2 w4 w5 w7 aL ?_
    refine gQ (Su ρ hr) ?_;rintro⟨u,M2,n2⟩ ⟨r2,k1,k2,k3,k4⟩;simp only at k1 k2 k3 k4;subst k1;obtain⟨o,UB,VM⟩:=Hr r2 (md - 1) Z;have s4:bj .and .u64 r2 .u64 ((md - 1:Nat):Int)=some (.int .u64 (o:Int)):=by rw[<-UB];rfl
    have UY:IntKind.i64.wrap (o:Int)=(o:Int):=wrap_i64 Z Z;have aW:gG M2 k=some (rwo d1):=k3.get Z Z xu;have bJ:bK nx k M M2:=fun j hj ia=>(k3 j Z Z).trans (ho j hj ia)
    have wi:=bu (x:=i) Z;clear k3 hr;by_cases JY:(l:Int)<=o
    ·have w11:=dO (x:=o) (y:=l) Z Z
     have Ri:=dK (x:=a) (y:=o - l) Z;obtain⟨y1,y2,k1,k2,dg,dh⟩:=A.sw M2 d1 aW bv (i:=i) (j:=a+(o - l)) Z Z;refine ii gz.o e0 e1 e6 e7 e8 e9 w9 s4 UY JY (aI w11 (aI Ri (aI wi (aI y1 (aI y2 (aI k1 (aI k2 (aI dg dh)))))))) ?_;exact⟨i0+3 - (i+1),Z,i+1,swp d1 i (a+(o - l)),r2,rfl,rfl,J,(bJ.set _).set _,Z,Z,Z,rfl,(by rw[swp_size];exact bv),permIn_trans _ _ _ _ _ hP (swp_permIn _ _ _ _ _ Z Z Z Z Z)⟩
    ·have Ri:=dK (x:=a) (y:=o) Z
     obtain⟨y1,y2,k1,k2,dg,dh⟩:=A.sw M2 d1 aW bv (i:=i) (j:=a+o) Z Z;refine ii gz.o e0 e1 e6 e7 e8 e9 w9 s4 UY JY (aI Ri (aI wi (aI y1 (aI y2 (aI k1 (aI k2 (aI dg dh))))))) ?_;exact⟨i0+3 - (i+1),Z,i+1,swp d1 i (a+o),r2,rfl,rfl,J,(bJ.set _).set _,Z,Z,Z,rfl,(by rw[swp_size];exact bv),permIn_trans _ _ _ _ _ hP (swp_permIn _ _ _ _ _ Z Z Z Z Z)⟩
   ·refine ii gz.o e0 e1 e6 e7 e8 e9 w2 w4 w5 w7 (aI aL @Sw.eq_1) ?_
    exact⟨⟨d1,bv,hP,xu⟩,ho,Z⟩
 ·refine ti gz.o w1 h8 @Sw.eq_1 ?_
  exact⟨⟨d,hd,permIn_refl _ _ _,hM⟩,bK.refl _ _ _,Z⟩
 ):P:=h
theorem Yk (ρ:aK) {M:Hp} {nx k n:Nat} {sv:XV} {off:Nat->Nat} {lt:Int->Int->Bool} {rwo:Array Int->bx} {enc:Int->XV} (A:AU ρ lt rwo enc k n sv off) {d:Array Int} (hM:gG M k=some (rwo d)) (hd:d.size=n) (hk:k<nx) (hn:n<=1000) {a b:Nat} (qJ:a<b) (hb:b<=n) :
 ar am ρ 146 [sv,.int .i64 a,.int .i64 b] M nx (Sw rwo nx k n M a b d):=by
 obtain⟨l,hl⟩:∃q,q=b - a:=⟨_,rfl⟩;have w1:IntKind.i64.wrap ((b:Int) - (a:Int))=(l:Int):=by rw[hl];exact dO Z Z
 refine ar.wk 65 [] Tryz.func146 ?_
 let J0:=fun(md:Nat) (i0:Nat)=>(fun(m:Nat) (s:XS)=>∃(i:Nat) (d':Array Int) (r:Int),gG s.env 0=some sv/\gG s.env 1=some (.int .i64 a)/\gG s.env 6=some (.int .i64 l)/\gG s.env 7=some (.mp (nx+8) 0)/\gG s.env 8=some (.int .u64 md)/\gG s.env 9=some (.int .i64 i)/\gG s.M k=some (rwo d')/\gG s.M (nx+8)=some (.row [.int .u64 r])/\bK nx k M s.M/\nx+9<=s.nx/\aag a b n d i0 m i d')
 have gz:=Wr.mk gy114;exact aah
end
end Go.Xs
namespace Go.Xs
open List Nat Option
noncomputable section
open Go.Proofs Go.Sort
theorem aac {P:Prop} (h:P:=by
 refine bR gz.o ?_;refine aC J0
  (b - a) ⟨a,b,lim,true,true,d,?_⟩ ?_
 ·refine bR gz.o ?_
  exact⟨hM,bK.refl _ _ _,Z,Z,Z,Z,rfl,hd,hB,fun R h1 h2=>⟨h1,h2⟩⟩
 ·clear hM hd hB
  rintro m ⟨env,M1,n1⟩ ⟨x,y,lim',wb,wp,d1,e0,e1,e2,e3,ec,e8,e9,xu,ho,bT,h1,h2,h3,h4,bv,hB,hG⟩;simp only at e0 e1 e2 e3 ec e8 e9 xu ho bT;rw[l9];have w1:=dO (x:=y) (y:=x) Z Z;refine IF (J1 x y wb wp d1) ?_ ?_
  ·by_cases uO:((y - x:Nat):Int)<=12
   ·refine dp gz.o w1 uO e0 e1 e2 e3 ec e8 e9 ?_
    refine gQ (wins.o ρ A xu bv Z hn (a:=x) (b:=y) Z Z) ?_;rintro⟨u,M2,n2⟩ ⟨k1,⟨k2,_⟩,k3,k4⟩;simp only at k1 k2 k3 k4;subst k1;obtain⟨u1,u2⟩:=insertionSort_holds A.swo d1 x y Z Z;obtain⟨t1,t2⟩:=hG _ u1 u2;have ts:(insertionSort lt d1 x y).size=n:=u1.1.trans bv;refine mY gz.o @bU @cd @bQ @Mf.eq_1 ?_;exact⟨⟨_,ts,⟨t1,t2⟩,k2⟩,ho.trans k3 Z,Z⟩
   ·by_cases pG:lim'=0
    ·refine dw gz.o w1 uO pG e0 e1 e2 e3 ec e8 e9 ?_
     refine gQ (wheap.o ρ A xu bv Z hn (a:=x) (b:=y) Z Z) ?_;rintro⟨u,M2,n2⟩ ⟨k1,⟨k2,_⟩,k3,k4⟩;simp only at k1 k2 k3 k4;subst k1;obtain⟨u1,u2⟩:=heapSort_holds A.swo d1 x y Z Z;obtain⟨t1,t2⟩:=hG _ u1 u2;have ts:(heapSort lt d1 x y).size=n:=u1.1.trans bv;refine mY gz.o @bU @cd @bQ @Mf.eq_1 ?_;exact⟨⟨_,ts,⟨t1,t2⟩,k2⟩,ho.trans k3 Z,Z⟩
    ·cases wb with
     | true =>
       refine ii gz.o w1 uO pG @bU @cd @bQ e0 e1 e2 e3 (aI ec (aI e8 e9)) ?_;exact⟨lim',d1,rfl,xu,ho,Z,Z,bv,permIn_refl _ _ _⟩
     | false =>
       refine dw gz.o w1 uO pG e0 e1 e2 e3 ec e8 e9 ?_;refine gQ (wbrk.o ρ A xu bv Z hn (a:=x) (b:=y) Z Z) ?_;rintro⟨u,M2,n2⟩ ⟨k1,⟨d2,k2,k5,k6⟩,k3,k4⟩;simp only at k1 k6 k3 k4;subst k1;refine dw gz.o @bU @cd @bQ e0 e1 e2 e3 ec e8 e9 ?_;exact⟨IntKind.i64.wrap (lim' - 1),d2,rfl,k6,ho.trans k3 Z,Z,Z,k2,k5⟩
  clear e0 e1 e2 e3 ec e8 e9 xu ho bT;rintro⟨env,M1,n1⟩ ⟨iv,d2,e0,e1,e2,e3,ec,e8,e9,dx,xu,ho,bT,hl,py,hP⟩;simp only at e0 e1 e2 e3 ec e8 e9 dx xu ho bT;refine yz (J2 x y iv wb wp d1) ?_ ?_
  ·refine CU gz.o dx e0 e1 e2 e3 ec e8 e9 ?_
   refine gQ (wpiv.o ρ A xu py Z hn (a:=x) (b:=y) Z Z) ?_;rintro⟨u,M2,n2⟩ ⟨p,hh,k1,k2,k3,k4⟩;simp only at k1 k3 k4;subst k1;have aW:=(k3 k Z).trans xu;have bJ:=ho.agr k3 Z;clear k3;by_cases DY:hh=2
   ·have v1:=cN (x:=y) Z Z
    have v2:=dO (x:=p) (y:=x) Z Z;have v3:=dO (x:=y - 1) (y:=p - x) Z Z;refine dp gz.o dx DY e0 e1 e2 e3 ec e8 e9 ?_;refine gQ (wrev.o ρ A aW py Z hn (a:=x) (b:=y) Z Z) ?_;rintro⟨u,M3,n3⟩ ⟨j1,⟨j2,_⟩,j3,j4⟩;simp only at j1 j2 j3 j4;subst j1;have T5:=reverseRange_holds d2 x y Z Z;refine ii gz.o @bU @cd @bQ dx v1 v2 v3 e0 e1 e2 (aI e3 (aI ec (aI e8 e9))) ?_;exact⟨y - 1 - (p - x),1,reverseRange d2 x y,rfl,rfl,j2,bJ.trans j3 Z,Z,Z,Z,T5.1.trans py,permIn_trans _ _ _ _ _ hP T5⟩
   ·refine ii gz.o @bU @cd @bQ dx DY e0 e1 e2 e3 ec (aI e8 e9) ?_
    exact⟨p,hh,d2,rfl,rfl,aW,bJ,Z,Z,k2,py,hP⟩
  clear e0 e1 e2 e3 ec e8 e9 dx xu ho bT hl py hP d2;rintro⟨env,M1,n1⟩ ⟨p,hh,d3,e0,e1,e2,e3,ec,e8,e9,dx,ep,eh,xu,ho,bT,hl,hp,j8,hP⟩;simp only at e0 e1 e2 e3 ec e8 e9 dx ep eh xu ho bT;refine yo (J3 x y iv wb wp p d1) ?_ ?_
  ·by_cases hc:wb=true/\wp=true/\hh=1
   ·obtain⟨c1,c2,c3⟩:=hc
    subst c1;subst c2;refine ii gz.o dx ep eh c3 e0 e1 e2 e3 ec e8 e9 ?_;refine gQ (wpins.o ρ A xu j8 Z hn (a:=x) (b:=y) Z Z) ?_;rintro⟨u,M2,n2⟩ ⟨k1,⟨k2,_⟩,k3,k4⟩;simp only at k1 k2 k3 k4;subst k1;obtain⟨u1,u2⟩:=partialInsertionSort_holds A.swo d3 x y Z Z (hB.perm Z hP);have ts:(partialInsertionSort lt d3 x y).1.size=n:=u1.1.trans j8;cases hR:(partialInsertionSort lt d3 x y).2 with
    | true =>
      obtain⟨t1,t2⟩:=hG _ (permIn_trans _ _ _ _ _ hP u1) (u2 hR);refine ii gz.o @bU @cd @bQ @Mf.eq_1 e0 e1 e2 e3 ec e8 e9 ?_;exact⟨⟨_,ts,⟨t1,t2⟩,k2⟩,ho.trans k3 Z,Z⟩
    | false =>
      refine ii gz.o @bU @cd @bQ dx ep eh e0 e1 e2 e3 (aI ec (aI e8 e9)) ?_;exact⟨_,k2,ho.trans k3 Z,Z,Z,hp,ts,permIn_trans _ _ _ _ _ hP u1⟩
   ·cases wb with
    | false =>
      refine ii gz.o @bU @cd @bQ dx ep eh e0 e1 e2 e3 (aI ec (aI e8 e9)) ?_;exact⟨d3,xu,ho,Z,Z,hp,j8,hP⟩
    | true =>
      cases wp with
      | false =>
        refine ii gz.o @bU @cd @bQ dx ep eh e0 e1 e2 e3 (aI ec (aI e8 e9)) ?_;exact⟨d3,xu,ho,Z,Z,hp,j8,hP⟩
      | true =>
        have Zs:¬ hh=1:=fun q=>hc ⟨rfl,rfl,q⟩
        clear hc;refine ii gz.o @bU @cd @bQ dx ep eh Zs e0 e1 e2 (aI e3 (aI ec (aI e8 e9))) ?_;exact⟨d3,xu,ho,Z,Z,hp,j8,hP⟩
  clear e0 e1 e2 e3 ec e8 e9 dx ep eh xu ho bT hl hp j8 hP d3;rintro⟨env,M1,n1⟩ ⟨d4,e0,e1,e2,e3,ec,e8,e9,dx,ep,xu,ho,bT,hl,hp,fZ,hP⟩;simp only at e0 e1 e2 e3 ec e8 e9 dx ep xu ho bT;by_cases Q9:(0:Int)<x
  ·have x1:=A.ix (x - 1) Z
   have x2:=A.ix p Z;have l1:=A.ld M1 d4 xu fZ (x - 1) Z;have l2:=A.ld M1 d4 xu fZ p Z;have wx:=cN (x:=x) Z Z;simp (maxSteps:=10000000) (zetaDelta:=true) (disch:=first|assumption|decide|omega|(simp only[qG, *];done)|(simp only[qF,fE];first|done|assumption|omega)) only [qE,cz,oj,cB,gx,vI,vB,vX,kq,kg,km,Nat.reduceLT,reduceEqDiff,Nat.reduceAdd,Nat.reduceMul,Nat.reduceSub,reduceIte,Int.reduceLT,Int.reduceLE,Int.reduceEq,Int.reduceNeg,Int.reduceToNat,gz.o,dx,ep,Q9,wx,x1,x2,l1,l2,e0,e1,e2,e3,ec,e8,e9];refine bF ?_ rfl ?_
   ·refine bR gz.o ?_;try exact⟨⟩
   refine bR gz.o ?_;refine aT (A.cs _ _ _ _) af ?_;cases hq:lt d4[x - 1]! d4[p]! with
   | false =>
     have hc:=A.hF hq;refine dw gz.o dx ep hc e0 e1 e2 e3 ec e8 e9 ?_;refine gQ (wpeq.o ρ A xu fZ Z hn (a:=x) (b:=y) (pivot:=p) Z Z Z) ?_;rintro⟨u,M2,n2⟩ ⟨k1,⟨k2,_⟩,k3,k4⟩;simp only at k1 k2 k3 k4;subst k1;obtain⟨mid,d5,AS⟩:∃mid d5,partitionEqual lt d4 x y p=(mid,d5):=⟨_,_,rfl⟩;rw[AS]at k2 ⊢;simp only at k2 ⊢;obtain⟨r1,r2,r3,r4,r5⟩:=round_eq A.swo (partitionEqual_holds _) (d3:=d4) Z hp.1 hp.2 (by rw[fZ];omega) (hB.perm (by rw[bv];omega) hP) hq AS;refine dp gz.o dx ep e0 e1 e2 e3 ec e8 e9 ?_;exact⟨y - mid,Z,mid,y,iv,wb,wp,d5,rfl,rfl,rfl,rfl,rfl,k2,ho.trans k3 Z,Z,Z,Z,Z,rfl,r3.trans fZ,r4,fun R q1 q2=>let ⟨u1,u2⟩:=r5 R q1 q2;hG R (permIn_trans _ _ _ _ _ hP u1) u2⟩
   | true =>
     have hc:=A.hT hq;refine dw gz.o dx ep hc e0 e1 e2 e3 ec e8 e9 ?_;refine gQ (wpart.o ρ A xu fZ Z hn (a:=x) (b:=y) (pivot:=p) Z Z Z) ?_;rintro⟨u,M2,n2⟩ ⟨k1,⟨k2,_⟩,k3,k4⟩;simp only at k1 k2 k3 k4;subst k1;obtain⟨mid,al,d5,AS⟩:∃mid al d5,partition lt d4 x y p=(mid,al,d5):=⟨_,_,_,rfl⟩;rw[AS]at k2 ⊢;simp only at k2 ⊢;have Q_:y<=d4.size:=by rw[fZ];omega
     obtain⟨r1,r2,r3,r4,r5,r6,r7⟩:=round_part A.swo (partition_holds _) (d3:=d4) hp.1 hp.2 Q_ (hB.perm (by rw[bv];omega) hP) AS;have Ju:d5.size=n:=r3.trans fZ;have bJ:=ho.trans k3 Z;have aW:=k2;clear k2 k3;have v1:=dO (x:=mid) (y:=x) Z Z;have v2:=dO (x:=y) (y:=mid) Z Z;have v3:IntKind.i64.wrap (((y - x:Nat):Int).tdiv 8)=(((y - x) / 8:Nat):Int):=by
      rw[show ((y - x:Nat):Int).tdiv 8=(((y - x) / 8:Nat):Int) by rw[Int.tdiv_eq_ediv_of_nonneg Z];omega,wrap_i64 Z Z]
     have v4:=bu (x:=mid) Z;by_cases JD:((mid - x:Nat):Int)<((y - mid:Nat):Int)
     ·refine ii gz.o dx ep v1 v2 v3 v4 JD e0 e1 e2 (aI e3 (aI ec (aI e8 e9))) ?_
      refine gQ (ih (mid - x) Z A aW Ju Z hn (a:=x) (b:=mid) iv Z Z Z r4) ?_;rintro⟨u,M3,n3⟩ ⟨j1,⟨L,j2,⟨j3,j4⟩,j5⟩,j6,j7⟩;simp only at j1 j5 j6 j7;subst j1;obtain⟨t1,t2⟩:=r6 L j3 j4;refine dw gz.o dx ep v4 e0 e1 e2 e3 ec e8 e9 ?_;exact⟨y - (mid+1),Z,mid+1,y,iv,_,_,L,rfl,rfl,rfl,rfl,rfl,j5,bJ.trans j6 Z,Z,Z,Z,Z,rfl,j2,t1,fun R q1 q2=>let ⟨u1,u2⟩:=t2 R q1 q2;hG R (permIn_trans _ _ _ _ _ hP u1) u2⟩
     ·refine ii gz.o dx ep v1 v2 v3 v4 JD e0 e1 e2 (aI e3 (aI ec (aI e8 e9))) ?_
      refine gQ (ih (y - (mid+1)) Z A aW Ju Z hn (a:=mid+1) (b:=y) iv Z Z Z r5) ?_;rintro⟨u,M3,n3⟩ ⟨j1,⟨L,j2,⟨j3,j4⟩,j5⟩,j6,j7⟩;simp only at j1 j5 j6 j7;subst j1;obtain⟨t1,t2⟩:=r7 L j3 j4;refine dp gz.o dx ep e0 e1 e2 e3 ec e8 e9 ?_;exact⟨mid - x,Z,x,mid,iv,_,_,L,rfl,rfl,rfl,rfl,rfl,j5,bJ.trans j6 Z,Z,Z,Z,Z,rfl,j2,t1,fun R q1 q2=>let ⟨u1,u2⟩:=t2 R q1 q2;hG R (permIn_trans _ _ _ _ _ hP u1) u2⟩
  ·refine dw gz.o dx ep Q9 e0 e1 e2 e3 ec e8 e9 ?_
   refine cA ?_ af ?_
   ·refine bR gz.o ?_;try exact⟨⟩
   refine dw gz.o dx ep Q9 e0 e1 e2 e3 ec e8 e9 ?_;refine gQ (wpart.o ρ A xu fZ Z hn (a:=x) (b:=y) (pivot:=p) Z Z Z) ?_;rintro⟨u,M2,n2⟩ ⟨k1,⟨k2,_⟩,k3,k4⟩;simp only at k1 k2 k3 k4;subst k1;obtain⟨mid,al,d5,AS⟩:∃mid al d5,partition lt d4 x y p=(mid,al,d5):=⟨_,_,_,rfl⟩;rw[AS]at k2 ⊢;simp only at k2 ⊢;have Q_:y<=d4.size:=by rw[fZ];omega
   obtain⟨r1,r2,r3,r4,r5,r6,r7⟩:=round_part A.swo (partition_holds _) (d3:=d4) hp.1 hp.2 Q_ (hB.perm (by rw[bv];omega) hP) AS;have Ju:d5.size=n:=r3.trans fZ;have bJ:=ho.trans k3 Z;have aW:=k2;clear k2 k3;have v1:=dO (x:=mid) (y:=x) Z Z;have v2:=dO (x:=y) (y:=mid) Z Z;have v3:IntKind.i64.wrap (((y - x:Nat):Int).tdiv 8)=(((y - x) / 8:Nat):Int):=by
    rw[show ((y - x:Nat):Int).tdiv 8=(((y - x) / 8:Nat):Int) by rw[Int.tdiv_eq_ediv_of_nonneg Z];omega,wrap_i64 Z Z]
   have v4:=bu (x:=mid) Z;by_cases JD:((mid - x:Nat):Int)<((y - mid:Nat):Int)
   ·refine ii gz.o dx ep v1 v2 v3 v4 JD e0 e1 e2 (aI e3 (aI ec (aI e8 e9))) ?_
    refine gQ (ih (mid - x) Z A aW Ju Z hn (a:=x) (b:=mid) iv Z Z Z r4) ?_;rintro⟨u,M3,n3⟩ ⟨j1,⟨L,j2,⟨j3,j4⟩,j5⟩,j6,j7⟩;simp only at j1 j5 j6 j7;subst j1;obtain⟨t1,t2⟩:=r6 L j3 j4;refine dw gz.o dx ep v4 e0 e1 e2 e3 ec e8 e9 ?_;exact⟨y - (mid+1),Z,mid+1,y,iv,_,_,L,rfl,rfl,rfl,rfl,rfl,j5,bJ.trans j6 Z,Z,Z,Z,Z,rfl,j2,t1,fun R q1 q2=>let ⟨u1,u2⟩:=t2 R q1 q2;hG R (permIn_trans _ _ _ _ _ hP u1) u2⟩
   ·refine ii gz.o dx ep v1 v2 v3 v4 JD e0 e1 e2 (aI e3 (aI ec (aI e8 e9))) ?_
    refine gQ (ih (y - (mid+1)) Z A aW Ju Z hn (a:=mid+1) (b:=y) iv Z Z Z r5) ?_;rintro⟨u,M3,n3⟩ ⟨j1,⟨L,j2,⟨j3,j4⟩,j5⟩,j6,j7⟩;simp only at j1 j5 j6 j7;subst j1;obtain⟨t1,t2⟩:=r7 L j3 j4;refine dp gz.o dx ep e0 e1 e2 e3 ec e8 e9 ?_;exact⟨mid - x,Z,x,mid,iv,_,_,L,rfl,rfl,rfl,rfl,rfl,j5,bJ.trans j6 Z,Z,Z,Z,Z,rfl,j2,t1,fun R q1 q2=>let ⟨u1,u2⟩:=t2 R q1 q2;hG R (permIn_trans _ _ _ _ _ hP u1) u2⟩
 ):P:=h
theorem W5 (ρ:aK):∀(sz:Nat) {M:Hp} {nx k n:Nat} {sv:XV} {off:Nat->Nat} {lt:Int->Int->Bool} {rwo:Array Int->bx} {enc:Int->XV} (A:AU ρ lt rwo enc k n sv off) {d:Array Int} (hM:gG M k=some (rwo d)) (hd:d.size=n) (hk:k<nx) (hn:n<=1000) {a b:Nat} (lim:Int) (cJ:b - a<=sz) (qJ:a<=b) (hb:b<=n) (hB:Below lt a b d),
 ar am ρ 107 [sv,.int .i64 a,.int .i64 b,.int .i64 lim] M nx (Mf lt rwo nx k n M a b d):=by
 intro sz
 induction sz using Nat.strongRecOn with
 | _ sz ih =>
 intro M nx k n sv off lt rwo enc A d hM hd hk hn a b lim cJ qJ hb hB;refine ar.wk 134 [] Tryz.func107 ?_
 let J0:=(fun(m:Nat) (s:XS)=>∃(x y:Nat) (lim':Int) (wb wp:Bool) (d1:Array Int),gG s.env 0=some sv/\gG s.env 1=some (.int .i64 (x:Nat))/\gG s.env 2=some (.int .i64 (y:Nat))/\gG s.env 3=some (.int .i64 lim')/\gG s.env 0=some sv/\gG s.env 8=some (.bool wb)/\gG s.env 9=some (.bool wp)/\gG s.M k=some (rwo d1)/\bK nx k M s.M/\nx<=s.nx/\RZ lt a b n d m x y d1)
 let J1:=fun(x:Nat) (y:Nat) (wb:Bool) (wp:Bool) (d1:Array Int)=>(fun(s:XS)=>∃(iv:Int) (d2:Array Int),gG s.env 0=some sv/\gG s.env 1=some (.int .i64 (x:Nat))/\gG s.env 2=some (.int .i64 (y:Nat))/\gG s.env 3=some (.int .i64 iv)/\gG s.env 0=some sv/\gG s.env 8=some (.bool wb)/\gG s.env 9=some (.bool wp)/\gG s.env 10=some (.int .i64 (y - x:Nat))/\gG s.M k=some (rwo d2)/\bK nx k M s.M/\nx<=s.nx/\PmD n x y d1 d2)
 let J2:=fun(x:Nat) (y:Nat) (iv:Int) (wb:Bool) (wp:Bool) (d1:Array Int)=>(fun(s:XS)=>∃(p:Nat) (hh:Int) (d3:Array Int),gG s.env 0=some sv/\gG s.env 1=some (.int .i64 (x:Nat))/\gG s.env 2=some (.int .i64 (y:Nat))/\gG s.env 3=some (.int .i64 iv)/\gG s.env 0=some sv/\gG s.env 8=some (.bool wb)/\gG s.env 9=some (.bool wp)/\gG s.env 10=some (.int .i64 (y - x:Nat))/\gG s.env 11=some (.int .i64 p)/\gG s.env 12=some (.int .i64 hh)/\gG s.M k=some (rwo d3)/\bK nx k M s.M/\nx<=s.nx/\U6 n x y p d1 d3)
 let J3:=fun(x:Nat) (y:Nat) (iv:Int) (wb:Bool) (wp:Bool) (p:Nat) (d1:Array Int)=>(fun(s:XS)=>∃(d4:Array Int),gG s.env 0=some sv/\gG s.env 1=some (.int .i64 (x:Nat))/\gG s.env 2=some (.int .i64 (y:Nat))/\gG s.env 3=some (.int .i64 iv)/\gG s.env 0=some sv/\gG s.env 8=some (.bool wb)/\gG s.env 9=some (.bool wp)/\gG s.env 10=some (.int .i64 (y - x:Nat))/\gG s.env 11=some (.int .i64 p)/\gG s.M k=some (rwo d4)/\bK nx k M s.M/\nx<=s.nx/\U6 n x y p d1 d4)
 have gz:=Wr.mk gy115;have wins:=Wr.mk @XA;have wheap:=Wr.mk @Wk;have wbrk:=Wr.mk @Yk;have wpiv:=Wr.mk @WE;have wrev:=Wr.mk @Wj;have wpins:=Wr.mk @XI;have wpeq:=Wr.mk @WL;have wpart:=Wr.mk @SZ;exact aac
end
end Go.Xs
namespace Go.Xs
open List Nat Option
variable{M:Hp}{a b k n nx:Nat}{off:Nat->Nat}{sv:XV}
noncomputable section
open Go.Proofs Go.Sort
theorem f94 (ρ:aK) {lt:bO->bO->Bool} {rwo:Array bO->bx} {enc:bO->XV} {c:bO->bO->Int} (A:AI ρ lt rwo enc c k n sv off) {d:Array bO} (hM:gG M k=some (rwo d)) (hd:d.size=n) (hk:k<nx) (hn:n<=1000) (qJ:a<=b) (hb:b<=n) :
 ar am ρ 94 [sv,.int .i64 a,.int .i64 b,.fn (.func 40) [] []] M nx (yh rwo nx k M (insertionSort lt d a b)):=by
 refine ar.wk 53 [] Tryz.func94 ?_
 let J0:=(fun(m:Nat) (s:XS)=>∃(i:Nat) (d':Array bO),gG s.env 0=some sv/\gG s.env 1=some (.int .i64 a)/\gG s.env 2=some (.int .i64 b)/\gG s.env 3=some (.fn (.func 40) [] [])/\gG s.env 8=some (.int .i64 i)/\gG s.M k=some (rwo d')/\bK nx k M s.M/\nx<=s.nx/\To lt a b n d m i d')
 let J1:=fun(i:Nat) (d1:Array bO)=>(fun(m2:Nat) (s:XS)=>∃(d':Array bO),m2<=i/\gG s.env 0=some sv/\gG s.env 1=some (.int .i64 a)/\gG s.env 2=some (.int .i64 b)/\gG s.env 3=some (.fn (.func 40) [] [])/\gG s.env 8=some (.int .i64 i)/\gG s.env 9=some (.int .i64 m2)/\gG s.M k=some (rwo d')/\d'.size=n/\bK nx k M s.M/\nx<=s.nx/\Is (insInner lt a m2 d') (insInner lt a i d1))
 have gz:=Wr.mk fh;exact mc1
theorem f98 (ρ:aK) {lt:bO->bO->Bool} {rwo:Array bO->bx} {enc:bO->XV} {c:bO->bO->Int} (A:AI ρ lt rwo enc c k n sv off) {d:Array bO} (hM:gG M k=some (rwo d)) (hd:d.size=n) (hk:k<nx) (hn:n<=1000) (qJ:a<b) (hb:b<=n) :
 ar am ρ 98 [sv,.int .i64 a,.int .i64 b,.fn (.func 40) [] []] M nx (yh rwo nx k M (reverseRange d a b)):=by
 refine ar.wk 34 [] Tryz.func98 ?_
 let J0:=(fun(m:Nat) (s:XS)=>∃(i j:Nat) (d':Array bO),gG s.env 0=some sv/\gG s.env 8=some (.int .i64 i)/\gG s.env 9=some (.int .i64 j)/\gG s.M k=some (rwo d')/\bK nx k M s.M/\nx<=s.nx/\S3 a b n d m i j d')
 have gz:=Wr.mk fh;exact mc0
end
end Go.Xs
namespace Go.Xs
open List Nat Option
variable{M:Hp}{k n nx:Nat}{off:Nat->Nat}{sv:XV}
noncomputable section
open Go.Proofs Go.Sort
theorem Tq (ρ:aK) {lt:bO->bO->Bool} {rwo:Array bO->bx} {enc:bO->XV} {c:bO->bO->Int} (A:AI ρ lt rwo enc c k n sv off) {d:Array bO} (hM:gG M k=some (rwo d)) (hd:d.size=n) (hk:k<nx) (hn:n<=1000) {root hi first:Nat} (hb:first+hi<=n) (hr:root<=1000) :
 ar am ρ 138 [sv,.int .i64 root,.int .i64 hi,.int .i64 first,.fn (.func 40) [] []] M nx (yh rwo nx k M (siftDown lt hi first root d)):=by
 refine ar.wk 82 [] Tryz.func138 ?_
 let J0:=(fun(m:Nat) (s:XS)=>∃(r:Nat) (d':Array bO),gG s.env 0=some sv/\gG s.env 2=some (.int .i64 hi)/\gG s.env 3=some (.int .i64 first)/\gG s.env 4=some (.fn (.func 40) [] [])/\gG s.env 10=some (.int .i64 r)/\gG s.M k=some (rwo d')/\bK nx k M s.M/\nx<=s.nx/\aaa lt hi first root n d m r d')
 have gz:=Wr.mk gy116;exact mc3
theorem f95 (ρ:aK) {lt:bO->bO->Bool} {rwo:Array bO->bx} {enc:bO->XV} {c:bO->bO->Int} (A:AI ρ lt rwo enc c k n sv off) {d:Array bO} (hM:gG M k=some (rwo d)) (hd:d.size=n) (hk:k<nx) (hn:n<=1000) {a b:Nat} (qJ:a<b) (hb:b<=n) :
 ar am ρ 95 [sv,.int .i64 a,.int .i64 b,.fn (.func 40) [] []] M nx (yh rwo nx k M (heapSort lt d a b)):=by
 refine ar.wk 60 [] Tryz.func95 ?_
 let J0:=(fun(m:Nat) (s:XS)=>∃(kk:Nat) (d':Array bO),gG s.env 0=some sv/\gG s.env 3=some (.fn (.func 40) [] [])/\gG s.env 8=some (.int .i64 a)/\gG s.env 9=some (.int .i64 0)/\gG s.env 10=some (.int .i64 (b - a:Nat))/\gG s.env 11=some (.int .i64 ((kk:Int) - 1))/\gG s.M k=some (rwo d')/\bK nx k M s.M/\nx<=s.nx/\aaf lt a b n d m kk d')
 let J1:=(fun(m:Nat) (s:XS)=>∃(kk:Nat) (d':Array bO),gG s.env 0=some sv/\gG s.env 3=some (.fn (.func 40) [] [])/\gG s.env 8=some (.int .i64 a)/\gG s.env 9=some (.int .i64 0)/\gG s.env 12=some (.int .i64 ((kk:Int) - 1))/\gG s.M k=some (rwo d')/\bK nx k M s.M/\nx<=s.nx/\aab lt a b n d m kk d')
 have gz:=Wr.mk fh;have wsift:=Wr.mk @Tq;exact mc2
end
end Go.Xs
namespace Go.Xs
open List Nat Option
variable{M:Hp}{a b k lo n nx:Nat}{off:Nat->Nat}{sv:XV}
noncomputable section
open Go.Proofs Go.Sort
theorem OO (ρ:aK) {lt:bO->bO->Bool} {rwo:Array bO->bx} {enc:bO->XV} {c:bO->bO->Int} (A:AI ρ lt rwo enc c k n sv off) {d:Array bO} (hM:gG M k=some (rwo d)) (hd:d.size=n) (hk:k<nx) (hn:n<=1000) {p up:Nat} {s:Int} (hp:gG M p=some (.row [.int .i64 s])) (vh:k<p) (Gp:p<nx) (ha:lo<=a/\a<up) (hb:lo<=b/\b<up) (hu:up<=n) :
 ar am ρ 212 [sv,.int .i64 a,.int .i64 b,.mp p 0,.fn (.func 40) [] []] M nx (O2 nx p M lo up):=by
 have x1:=A.ix a Z;have x2:=A.ix b Z;have l1:=A.ld M d hM hd a Z;have l2:=A.ld M d hM hd b Z;refine ar.wk 32 [.tmp 10,.tmp 11] Tryz.func212 ?_;have gz:=Wr.mk fh;exact mc7
theorem OM (ρ:aK) {lt:bO->bO->Bool} {rwo:Array bO->bx} {enc:bO->XV} {c:bO->bO->Int} (A:AI ρ lt rwo enc c k n sv off) {d:Array bO} (hM:gG M k=some (rwo d)) (hd:d.size=n) (hk:k<nx) (hn:n<=1000) {p up c:Nat} {s:Int} (hp:gG M p=some (.row [.int .i64 s])) (vh:k<p) (Gp:p<nx) (ha:lo<=a/\a<up) (hb:lo<=b/\b<up) (hc:lo<=c/\c<up) (hu:up<=n) :
 ar am ρ 142 [sv,.int .i64 a,.int .i64 b,.int .i64 c,.mp p 0,.fn (.func 40) [] []] M nx (O1 nx p M lo up):=by
 refine ar.wk 41 [.tmp 12] Tryz.func142 ?_;have jS:=Wr.mk @OO;exact mc6
theorem Pe (ρ:aK) {lt:bO->bO->Bool} {rwo:Array bO->bx} {enc:bO->XV} {c:bO->bO->Int} (A:AI ρ lt rwo enc c k n sv off) {d:Array bO} (hM:gG M k=some (rwo d)) (hd:d.size=n) (hk:k<nx) (hn:n<=1000) {p up:Nat} {s:Int} (hp:gG M p=some (.row [.int .i64 s])) (vh:k<p) (Gp:p<nx) (ha:lo+1<=a/\a+1<up) (hu:up<=n) :
 ar am ρ 141 [sv,.int .i64 a,.mp p 0,.fn (.func 40) [] []] M nx (O1 nx p M lo up):=by
 have w1:=cN (x:=a) Z Z;have w2:=bu (x:=a) Z;refine ar.wk 18 [.tmp 8] Tryz.func141 ?_;have gz:=Wr.mk Pt;have wmed:=Wr.mk @OM;exact mc5
theorem f97 (ρ:aK) {lt:bO->bO->Bool} {rwo:Array bO->bx} {enc:bO->XV} {c:bO->bO->Int} (A:AI ρ lt rwo enc c k n sv off) {d:Array bO} (hM:gG M k=some (rwo d)) (hd:d.size=n) (hk:k<nx) (hn:n<=1000) (qJ:a<b) (hb:b<=n) :
 ar am ρ 97 [sv,.int .i64 a,.int .i64 b,.fn (.func 40) [] []] M nx (ot nx M a b):=by
 obtain⟨q,hq⟩:∃q,q=(b - a) / 4:=⟨_,rfl⟩;have w1:=dO (x:=b) (y:=a) Z Z;have w2:IntKind.i64.wrap (((b - a:Nat):Int).tdiv 4)=(q:Int):=by
  rw[show ((b - a:Nat):Int).tdiv 4=(q:Int) by rw[Int.tdiv_eq_ediv_of_nonneg Z];omega,wrap_i64 Z Z]
 have w3:IntKind.i64.wrap ((q:Int)*1)=(q:Int):=by rw[wrap_i64 Z Z];omega
 have w4:IntKind.i64.wrap ((q:Int)*2)=((2*q:Nat):Int):=by rw[wrap_i64 Z Z];omega
 have w5:IntKind.i64.wrap ((q:Int)*3)=((3*q:Nat):Int):=by rw[wrap_i64 Z Z];omega
 have w6:=dK (x:=a) (y:=q) Z;have w7:=dK (x:=a) (y:=2*q) Z;have w8:=dK (x:=a) (y:=3*q) Z;refine ar.wk 63 [.tmp 8,.tmp 9] Tryz.func97 ?_;have gz:=Wr.mk Pt;have wadj:=Wr.mk @Pe;have wmed:=Wr.mk @OM;exact mc4
end
end Go.Xs
namespace Go.Xs
open List Nat Option
noncomputable section
open Go.Proofs Go.Sort
theorem W6 (ρ:aK) {M:Hp} {nx k n:Nat} {sv:XV} {off:Nat->Nat} {lt:bO->bO->Bool} {rwo:Array bO->bx} {enc:bO->XV} {c:bO->bO->Int} (A:AI ρ lt rwo enc c k n sv off) {d:Array bO} (hM:gG M k=some (rwo d)) (hd:d.size=n) (hk:k<nx) (hn:n<=1000) {a b pivot:Nat} (dX:a<=pivot) (JZ:pivot<b) (hb:b<=n) :
 ar am ρ 100 [sv,.int .i64 a,.int .i64 b,.int .i64 pivot,.fn (.func 40) [] []] M nx (LA rwo nx k M (.int .i64 ((partitionEqual lt d a b pivot).1:Nat)) (partitionEqual lt d a b pivot).2):=by
 obtain⟨R,hR⟩:∃R,R=partitionEqual lt d a b pivot:=⟨_,rfl⟩;rw[<-hR];have w1:=bu (x:=a) Z;have w2:=cN (x:=b) Z Z;obtain⟨y1,y2,k1,k2,dg,dh⟩:=A.sw M d hM hd (i:=a) (j:=pivot) Z Z;refine ar.wk 90 [.tmp 10] Tryz.func100 ?_
 let J0:=(fun(m:Nat) (s:XS)=>∃(i j:Nat) (d1:Array bO),gG s.env 0=some sv/\gG s.env 1=some (.int .i64 a)/\gG s.env 4=some (.fn (.func 40) [] [])/\gG s.env 11=some (.int .i64 i)/\gG s.env 12=some (.int .i64 j)/\gG s.M k=some (rwo d1)/\bK nx k M s.M/\nx<=s.nx/\TH lt a b n R m i j d1)
 let J1:=fun(j:Nat) (d1:Array bO) (i:Nat)=>(fun(m2:Nat) (s:XS)=>∃i':Nat,gG s.env 0=some sv/\gG s.env 1=some (.int .i64 a)/\gG s.env 4=some (.fn (.func 40) [] [])/\gG s.env 11=some (.int .i64 i')/\gG s.env 12=some (.int .i64 j)/\gG s.M k=some (rwo d1)/\bK nx k M s.M/\nx<=s.nx/\Rq (fun x=>!lt d1[a]! x) d1 i j i' m2)
 let J2:=fun(i2:Nat) (j:Nat) (d1:Array bO)=>(fun(s:XS)=>gG s.env 0=some sv/\gG s.env 1=some (.int .i64 a)/\gG s.env 4=some (.fn (.func 40) [] [])/\gG s.env 11=some (.int .i64 i2)/\gG s.env 12=some (.int .i64 j)/\gG s.M k=some (rwo d1)/\bK nx k M s.M/\nx<=s.nx)
 let J3:=fun(i2:Nat) (d1:Array bO) (j:Nat)=>(fun(m2:Nat) (s:XS)=>∃j':Nat,gG s.env 0=some sv/\gG s.env 1=some (.int .i64 a)/\gG s.env 4=some (.fn (.func 40) [] [])/\gG s.env 11=some (.int .i64 i2)/\gG s.env 12=some (.int .i64 j')/\gG s.M k=some (rwo d1)/\bK nx k M s.M/\nx<=s.nx/\Rw (fun x=>lt d1[a]! x) d1 i2 j j' m2)
 let J4:=fun(i2:Nat) (j2:Nat) (d1:Array bO)=>(fun(s:XS)=>gG s.env 0=some sv/\gG s.env 1=some (.int .i64 a)/\gG s.env 4=some (.fn (.func 40) [] [])/\gG s.env 11=some (.int .i64 i2)/\gG s.env 12=some (.int .i64 j2)/\gG s.M k=some (rwo d1)/\bK nx k M s.M/\nx<=s.nx)
 have gz:=Wr.mk gy116;exact mc8
end
end Go.Xs
namespace Go.Xs
open List Nat Option
noncomputable section
open Go.Proofs Go.Sort
theorem Sh (ρ:aK) {M:Hp} {nx k n:Nat} {sv:XV} {off:Nat->Nat} {lt:bO->bO->Bool} {rwo:Array bO->bx} {enc:bO->XV} {c:bO->bO->Int} (A:AI ρ lt rwo enc c k n sv off) {d:Array bO} (hM:gG M k=some (rwo d)) (hd:d.size=n) (hk:k<nx) (hn:n<=1000) {a b pivot:Nat} (dX:a<=pivot) (JZ:pivot<b) (hb:b<=n) :
 ar am ρ 101 [sv,.int .i64 a,.int .i64 b,.int .i64 pivot,.fn (.func 40) [] []] M nx (LA rwo nx k M (.tup [.int .i64 ((partition lt d a b pivot).1:Nat),.bool (partition lt d a b pivot).2.1]) (partition lt d a b pivot).2.2):=by
 obtain⟨R,hR⟩:∃R,R=partition lt d a b pivot:=⟨_,rfl⟩;rw[<-hR];obtain⟨d1,rB⟩:∃q,q=swp d a pivot:=⟨_,rfl⟩;obtain⟨i,hi⟩:∃q,q=a+1:=⟨_,rfl⟩;obtain⟨j,hj⟩:∃q,q=b - 1:=⟨_,rfl⟩;obtain⟨i2,bD⟩:∃q,q=scanUp (fun x=>lt x d1[a]!) d1 j i:=⟨_,rfl⟩;obtain⟨j2,f_⟩:∃q,q=scanDown (fun x=>!lt x d1[a]!) d1 i2 j:=⟨_,rfl⟩;have bv:d1.size=n:=by rw[rB,swp_size];exact hd
 obtain⟨b1,b2,b3,b4,b5⟩:=xe (fun x=>rfl) Z Z bD f_;have Gj:R=if i2>j2 then (j2,true,swp d1 j2 a) else ((partLoop lt a (i2+1) (j2 - 1) (swp d1 i2 j2)).1,false,swp (partLoop lt a (i2+1) (j2 - 1) (swp d1 i2 j2)).2 (partLoop lt a (i2+1) (j2 - 1) (swp d1 i2 j2)).1 a):=by
  subst f_;subst bD;subst rB;subst hi;subst hj;exact hR
 have Gj:=Is.mk Gj;have w1:IntKind.i64.wrap ((a:Int)+1)=(i:Int):=by rw[wrap_i64 Z Z];omega
 have w2:IntKind.i64.wrap ((b:Int) - 1)=(j:Int):=by rw[wrap_i64 Z Z];omega
 obtain⟨y1,y2,k1,k2,dg,dh⟩:=A.sw M d hM hd (i:=a) (j:=pivot) Z Z;have rz:rwo ((d.setIfInBounds a d[pivot]!).setIfInBounds pivot d[a]!)=rwo d1:=by rw[rB];rfl
 have bD:=Is.mk bD;have f_:=Is.mk f_;have hR:=Is.mk hR;have rB:=Is.mk rB;refine ar.wk 178 [.tmp 10,.tmp 11] Tryz.func101 ?_
 let J0:=fun(i:Nat) (j:Nat) (d1:Array bO)=>(fun(s:XS)=>gG s.env 0=some sv/\gG s.env 1=some (.int .i64 a)/\gG s.env 4=some (.fn (.func 40) [] [])/\gG s.env 12=some (.int .i64 i)/\gG s.env 13=some (.int .i64 j)/\gG s.M k=some (rwo d1)/\bK nx k M s.M/\nx<=s.nx)
 let J1:=fun(j:Nat) (d1:Array bO) (i:Nat)=>(fun(m2:Nat) (s:XS)=>∃i':Nat,gG s.env 0=some sv/\gG s.env 1=some (.int .i64 a)/\gG s.env 4=some (.fn (.func 40) [] [])/\gG s.env 12=some (.int .i64 i')/\gG s.env 13=some (.int .i64 j)/\gG s.M k=some (rwo d1)/\bK nx k M s.M/\nx<=s.nx/\Rq (fun x=>lt x d1[a]!) d1 i j i' m2)
 let J2:=fun(i2:Nat) (j:Nat) (d1:Array bO)=>(fun(s:XS)=>gG s.env 0=some sv/\gG s.env 1=some (.int .i64 a)/\gG s.env 4=some (.fn (.func 40) [] [])/\gG s.env 12=some (.int .i64 i2)/\gG s.env 13=some (.int .i64 j)/\gG s.M k=some (rwo d1)/\bK nx k M s.M/\nx<=s.nx)
 let J3:=fun(i2:Nat) (d1:Array bO) (j:Nat)=>(fun(m2:Nat) (s:XS)=>∃j':Nat,gG s.env 0=some sv/\gG s.env 1=some (.int .i64 a)/\gG s.env 4=some (.fn (.func 40) [] [])/\gG s.env 12=some (.int .i64 i2)/\gG s.env 13=some (.int .i64 j')/\gG s.M k=some (rwo d1)/\bK nx k M s.M/\nx<=s.nx/\Rw (fun x=>!lt x d1[a]!) d1 i2 j j' m2)
 let J4:=fun(i2:Nat) (j2:Nat) (d1:Array bO)=>(fun(s:XS)=>gG s.env 0=some sv/\gG s.env 1=some (.int .i64 a)/\gG s.env 4=some (.fn (.func 40) [] [])/\gG s.env 12=some (.int .i64 i2)/\gG s.env 13=some (.int .i64 j2)/\gG s.M k=some (rwo d1)/\bK nx k M s.M/\nx<=s.nx)
 let J5:=fun(Rr:Nat×Array bO)=>(fun(m:Nat) (s:XS)=>∃(i j:Nat) (d1:Array bO),gG s.env 0=some sv/\gG s.env 1=some (.int .i64 a)/\gG s.env 4=some (.fn (.func 40) [] [])/\gG s.env 12=some (.int .i64 i)/\gG s.env 13=some (.int .i64 j)/\gG s.M k=some (rwo d1)/\bK nx k M s.M/\nx<=s.nx/\aae lt a b n Rr m i j d1)
 let J6:=fun(j:Nat) (d1:Array bO) (i:Nat)=>(fun(m2:Nat) (s:XS)=>∃i':Nat,gG s.env 0=some sv/\gG s.env 1=some (.int .i64 a)/\gG s.env 4=some (.fn (.func 40) [] [])/\gG s.env 12=some (.int .i64 i')/\gG s.env 13=some (.int .i64 j)/\gG s.M k=some (rwo d1)/\bK nx k M s.M/\nx<=s.nx/\Rq (fun x=>lt x d1[a]!) d1 i j i' m2)
 let J7:=fun(i2:Nat) (j:Nat) (d1:Array bO)=>(fun(s:XS)=>gG s.env 0=some sv/\gG s.env 1=some (.int .i64 a)/\gG s.env 4=some (.fn (.func 40) [] [])/\gG s.env 12=some (.int .i64 i2)/\gG s.env 13=some (.int .i64 j)/\gG s.M k=some (rwo d1)/\bK nx k M s.M/\nx<=s.nx)
 let J8:=fun(i2:Nat) (d1:Array bO) (j:Nat)=>(fun(m2:Nat) (s:XS)=>∃j':Nat,gG s.env 0=some sv/\gG s.env 1=some (.int .i64 a)/\gG s.env 4=some (.fn (.func 40) [] [])/\gG s.env 12=some (.int .i64 i2)/\gG s.env 13=some (.int .i64 j')/\gG s.M k=some (rwo d1)/\bK nx k M s.M/\nx<=s.nx/\Rw (fun x=>!lt x d1[a]!) d1 i2 j j' m2)
 let J9:=fun(i2:Nat) (j2:Nat) (d1:Array bO)=>(fun(s:XS)=>gG s.env 0=some sv/\gG s.env 1=some (.int .i64 a)/\gG s.env 4=some (.fn (.func 40) [] [])/\gG s.env 12=some (.int .i64 i2)/\gG s.env 13=some (.int .i64 j2)/\gG s.M k=some (rwo d1)/\bK nx k M s.M/\nx<=s.nx)
 have gz:=Wr.mk gy116;exact mc9
end
end Go.Xs
namespace Go.Xs
open List Nat Option
noncomputable section
open Go.Proofs Go.Sort
theorem f99 (ρ:aK) {M:Hp} {nx k n:Nat} {sv:XV} {off:Nat->Nat} {lt:bO->bO->Bool} {rwo:Array bO->bx} {enc:bO->XV} {c:bO->bO->Int} (A:AI ρ lt rwo enc c k n sv off) {d:Array bO} (hM:gG M k=some (rwo d)) (hd:d.size=n) (hk:k<nx) (hn:n<=1000) {a b:Nat} (qJ:a<b) (hb:b<=n) :
 ar am ρ 99 [sv,.int .i64 a,.int .i64 b,.fn (.func 40) [] []] M nx (LA rwo nx k M (.bool (partialInsertionSort lt d a b).2) (partialInsertionSort lt d a b).1):=by
 obtain⟨R,hR⟩:∃R,R=partialInsertionSort lt d a b:=⟨_,rfl⟩;rw[<-hR];have hR:=Is.mk hR;have w1:=bu (x:=a) Z;refine ar.wk 141 [.tmp 8] Tryz.func99 ?_
 let J0:=(fun(m:Nat) (s:XS)=>∃(jj i:Nat) (d1:Array bO),gG s.env 0=some sv/\gG s.env 1=some (.int .i64 a)/\gG s.env 2=some (.int .i64 b)/\gG s.env 3=some (.fn (.func 40) [] [])/\gG s.env 9=some (.int .i64 i)/\gG s.env 10=some (.int .i64 jj)/\gG s.M k=some (rwo d1)/\bK nx k M s.M/\nx<=s.nx/\aad lt a b n R m jj i d1)
 let J1:=fun(jj:Nat) (d1:Array bO) (i:Nat)=>(fun(m2:Nat) (s:XS)=>∃i':Nat,gG s.env 0=some sv/\gG s.env 1=some (.int .i64 a)/\gG s.env 2=some (.int .i64 b)/\gG s.env 3=some (.fn (.func 40) [] [])/\gG s.env 9=some (.int .i64 i')/\gG s.env 10=some (.int .i64 jj)/\gG s.M k=some (rwo d1)/\bK nx k M s.M/\nx<=s.nx/\ScS lt d1 b i i' m2)
 let J2:=fun(i2:Nat) (jj:Nat) (d1:Array bO)=>(fun(s:XS)=>gG s.env 0=some sv/\gG s.env 1=some (.int .i64 a)/\gG s.env 2=some (.int .i64 b)/\gG s.env 3=some (.fn (.func 40) [] [])/\gG s.env 9=some (.int .i64 i2)/\gG s.env 10=some (.int .i64 jj)/\gG s.M k=some (rwo d1)/\bK nx k M s.M/\nx<=s.nx)
 let J3:=fun(i2:Nat) (jj:Nat) (d3:Array bO)=>(fun(m2:Nat) (s:XS)=>∃(j':Nat) (d':Array bO),gG s.env 0=some sv/\gG s.env 1=some (.int .i64 a)/\gG s.env 2=some (.int .i64 b)/\gG s.env 3=some (.fn (.func 40) [] [])/\gG s.env 9=some (.int .i64 i2)/\gG s.env 10=some (.int .i64 jj)/\gG s.env 11=some (.int .i64 j')/\gG s.M k=some (rwo d')/\bK nx k M s.M/\nx<=s.nx/\Vi lt n i2 d3 j' m2 d')
 let J4:=fun(i2:Nat) (jj:Nat) (d3:Array bO)=>(fun(s:XS)=>gG s.env 0=some sv/\gG s.env 1=some (.int .i64 a)/\gG s.env 2=some (.int .i64 b)/\gG s.env 3=some (.fn (.func 40) [] [])/\gG s.env 9=some (.int .i64 i2)/\gG s.env 10=some (.int .i64 jj)/\gG s.M k=some (rwo d3)/\bK nx k M s.M/\nx<=s.nx)
 let J5:=fun(i2:Nat) (jj:Nat) (d4:Array bO)=>(fun(m2:Nat) (s:XS)=>∃(j':Nat) (d':Array bO),gG s.env 0=some sv/\gG s.env 1=some (.int .i64 a)/\gG s.env 2=some (.int .i64 b)/\gG s.env 3=some (.fn (.func 40) [] [])/\gG s.env 9=some (.int .i64 i2)/\gG s.env 10=some (.int .i64 jj)/\gG s.env 12=some (.int .i64 j')/\gG s.M k=some (rwo d')/\bK nx k M s.M/\nx<=s.nx/\Vj lt n b i2 d4 j' m2 d')
 let J6:=fun(i2:Nat) (jj:Nat) (d4:Array bO)=>(fun(s:XS)=>gG s.env 0=some sv/\gG s.env 1=some (.int .i64 a)/\gG s.env 2=some (.int .i64 b)/\gG s.env 3=some (.fn (.func 40) [] [])/\gG s.env 9=some (.int .i64 i2)/\gG s.env 10=some (.int .i64 jj)/\gG s.M k=some (rwo d4)/\bK nx k M s.M/\nx<=s.nx)
 let J7:=fun(i2:Nat) (jj:Nat) (d3:Array bO)=>(fun(m2:Nat) (s:XS)=>∃(j':Nat) (d':Array bO),gG s.env 0=some sv/\gG s.env 1=some (.int .i64 a)/\gG s.env 2=some (.int .i64 b)/\gG s.env 3=some (.fn (.func 40) [] [])/\gG s.env 9=some (.int .i64 i2)/\gG s.env 10=some (.int .i64 jj)/\gG s.env 11=some (.int .i64 j')/\gG s.M k=some (rwo d')/\bK nx k M s.M/\nx<=s.nx/\Vi lt n i2 d3 j' m2 d')
 let J8:=fun(i2:Nat) (jj:Nat) (d3:Array bO)=>(fun(s:XS)=>gG s.env 0=some sv/\gG s.env 1=some (.int .i64 a)/\gG s.env 2=some (.int .i64 b)/\gG s.env 3=some (.fn (.func 40) [] [])/\gG s.env 9=some (.int .i64 i2)/\gG s.env 10=some (.int .i64 jj)/\gG s.M k=some (rwo d3)/\bK nx k M s.M/\nx<=s.nx)
 let J9:=fun(i2:Nat) (jj:Nat) (d4:Array bO)=>(fun(m2:Nat) (s:XS)=>∃(j':Nat) (d':Array bO),gG s.env 0=some sv/\gG s.env 1=some (.int .i64 a)/\gG s.env 2=some (.int .i64 b)/\gG s.env 3=some (.fn (.func 40) [] [])/\gG s.env 9=some (.int .i64 i2)/\gG s.env 10=some (.int .i64 jj)/\gG s.env 12=some (.int .i64 j')/\gG s.M k=some (rwo d')/\bK nx k M s.M/\nx<=s.nx/\Vj lt n b i2 d4 j' m2 d')
 let J10:=fun(i2:Nat) (jj:Nat) (d4:Array bO)=>(fun(s:XS)=>gG s.env 0=some sv/\gG s.env 1=some (.int .i64 a)/\gG s.env 2=some (.int .i64 b)/\gG s.env 3=some (.fn (.func 40) [] [])/\gG s.env 9=some (.int .i64 i2)/\gG s.env 10=some (.int .i64 jj)/\gG s.M k=some (rwo d4)/\bK nx k M s.M/\nx<=s.nx)
 have gz:=Wr.mk gy116;exact Tn
end
end Go.Xs
namespace Go.Xs
open List Nat Option
noncomputable section
open Go.Proofs Go.Sort
theorem f96 (ρ:aK) {M:Hp} {nx k n:Nat} {sv:XV} {off:Nat->Nat} {lt:bO->bO->Bool} {rwo:Array bO->bx} {enc:bO->XV} {c:bO->bO->Int} (A:AI ρ lt rwo enc c k n sv off) {d:Array bO} (hM:gG M k=some (rwo d)) (hd:d.size=n) (hk:k<nx) (hn:n<=1000) {a b:Nat} (qJ:a<b) (hb:b<=n) :
 ar am ρ 96 [sv,.int .i64 a,.int .i64 b,.fn (.func 40) [] []] M nx (Sw rwo nx k n M a b d):=by
 obtain⟨l,hl⟩:∃q,q=b - a:=⟨_,rfl⟩;have w1:IntKind.i64.wrap ((b:Int) - (a:Int))=(l:Int):=by rw[hl];exact dO Z Z
 refine ar.wk 67 [] Tryz.func96 ?_
 let J0:=fun(md:Nat) (i0:Nat)=>(fun(m:Nat) (s:XS)=>∃(i:Nat) (d':Array bO) (r:Int),gG s.env 0=some sv/\gG s.env 1=some (.int .i64 a)/\gG s.env 8=some (.int .i64 l)/\gG s.env 9=some (.mp (nx+8) 0)/\gG s.env 10=some (.int .u64 md)/\gG s.env 11=some (.int .i64 i)/\gG s.M k=some (rwo d')/\gG s.M (nx+8)=some (.row [.int .u64 r])/\bK nx k M s.M/\nx+9<=s.nx/\aag a b n d i0 m i d')
 have gz:=Wr.mk gy117;exact aah
end
end Go.Xs
namespace Go.Xs
open List Nat Option
noncomputable section
open Go.Proofs Go.Sort
theorem f68 (ρ:aK):∀(sz:Nat) {M:Hp} {nx k n:Nat} {sv:XV} {off:Nat->Nat} {lt:bO->bO->Bool} {rwo:Array bO->bx} {enc:bO->XV} {c:bO->bO->Int} (A:AI ρ lt rwo enc c k n sv off) {d:Array bO} (hM:gG M k=some (rwo d)) (hd:d.size=n) (hk:k<nx) (hn:n<=1000) {a b:Nat} (lim:Int) (cJ:b - a<=sz) (qJ:a<=b) (hb:b<=n) (hB:Below lt a b d),
 ar am ρ 68 [sv,.int .i64 a,.int .i64 b,.int .i64 lim,.fn (.func 40) [] []] M nx (Mf lt rwo nx k n M a b d):=by
 intro sz
 induction sz using Nat.strongRecOn with
 | _ sz ih =>
 intro M nx k n sv off lt rwo enc c A d hM hd hk hn a b lim cJ qJ hb hB;refine ar.wk 148 [] Tryz.func68 ?_
 let J0:=(fun(m:Nat) (s:XS)=>∃(x y:Nat) (lim':Int) (wb wp:Bool) (d1:Array bO),gG s.env 0=some sv/\gG s.env 1=some (.int .i64 (x:Nat))/\gG s.env 2=some (.int .i64 (y:Nat))/\gG s.env 3=some (.int .i64 lim')/\gG s.env 4=some (.fn (.func 40) [] [])/\gG s.env 10=some (.bool wb)/\gG s.env 11=some (.bool wp)/\gG s.M k=some (rwo d1)/\bK nx k M s.M/\nx<=s.nx/\RZ lt a b n d m x y d1)
 let J1:=fun(x:Nat) (y:Nat) (wb:Bool) (wp:Bool) (d1:Array bO)=>(fun(s:XS)=>∃(iv:Int) (d2:Array bO),gG s.env 0=some sv/\gG s.env 1=some (.int .i64 (x:Nat))/\gG s.env 2=some (.int .i64 (y:Nat))/\gG s.env 3=some (.int .i64 iv)/\gG s.env 4=some (.fn (.func 40) [] [])/\gG s.env 10=some (.bool wb)/\gG s.env 11=some (.bool wp)/\gG s.env 12=some (.int .i64 (y - x:Nat))/\gG s.M k=some (rwo d2)/\bK nx k M s.M/\nx<=s.nx/\PmD n x y d1 d2)
 let J2:=fun(x:Nat) (y:Nat) (iv:Int) (wb:Bool) (wp:Bool) (d1:Array bO)=>(fun(s:XS)=>∃(p:Nat) (hh:Int) (d3:Array bO),gG s.env 0=some sv/\gG s.env 1=some (.int .i64 (x:Nat))/\gG s.env 2=some (.int .i64 (y:Nat))/\gG s.env 3=some (.int .i64 iv)/\gG s.env 4=some (.fn (.func 40) [] [])/\gG s.env 10=some (.bool wb)/\gG s.env 11=some (.bool wp)/\gG s.env 12=some (.int .i64 (y - x:Nat))/\gG s.env 13=some (.int .i64 p)/\gG s.env 14=some (.int .i64 hh)/\gG s.M k=some (rwo d3)/\bK nx k M s.M/\nx<=s.nx/\U6 n x y p d1 d3)
 let J3:=fun(x:Nat) (y:Nat) (iv:Int) (wb:Bool) (wp:Bool) (p:Nat) (d1:Array bO)=>(fun(s:XS)=>∃(d4:Array bO),gG s.env 0=some sv/\gG s.env 1=some (.int .i64 (x:Nat))/\gG s.env 2=some (.int .i64 (y:Nat))/\gG s.env 3=some (.int .i64 iv)/\gG s.env 4=some (.fn (.func 40) [] [])/\gG s.env 10=some (.bool wb)/\gG s.env 11=some (.bool wp)/\gG s.env 12=some (.int .i64 (y - x:Nat))/\gG s.env 13=some (.int .i64 p)/\gG s.M k=some (rwo d4)/\bK nx k M s.M/\nx<=s.nx/\U6 n x y p d1 d4)
 have gz:=Wr.mk gy118;have wins:=Wr.mk @f94;have wheap:=Wr.mk @f95;have wbrk:=Wr.mk @f96;have wpiv:=Wr.mk @f97;have wrev:=Wr.mk @f98;have wpins:=Wr.mk @f99;have wpeq:=Wr.mk @W6;have wpart:=Wr.mk @Sh;exact aac
end
end Go.Xs
namespace Go.Xs
open List Nat Option
variable{n:Nat}{α:Type}
noncomputable section
open Go.Proofs Go.Sort
theorem Yw [Inhabited α] {l:List α} {d:Array α} (hn:l.length=n) (hd:d.size=n) (h:PermIn 0 n l.toArray d):d.toList.Perm l:=by
 have h3:=h.2.2;have e1:d.extract 0 n=d:=by rw[<-hd];exact Array.extract_size
 have e2:l.toArray.extract 0 n=l.toArray:=by rw[<-hn,<-List.size_toArray];exact Array.extract_size
 rw[e1,e2]at h3;exact h3
theorem sc [Inhabited α] {lt:α->α->Bool} {R:α->α->Prop} {d:Array α} (hd:d.size=n) (h:SortedIn lt 0 n d) (hR:∀x y,lt y x=false->R x y):d.toList.Pairwise R:=by
 rw[pairwise_iff_getElem];intro i j hi hj eS;have:=h i j Z eS (by simpa [hd] using hj);rw[getElem!_pos d j (by simpa using hj),getElem!_pos d i (by simpa using hi)]at this;exact hR _ _ this
theorem S5 (ρ:aK) (M:Hp) (nx:Nat):ar am ρ 144 [.nils,.int .i64 0,.int .i64 0] M nx (fe nx M (.tup [])):=by
 refine ar.wk 49 [] Tryz.func144 ?_;have w:IntKind.i64.wrap (0+1)=1:=af;refine mI eC w ?_;refine aC (fun m s=>gG s.env 6=some (.int .i64 1)/\gG s.env 2=some (.int .i64 0)/\aq nx M s.M/\nx<=s.nx) 0 ?_ ?_
 ·refine bR eC ?_
  exact⟨aq.refl _ _,Z⟩
 ·rintro m ⟨env,M1,n1⟩ ⟨e6,e2,ha,hn⟩
  simp only at e6 e2 ha hn;have z:¬ (1:Int)<0:=af;refine mY eC e6 e2 z @fe.eq_1 ?_;exact⟨ha,Z⟩
theorem SU (ρ:aK) (M:Hp) (nx:Nat) (lim:Int):ar am ρ 107 [.nils,.int .i64 0,.int .i64 0,.int .i64 lim] M nx (fe nx M (.tup [])):=by
 refine ar.wk 134 [] Tryz.func107 ?_;have w:IntKind.i64.wrap (0 - 0)=0:=af;have z:(0:Int)<=12:=af;refine bR gy115 ?_;refine aC (fun m s=>gG s.env 0=some .nils/\gG s.env 1=some (.int .i64 0)/\gG s.env 2=some (.int .i64 0)/\aq nx M s.M/\nx<=s.nx) 0 ?_ ?_
 ·refine bR gy115 ?_
  exact⟨aq.refl _ _,Z⟩
 ·rintro m ⟨env,M1,n1⟩ ⟨e0,e1,e2,ha,hn⟩
  simp only at e0 e1 e2 ha hn;refine iC gy115 e0 e1 e2 w z ?_;refine lG (S5 ρ _ _) fun M2 n2 k2 k3=>?_
  refine mI gy115 @fe.eq_1 ?_;exact⟨ha.trans (k2.le Z),Z⟩
theorem PY:kJ:=fun ρ M nx=>by
 refine ar.wk 11 [] Tryz.func78 ?_;have hu:IntKind.u64.wrap 0=((0:Nat):Int):=af;refine mI Yv hu ?_;refine lG (U8 ρ _ _ 0 Z) fun M1 n1 g2 g3=>?_
 refine bR Yv ?_;refine lG (SU ρ _ _ _) fun M2 n2 k2 k3=>?_
 refine mI Yv @fe.eq_1 ?_;exact⟨(g2.le Z).trans (k2.le Z),Z⟩
theorem O9:kL:=fun ρ M nx k xs hx h0 hk hM=>by
 obtain⟨n,hn⟩:∃n,n=xs.length:=⟨_,rfl⟩;rw[<-hn];have hu:IntKind.u64.wrap (n:Int)=(n:Int):=wrap_u64 Z Z;have aW:gG M k=some (dQ xs.toArray):=hM;refine ar.wk 11 [] Tryz.func78 ?_;refine mI Yv hu ?_;refine lG (U8 ρ _ _ n Z) fun M1 n1 g2 g3=>?_
 refine bR Yv ?_;refine gQ (W5 ρ n (au ρ k n) (d:=xs.toArray) ((g2 k Z).trans aW) (by simp[hn]) Z Z (a:=0) (b:=n) _ Z Z Z (Or.inl rfl)) ?_;rintro⟨u,M2,n2⟩ ⟨k1,⟨d',k2,⟨k3,k4⟩,k5⟩,k6,k7⟩;simp only at k1 k5 k6 k7;subst k1;refine bR Yv ?_;refine⟨⟨d'.toList,Yw hn.symm k2 k3,sc k2 k4 fun x y h=>?_,k5⟩,fun j hj cf=>(k6 j Z cf).trans (g2 j Z),Z⟩;simp only[ltInt,decide_eq_false_iff_not]at h;omega
theorem Pb:Ci:=fun ρ M nx k xs hx h0 hk hM=>by
 obtain⟨n,hn⟩:∃n,n=xs.length:=⟨_,rfl⟩;rw[<-hn];have hu:IntKind.u64.wrap (n:Int)=(n:Int):=wrap_u64 Z Z;have aW:gG M k=some (dT xs.toArray):=hM;refine ar.wk 14 [] Tryz.func39 ?_;refine mI gy120 hu ?_;refine lG (U8 ρ _ _ n Z) fun M1 n1 g2 g3=>?_
 refine bR gy120 ?_;refine gQ (f68 ρ n (ai ρ k n) (d:=xs.toArray) ((g2 k Z).trans aW) (by simp[hn]) Z Z (a:=0) (b:=n) _ Z Z Z (Or.inl rfl)) ?_;rintro⟨u,M2,n2⟩ ⟨k1,⟨d',k2,⟨k3,k4⟩,k5⟩,k6,k7⟩;simp only at k1 k5 k6 k7;subst k1;refine bR gy120 ?_;refine⟨⟨d'.toList,Yw hn.symm k2 k3,sc k2 k4 fun x y h=>?_,k5⟩,fun j hj cf=>(k6 j Z cf).trans (g2 j Z),Z⟩;simp only[cL,decide_eq_false_iff_not]at h;omega
end
end Go.Xs
namespace Go.Xs
open List Nat Option
open Go.Proofs Go.RowKit
theorem orderKnown_calls (W:World):Calls am 6 #[] W fun e w'=>e = .returned (.bool true)/\Below W.heap.size W w' :=
 Fq (vs:=[]) (oS.start ⟨fun _=>0,fun _=>none,false⟩ _ fun _=>rfl) (f6 O9 PY Pb _ rfl fun M' n'=>f8w _ M' n') (fun r h=>h.1) (by simp only[bb]) Tryz.func6 U U
end Go.Xs
