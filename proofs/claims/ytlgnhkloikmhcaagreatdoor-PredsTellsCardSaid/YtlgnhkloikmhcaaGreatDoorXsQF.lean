/- A part: the walk. -/
import Derived.Test.YtlgnhkloikmhcaaGreatDoorXsQE
set_option maxRecDepth 100000
set_option maxHeartbeats 8000000
set_option linter.all false
set_option linter.deprecated false
namespace Go.Xs
open List Nat Option
variable{M:Hp}{a b k lo n nx pivot:Nat}{enc:Int->XV}{off:Nat->Nat}{rwo:Array Int->bx}{sv:XV}
noncomputable section
open Go.Proofs Go.Sort
theorem mc1 {P:Prop} (h:P:=by
 have hwa:=bu (x:=a) aa;refine mI gz.o hwa ?_;refine aC J0
  (b - a) ⟨a+1,d,?_⟩ ?_
 ·refine bR gz.o ?_
  exact⟨hM,bK.refl _ _ _,aa,aa,aa,aa,hd,rfl⟩
 ·rintro m ⟨env,M1,n1⟩ ⟨i,d1,e0,e1,e2,ec,e6,xu,ho,bT,h1,h2,h3,bv,hI⟩
  simp only at e0 e1 e2 ec e6 xu ho bT;rw[insOuter]at hI;by_cases aL:(i:Int)<b
  ·rw[if_pos aa]at hI
   have hI:=Is.mk hI;refine gw gz.o e0 e1 e2 e6 aL ec ?_;refine aC (J1 i d1)
    i ⟨d1,aa,?_⟩ ?_
   ·refine iC gz.o e0 e1 e2 e6 ec ?_
    exact⟨xu,bv,ho,aa,⟨rfl⟩⟩
   clear e0 e1 e2 e6 ec;rintro j ⟨env,M2,n2⟩ ⟨d2,g1,e0,e1,e2,ec,e6,e7,aW,py,bJ,fq,⟨hJ⟩⟩;simp only at e0 e1 e2 ec e6 e7 aW bJ fq;have Q7:=bu (x:=i) aa;clear ho;by_cases JC:(a:Int)<j
   ·obtain⟨j',rfl⟩:∃j',j=j'+1:=⟨j - 1,aa⟩
    have UT:=fQ (x:=j') aa;have x1:=A.ix (j'+1) aa;have x2:=A.ix j' aa;have l1:=A.ld M2 d2 aW py (j'+1) aa;have l2:=A.ld M2 d2 aW py j' aa;have hJ:=Is.mk hJ;refine ii gz.o e0 e1 e2 e6 e7 JC UT x1 x2 l1 (aI l2 ec) ?_;refine bF ?_ rfl ?_;·refine bR gz.o ?_;try exact⟨⟩
    refine bR gz.o ?_;refine aT (A.cs _ _ _ _) aj ?_;cases hq:lt d2[j'+1]! d2[j']! with
    | true =>
      have hc:=A.hT hq;have dg:=A.st M2 d2 aW py (j'+1) aa d2[j']!;have dh:=A.st (aG M2 k (rwo (d2.setIfInBounds (j'+1) d2[j']!))) _ J ak j' aa d2[j'+1]!;have uP:=hJ.eq;rw[insInner,hq,if_pos ak]at uP;have uP:=Is.mk uP;refine ii gz.o e0 e1 e2 e6 e7 hc UT x1 x2 l1 (aI l2 (aI dg (aI dh ec))) ?_;exact⟨j',aa,swp d2 (j'+1) j',aa,rfl,rfl,(by rw[swp_size];exact py),((bJ.set _).set _),aa,uP⟩
    | false =>
      have hc:=A.hF hq;have uP:=hJ.eq;rw[insInner,hq,if_neg af]at uP;have bt:=hI.eq;rw[<-uP]at bt;have bt:=Is.mk bt;clear hI hJ uP;refine CU gz.o e0 e1 e2 e6 e7 hc Q7 ec ?_;exact⟨b+1 - (i+1),aa,i+1,d2,rfl,aW,bJ,aa,aa,aa,rfl,py,bt.eq⟩
   have uP:d2=insInner lt a i d1:=by rw[<-hJ];cases j with | zero=>rw[insInner] | succ j=>rw[insInner,if_neg ak]
   have bt:=hI.eq;rw[<-uP]at bt;have bt:=Is.mk bt;clear hI hJ uP;refine CU gz.o e0 e1 e2 e6 e7 JC Q7 ec ?_;refine cA ?_ aj ?_;·refine bR gz.o ?_;try exact⟨⟩
   refine CU gz.o e0 e1 e2 e6 e7 JC Q7 ec ?_;exact⟨b+1 - (i+1),aa,i+1,d2,rfl,aW,bJ,aa,aa,aa,rfl,py,bt.eq⟩
  rw[if_neg aa]at hI;subst hI;refine iQ gz.o e0 e1 e2 e6 aL @yh.eq_1 ec ?_;exact⟨⟨xu,aa⟩,ho,aa⟩
 ):P:=h
theorem f266 (ρ:aK) {lt:Int->Int->Bool} (A:AU ρ lt rwo enc k n sv off) {d:Array Int} (hM:gG M k=some (rwo d)) (hd:d.size=n) (hk:k<nx) (hn:n<=4000) (qJ:a<=b) (hb:b<=n) :
 ar an ρ 266 [sv,.int .i64 a,.int .i64 b] M nx (yh rwo nx k M (insertionSort lt d a b)):=by
 refine ar.wk 49 [] Tryz.func266 ?_
 let J0:=(fun(m:Nat) (s:XS)=>∃(i:Nat) (d':Array Int),gG s.env 0=some sv/\gG s.env 1=some (.int .i64 a)/\gG s.env 2=some (.int .i64 b)/\gG s.env 0=some sv/\gG s.env 6=some (.int .i64 i)/\gG s.M k=some (rwo d')/\bK nx k M s.M/\nx<=s.nx/\To lt a b n d m i d')
 let J1:=fun(i:Nat) (d1:Array Int)=>(fun(m2:Nat) (s:XS)=>∃(d':Array Int),m2<=i/\gG s.env 0=some sv/\gG s.env 1=some (.int .i64 a)/\gG s.env 2=some (.int .i64 b)/\gG s.env 0=some sv/\gG s.env 6=some (.int .i64 i)/\gG s.env 7=some (.int .i64 m2)/\gG s.M k=some (rwo d')/\d'.size=n/\bK nx k M s.M/\nx<=s.nx/\Is (insInner lt a m2 d') (insInner lt a i d1))
 have gz:=Wr.mk k_;exact mc1
theorem mc0 {P:Prop} (h:P:=by
 have hwb:=cN (x:=b) aa aa;refine mI gz.o hwb ?_;refine aC J0
  (b - a) ⟨a,b - 1,d,?_⟩ ?_
 ·refine bR gz.o ?_
  exact⟨hM,bK.refl _ _ _,aa,aa,aa,aa,aa,hd,rfl⟩
 ·rintro m ⟨env,M1,n1⟩ ⟨i,j,d1,e0,e6,e7,xu,ho,bT,h1,h2,h4,h3,bv,hI⟩
  simp only at e0 e6 e7 xu ho bT;rw[reverseLoop]at hI;by_cases aL:(i:Int)<j
  ·rw[if_pos aa]at hI
   have hI:=Is.mk hI;have wi:=bu (x:=i) aa;have wj:=cN (x:=j) aa aa;have x1:=A.ix i aa;have x2:=A.ix j aa;have l1:=A.ld M1 d1 xu bv i aa;have l2:=A.ld M1 d1 xu bv j aa;have dg:=A.st M1 d1 xu bv i aa d1[j]!;have dh:=A.st (aG M1 k (rwo (d1.setIfInBounds i d1[j]!))) _ J ak j aa d1[i]!;refine ii gz.o e0 e6 e7 aL x1 x2 l1 l2 dg dh (aI wi wj) ?_;exact⟨(j - 1)+1 - (i+1),aa,i+1,j - 1,swp d1 i j,rfl,rfl,rfl,((ho.set _).set _),aa,aa,aa,aa,rfl,(by rw[swp_size];exact bv),hI.eq⟩
  rw[if_neg aa]at hI;subst hI;refine iC gz.o e0 e6 e7 aL @yh.eq_1 ?_;exact⟨⟨xu,aa⟩,ho,aa⟩
 ):P:=h
theorem f270 (ρ:aK) {lt:Int->Int->Bool} (A:AU ρ lt rwo enc k n sv off) {d:Array Int} (hM:gG M k=some (rwo d)) (hd:d.size=n) (hk:k<nx) (hn:n<=4000) (qJ:a<b) (hb:b<=n) :
 ar an ρ 270 [sv,.int .i64 a,.int .i64 b] M nx (yh rwo nx k M (reverseRange d a b)):=by
 refine ar.wk 32 [] Tryz.func270 ?_
 let J0:=(fun(m:Nat) (s:XS)=>∃(i j:Nat) (d':Array Int),gG s.env 0=some sv/\gG s.env 6=some (.int .i64 i)/\gG s.env 7=some (.int .i64 j)/\gG s.M k=some (rwo d')/\bK nx k M s.M/\nx<=s.nx/\S3 a b n d m i j d')
 have gz:=Wr.mk k_;exact mc0
theorem mc3 {P:Prop} (h:P:=by
 refine bR gz.o ?_;refine aC J0
  (hi - root) ⟨root,d,?_⟩ ?_
 ·refine bR gz.o ?_
  exact⟨hM,bK.refl _ _ _,aa,aa,rfl,hd,rfl⟩
 ·rintro m ⟨env,M1,n1⟩ ⟨r,d1,e0,e2,e3,ec,e8,xu,ho,bT,h1,h2,bv,hI⟩
  simp only at e0 e2 e3 ec e8 xu ho bT;have hI:=Is.mk hI;have w1:IntKind.i64.wrap (2*(r:Int))=((2*r:Nat):Int):=by rw[wrap_i64 aa aa];omega
  have w2:=bu (x:=2*r) aa;have w3:IntKind.i64.wrap (((2*r+1:Nat):Int)+1)=((2*r+2:Nat):Int):=bu (x:=2*r+1) aa;by_cases aL:(hi:Int)<=(2*r+1:Nat)
  ·have bt:=hI.eq
   rw[siftDown,dif_pos aa]at bt;have bt:=Is.mk bt;refine dp gz.o e0 e2 e3 e8 aL w1 w2 @yh.eq_1 ec ?_;rw[<-bt.eq];exact⟨⟨xu,aa⟩,ho,aa⟩
  by_cases Qz:((2*r+2:Nat):Int)<hi
  ·have w6:=dK (x:=first) (y:=2*r+1) aa
   have w7:IntKind.i64.wrap (((first+(2*r+1):Nat):Int)+1)=((first+(2*r+2):Nat):Int):=bu (x:=first+(2*r+1)) aa;have x3:=A.ix (first+(2*r+1)) aa;have x4:=A.ix (first+(2*r+2)) aa;have l3:=A.ld M1 d1 xu bv (first+(2*r+1)) aa;have l4:=A.ld M1 d1 xu bv (first+(2*r+2)) aa;refine ii gz.o e0 e2 e3 e8 aL Qz w1 w2 w3 w6 (aI w7 (aI x3 (aI x4 (aI l3 (aI l4 ec))))) ?_;refine bF ?_ rfl ?_;·refine bR gz.o ?_;try exact⟨⟩
   refine bR gz.o ?_;refine aT (A.cs _ _ _ _) aj ?_;cases hq:lt d1[first+(2*r+1)]! d1[first+(2*r+2)]! with
   | true =>
     have hc:=A.hT hq;have bt:=hI.eq;rw[SW aa aa hq]at bt;have w4:=dK (x:=first) (y:=r) aa;have w5:=dK (x:=first) (y:=2*r+2) aa;have x1:=A.ix (first+r) aa;have x2:=A.ix (first+(2*r+2)) aa;have l1:=A.ld M1 d1 xu bv (first+r) aa;have l2:=A.ld M1 d1 xu bv (first+(2*r+2)) aa;refine ii gz.o e0 e2 e3 e8 hc w3 w4 w5 x1 x2 (aI l1 (aI l2 ec)) ?_;clear hc hq w1 w2 w3 w6 w7 x3 x4 l3 l4;refine aT (A.cs _ _ _ _) aj ?_;cases hq:lt d1[first+r]! d1[first+(2*r+2)]! with
     | false =>
       have hc:=A.hF hq;rw[hq,if_pos (show (!false)=true from rfl)]at bt;have bt:=Is.mk bt;refine iQ gz.o e0 e2 e3 e8 hc @yh.eq_1 ec ?_;rw[<-bt.eq];exact⟨⟨xu,aa⟩,ho,aa⟩
     | true =>
       have hc:=A.hT hq;rw[hq,if_neg af]at bt;have bt:=Is.mk bt;have dg:=A.st M1 d1 xu bv (first+r) aa d1[first+(2*r+2)]!;have dh:=A.st (aG M1 k (rwo (d1.setIfInBounds (first+r) d1[first+(2*r+2)]!))) _ J ak (first+(2*r+2)) aa d1[first+r]!;refine ii gz.o e0 e2 e3 e8 hc w4 w5 x1 x2 l1 (aI l2 (aI dg (aI dh ec))) ?_;exact⟨hi - (2*r+2),aa,2*r+2,swp d1 (first+r) (first+(2*r+2)),rfl,rfl,((ho.set _).set _),aa,aa,rfl,(by rw[swp_size];exact bv),bt.eq⟩
   | false =>
     have hc:=A.hF hq;have bt:=hI.eq;rw[R1 aa (fun q=>by rw[hq]at q;simp at q)]at bt;have w4:=dK (x:=first) (y:=r) aa;have w5:=dK (x:=first) (y:=2*r+1) aa;have x1:=A.ix (first+r) aa;have x2:=A.ix (first+(2*r+1)) aa;have l1:=A.ld M1 d1 xu bv (first+r) aa;have l2:=A.ld M1 d1 xu bv (first+(2*r+1)) aa;refine ii gz.o e0 e2 e3 e8 hc w4 w5 x1 x2 l1 (aI l2 ec) ?_;clear hc hq w1 w2 w3 w6 w7 x3 x4 l3 l4;refine aT (A.cs _ _ _ _) aj ?_;cases hq:lt d1[first+r]! d1[first+(2*r+1)]! with
     | false =>
       have hc:=A.hF hq;rw[hq,if_pos (show (!false)=true from rfl)]at bt;have bt:=Is.mk bt;refine iQ gz.o e0 e2 e3 e8 hc @yh.eq_1 ec ?_;rw[<-bt.eq];exact⟨⟨xu,aa⟩,ho,aa⟩
     | true =>
       have hc:=A.hT hq;rw[hq,if_neg af]at bt;have bt:=Is.mk bt;have dg:=A.st M1 d1 xu bv (first+r) aa d1[first+(2*r+1)]!;have dh:=A.st (aG M1 k (rwo (d1.setIfInBounds (first+r) d1[first+(2*r+1)]!))) _ J ak (first+(2*r+1)) aa d1[first+r]!;refine ii gz.o e0 e2 e3 e8 hc w4 w5 x1 x2 l1 (aI l2 (aI dg (aI dh ec))) ?_;exact⟨hi - (2*r+1),aa,2*r+1,swp d1 (first+r) (first+(2*r+1)),rfl,rfl,((ho.set _).set _),aa,aa,rfl,(by rw[swp_size];exact bv),bt.eq⟩
  have bt:=hI.eq;rw[R1 aa (fun q=>aa)]at bt;have w4:=dK (x:=first) (y:=r) aa;have w5:=dK (x:=first) (y:=2*r+1) aa;have x1:=A.ix (first+r) aa;have x2:=A.ix (first+(2*r+1)) aa;have l1:=A.ld M1 d1 xu bv (first+r) aa;have l2:=A.ld M1 d1 xu bv (first+(2*r+1)) aa;refine dw gz.o e0 e2 e3 e8 aL Qz w1 w2 w3 ec ?_;refine cA ?_ aj ?_;·refine bR gz.o ?_;try exact⟨⟩
  refine ii gz.o e0 e2 e3 e8 w4 w5 x1 x2 l1 l2 ec ?_;clear w1 w2 w3;refine aT (A.cs _ _ _ _) aj ?_;cases hq:lt d1[first+r]! d1[first+(2*r+1)]! with
  | false =>
    have hc:=A.hF hq;rw[hq,if_pos (show (!false)=true from rfl)]at bt;have bt:=Is.mk bt;refine iQ gz.o e0 e2 e3 e8 hc @yh.eq_1 ec ?_;rw[<-bt.eq];exact⟨⟨xu,aa⟩,ho,aa⟩
  | true =>
    have hc:=A.hT hq;rw[hq,if_neg af]at bt;have bt:=Is.mk bt;have dg:=A.st M1 d1 xu bv (first+r) aa d1[first+(2*r+1)]!;have dh:=A.st (aG M1 k (rwo (d1.setIfInBounds (first+r) d1[first+(2*r+1)]!))) _ J ak (first+(2*r+1)) aa d1[first+r]!;refine ii gz.o e0 e2 e3 e8 hc w4 w5 x1 x2 l1 (aI l2 (aI dg (aI dh ec))) ?_;exact⟨hi - (2*r+1),aa,2*r+1,swp d1 (first+r) (first+(2*r+1)),rfl,rfl,((ho.set _).set _),aa,aa,rfl,(by rw[swp_size];exact bv),bt.eq⟩
 ):P:=h
theorem WZ (ρ:aK) {lt:Int->Int->Bool} (A:AU ρ lt rwo enc k n sv off) {d:Array Int} (hM:gG M k=some (rwo d)) (hd:d.size=n) (hk:k<nx) (hn:n<=4000) {root hi first:Nat} (hb:first+hi<=n) (hr:root<=4000) :
 ar an ρ 327 [sv,.int .i64 root,.int .i64 hi,.int .i64 first] M nx (yh rwo nx k M (siftDown lt hi first root d)):=by
 refine ar.wk 76 [] Tryz.func327 ?_
 let J0:=(fun(m:Nat) (s:XS)=>∃(r:Nat) (d':Array Int),gG s.env 0=some sv/\gG s.env 2=some (.int .i64 hi)/\gG s.env 3=some (.int .i64 first)/\gG s.env 0=some sv/\gG s.env 8=some (.int .i64 r)/\gG s.M k=some (rwo d')/\bK nx k M s.M/\nx<=s.nx/\aaa lt hi first root n d m r d')
 have gz:=Wr.mk aS;exact mc3
theorem mc2 {P:Prop} (h:P:=by
 have w1:=dO (x:=b) (y:=a) aa aa;have w2:=cN (x:=b - a) aa aa;have w3:IntKind.i64.wrap (((b - a - 1:Nat):Int).tdiv 2)=(((b - a - 1) / 2:Nat):Int):=by rw[show ((b - a - 1:Nat):Int).tdiv 2=(((b - a - 1) / 2:Nat):Int) by rw[Int.tdiv_eq_ediv_of_nonneg aa];omega,wrap_i64 aa aa]
 refine ti gz.o w1 w2 w3 ?_;refine aC J0
  ((b - a - 1) / 2+1) ⟨(b - a - 1) / 2+1,d,?_⟩ ?_
 ·refine bR gz.o ?_
  exact⟨congrArg _ aa,hM,bK.refl _ _ _,aa,aa,rfl,hd,rfl⟩
 ·rintro m ⟨env,M1,n1⟩ ⟨kk,d1,e0,ec,e6,e7,e8,e9,xu,ho,bT,h1,h2,bv,hI⟩
  simp only at e0 ec e6 e7 e8 e9 xu ho bT;have hI:=Is.mk hI;by_cases aL:(0:Int)<=(kk:Int) - 1
  ·obtain⟨kk,rfl⟩:∃k',kk=k'+1:=⟨kk - 1,aa⟩
   have wk:((kk+1:Nat):Int) - 1=(kk:Int):=aa;rw[wk]at e9;have w4:IntKind.i64.wrap ((kk:Int) - 1)=(kk:Int) - 1:=wrap_i64 aa aa;have z:(0:Int)<=kk:=aa;refine iQ gz.o e0 e6 e7 e8 e9 z ec ?_;refine gQ (wsift.o ρ A xu bv aa hn (root:=kk) (hi:=b - a) (first:=a) aa aa) ?_;rintro⟨u,M2,n2⟩ ⟨k1,⟨k2,_⟩,k3,k4⟩;simp only at k1 k2 k3 k4;subst k1;have bt:=hI.eq;rw[heapBuild]at bt;have bt:=Is.mk bt;refine iQ gz.o e0 e6 e7 e8 e9 w4 ec ?_;exact⟨kk,aa,kk,_,rfl,k2,ho.trans k3 aa,aa,aa,rfl,iD _ _ _ _ bv,bt.eq⟩
  have bt:=hI.eq;rw[show kk=0 by omega,heapBuild]at bt;have bt:=Is.mk bt;refine CU gz.o e0 e6 e7 e8 e9 aL w2 ec ?_;refine aC J1
   (b - a) ⟨b - a,d1,?_⟩ ?_
  ·refine gw gz.o e0 e6 e7 e8 e9 ec ?_
   exact⟨congrArg _ aa,xu,ho,aa,aa,rfl,bv,bt.eq⟩
  clear e0 e6 e7 e8 e9 ec xu ho bT bt hI aL h2 bv;rintro m ⟨env,M1,n1⟩ ⟨kk,d1,e0,ec,e6,e7,e9,xu,ho,bT,h1,h2,bv,hI⟩;simp only at e0 ec e6 e7 e9 xu ho bT;have hI:=Is.mk hI;by_cases aL:(0:Int)<=(kk:Int) - 1
  ·obtain⟨kk,rfl⟩:∃k',kk=k'+1:=⟨kk - 1,aa⟩
   have wk:((kk+1:Nat):Int) - 1=(kk:Int):=aa;rw[wk]at e9;have w4:IntKind.i64.wrap ((kk:Int) - 1)=(kk:Int) - 1:=wrap_i64 aa aa;have w5:=dK (x:=a) (y:=kk) aa;have z:(0:Int)<=kk:=aa;have x1:=A.ix a aa;have x2:=A.ix (a+kk) aa;have l1:=A.ld M1 d1 xu bv a aa;have l2:=A.ld M1 d1 xu bv (a+kk) aa;have dg:=A.st M1 d1 xu bv a aa d1[a+kk]!;have dh:=A.st (aG M1 k (rwo (d1.setIfInBounds a d1[a+kk]!))) _ J ak (a+kk) aa d1[a]!;refine ii gz.o e0 e6 e7 e9 z w5 x1 x2 l1 l2 (aI dg (aI dh ec)) ?_;refine gQ (wsift.o ρ A (d:=swp d1 a (a+kk)) J (by rw[swp_size];exact bv) aa hn (root:=0) (hi:=kk) (first:=a) aa aa) ?_;rintro⟨u,M2,n2⟩ ⟨k1,⟨k2,_⟩,k3,k4⟩;simp only at k1 k2 k3 k4;subst k1;have bt:=hI.eq;rw[heapPop]at bt;have bt:=Is.mk bt;refine gw gz.o e0 e6 e7 e9 w4 ec ?_;exact⟨kk,aa,kk,_,rfl,k2,((ho.set _).set _).trans k3 aa,aa,aa,rfl,iD _ _ _ _ (by rw[swp_size];exact bv),bt.eq⟩
  have bt:=hI.eq;rw[show kk=0 by omega,heapPop]at bt;have bt:=Is.mk bt;refine iQ gz.o e0 e6 e7 e9 aL @yh.eq_1 ec ?_;rw[<-bt.eq];exact⟨⟨xu,aa⟩,ho,aa⟩
 ):P:=h
theorem f267 (ρ:aK) {lt:Int->Int->Bool} (A:AU ρ lt rwo enc k n sv off) {d:Array Int} (hM:gG M k=some (rwo d)) (hd:d.size=n) (hk:k<nx) (hn:n<=4000) (qJ:a<b) (hb:b<=n) :
 ar an ρ 267 [sv,.int .i64 a,.int .i64 b] M nx (yh rwo nx k M (heapSort lt d a b)):=by
 refine ar.wk 56 [] Tryz.func267 ?_
 let J0:=(fun(m:Nat) (s:XS)=>∃(kk:Nat) (d':Array Int),gG s.env 0=some sv/\gG s.env 0=some sv/\gG s.env 6=some (.int .i64 a)/\gG s.env 7=some (.int .i64 0)/\gG s.env 8=some (.int .i64 (b - a:Nat))/\gG s.env 9=some (.int .i64 ((kk:Int) - 1))/\gG s.M k=some (rwo d')/\bK nx k M s.M/\nx<=s.nx/\aaf lt a b n d m kk d')
 let J1:=(fun(m:Nat) (s:XS)=>∃(kk:Nat) (d':Array Int),gG s.env 0=some sv/\gG s.env 0=some sv/\gG s.env 6=some (.int .i64 a)/\gG s.env 7=some (.int .i64 0)/\gG s.env 10=some (.int .i64 ((kk:Int) - 1))/\gG s.M k=some (rwo d')/\bK nx k M s.M/\nx<=s.nx/\aab lt a b n d m kk d')
 have gz:=Wr.mk k_;have wsift:=Wr.mk @WZ;exact mc2
theorem mc7 {P:Prop} (h:P:=by
 refine mY gz.o x1 x2 l1 l2 ?_;refine aT (A.cs _ _ _ _) aj ?_;cases hq:lt d[b]! d[a]! with
 | true =>
   have hc:=A.hT hq;refine ti gz.o hc hp @O2.eq_1 ?_;exact⟨b,a,IntKind.i64.wrap (s+1),rfl,aa,J,(bK.refl _ _ _).set _,aa⟩
 | false =>
   have hc:=A.hF hq;refine ti gz.o hc hp @O2.eq_1 ?_;exact⟨a,b,s,rfl,aa,rfl,bK.refl _ _ _,aa⟩
 ):P:=h
theorem f360 (ρ:aK) {lt:Int->Int->Bool} (A:AU ρ lt rwo enc k n sv off) {d:Array Int} (hM:gG M k=some (rwo d)) (hd:d.size=n) (hk:k<nx) (hn:n<=4000) {p up:Nat} {s:Int} (hp:gG M p=some (.row [.int .i64 s])) (vh:k<p) (Gp:p<nx) (ha:lo<=a/\a<up) (hb:lo<=b/\b<up) (hu:up<=n) :
 ar an ρ 360 [sv,.int .i64 a,.int .i64 b,.mp p 0] M nx (O2 nx p M lo up):=by
 have x1:=A.ix a aa;have x2:=A.ix b aa;have l1:=A.ld M d hM hd a aa;have l2:=A.ld M d hM hd b aa;refine ar.wk 28 [.tmp 8,.tmp 9] Tryz.func360 ?_;have gz:=Wr.mk k_;exact mc7
theorem mc6 {P:Prop} (h:P:=by
 refine RA ?_;refine gQ (jS.o ρ A hM hd aa hn hp vh aa ha hb hu) ?_;rintro⟨u,M1,n1⟩ ⟨a1,b1,s1,g1,g2,g3,g4,g5⟩;simp only at g1 g3 g4 g5;subst g1;refine RA ?_;refine gQ (jS.o ρ A (g4.get aa vh hM) hd aa hn g3 vh aa (lo:=lo) (up:=up) aa hc hu) ?_;rintro⟨u,M2,n2⟩ ⟨b2,c2,s2,k1,k2,k3,k4,k5⟩;simp only at k1 k3 k4 k5;subst k1;have o2:bK nx p M M2:=fun j hj cf=>(k4 j aa cf).trans (g4 j aa cf)
 clear g3;refine RA ?_;refine gQ (jS.o ρ A (o2.get aa vh hM) hd aa hn k3 vh aa (lo:=lo) (up:=up) aa aa hu) ?_;rintro⟨u,M3,n3⟩ ⟨a3,b3,s3,j1,j2,j3,j4,j5⟩;simp only at j1 j3 j4 j5;subst j1;have o3:bK nx p M M3:=fun j hj cf=>(j4 j aa cf).trans (o2 j aa cf)
 clear k3 k4 g4;refine bR @O1.eq_1 ?_;exact⟨b3,s3,rfl,aa,j3,o3,aa⟩
 ):P:=h
theorem f329 (ρ:aK) {lt:Int->Int->Bool} (A:AU ρ lt rwo enc k n sv off) {d:Array Int} (hM:gG M k=some (rwo d)) (hd:d.size=n) (hk:k<nx) (hn:n<=4000) {p up c:Nat} {s:Int} (hp:gG M p=some (.row [.int .i64 s])) (vh:k<p) (Gp:p<nx) (ha:lo<=a/\a<up) (hb:lo<=b/\b<up) (hc:lo<=c/\c<up) (hu:up<=n) :
 ar an ρ 329 [sv,.int .i64 a,.int .i64 b,.int .i64 c,.mp p 0] M nx (O1 nx p M lo up):=by
 refine ar.wk 36 [.tmp 10] Tryz.func329 ?_;have jS:=Wr.mk @f360;exact mc6
theorem mc5 {P:Prop} (h:P:=by
 refine Ao gz.o w1 w2 ?_;refine gQ (wmed.o ρ A hM hd aa hn hp vh aa (lo:=lo) (up:=up) aa aa aa hu) ?_;rintro⟨u,M1,n1⟩ ⟨a1,s1,g1,g2,g3,g4,g5⟩;simp only at g1 g3 g4 g5;subst g1;refine mI gz.o @O1.eq_1 ?_;exact⟨a1,s1,rfl,aa,g3,fun j hj cf=>g4 j aa cf,aa⟩
 ):P:=h
theorem f328 (ρ:aK) {lt:Int->Int->Bool} (A:AU ρ lt rwo enc k n sv off) {d:Array Int} (hM:gG M k=some (rwo d)) (hd:d.size=n) (hk:k<nx) (hn:n<=4000) {p up:Nat} {s:Int} (hp:gG M p=some (.row [.int .i64 s])) (vh:k<p) (Gp:p<nx) (ha:lo+1<=a/\a+1<up) (hu:up<=n) :
 ar an ρ 328 [sv,.int .i64 a,.mp p 0] M nx (O1 nx p M lo up):=by
 have w1:=cN (x:=a) aa aa;have w2:=bu (x:=a) aa;refine ar.wk 15 [.tmp 6] Tryz.func328 ?_;have gz:=Wr.mk lK;have wmed:=Wr.mk @f329;exact mc5
theorem mc4 {P:Prop} (h:P:=by
 by_cases h8:(8:Int)<=(b - a:Nat)
 ·by_cases AO:(50:Int)<=(b - a:Nat)
  ·refine dw gz.o w1 w2 w3 w4 w5 w6 w7 w8 h8 AO ?_
   generalize xu:aG M _ _=M1;have a1:aq nx M M1:=by rw[<-xu];exact O
   obtain⟨P,hP⟩:=aap ((nx+6));have z1:gG M1 (nx+6)=some (.row [.int .i64 0]):=by rw[<-xu];exact J
   rw[<-hP]at z1 ⊢;clear xu;refine gQ (wadj.o ρ A ((a1 k hk).trans hM) hd aa hn z1 aa aa (lo:=a) (up:=b) aa hb) ?_;rintro⟨u,M2,n2⟩ ⟨i2,s2,g1,g2,g3,g4,g5⟩;simp only at g1 g3 g4 g5;subst g1;have a2:aq nx M M2:=a1.trans (g4.below aa aa);clear g4;refine bR gz.o ?_;refine gQ (wadj.o ρ A ((a2 k hk).trans hM) hd aa hn g3 aa aa (lo:=a) (up:=b) aa hb) ?_;rintro⟨u,M3,n3⟩ ⟨i3,s3,k1,k2,k3,k4,k5⟩;simp only at k1 k3 k4 k5;subst k1;have a3:aq nx M M3:=a2.trans (k4.below aa aa);clear k4 g3;refine bR gz.o ?_;refine gQ (wadj.o ρ A ((a3 k hk).trans hM) hd aa hn k3 aa aa (lo:=a) (up:=b) aa hb) ?_;rintro⟨u,M4,n4⟩ ⟨i4,s4,j1,j2,j3,j4,j5⟩;simp only at j1 j3 j4 j5;subst j1;have a4:aq nx M M4:=a3.trans (j4.below aa aa);clear j4 k3;refine bR gz.o ?_;refine gQ (wmed.o ρ A ((a4 k hk).trans hM) hd aa hn j3 aa aa (lo:=a) (up:=b) aa aa aa hb) ?_;rintro⟨u,M5,n5⟩ ⟨i5,s5,f1,f2,hZ,nh,iF⟩;simp only at f1 hZ nh iF;subst f1;have a5:aq nx M M5:=a4.trans (nh.below aa aa);clear nh j3;by_cases h0:s5=0
   ·refine ti gz.o hZ h0 @ot.eq_1 ?_
    exact⟨i5,1,rfl,aa,a5,aa⟩
   by_cases uO:s5=12
   ·refine mY gz.o hZ h0 uO @ot.eq_1 ?_
    exact⟨i5,2,rfl,aa,a5,aa⟩
   refine mY gz.o hZ h0 uO @ot.eq_1 ?_;exact⟨i5,0,rfl,aa,a5,aa⟩
  refine dw gz.o w1 w2 w3 w4 w5 w6 w7 w8 h8 AO ?_;generalize xu:aG M _ _=M1;have a1:aq nx M M1:=by rw[<-xu];exact O
  obtain⟨P,hP⟩:=aap ((nx+6));have z1:gG M1 (nx+6)=some (.row [.int .i64 0]):=by rw[<-xu];exact J
  rw[<-hP]at z1 ⊢;clear xu;refine gQ (wmed.o ρ A ((a1 k hk).trans hM) hd aa hn z1 aa aa (lo:=a) (up:=b) aa aa aa hb) ?_;rintro⟨u,M5,n5⟩ ⟨i5,s5,f1,f2,hZ,nh,iF⟩;simp only at f1 hZ nh iF;subst f1;have a5:aq nx M M5:=a1.trans (nh.below aa aa);clear nh z1;by_cases h0:s5=0
  ·refine ti gz.o hZ h0 @ot.eq_1 ?_
   exact⟨i5,1,rfl,aa,a5,aa⟩
  by_cases uO:s5=12
  ·refine mY gz.o hZ h0 uO @ot.eq_1 ?_
   exact⟨i5,2,rfl,aa,a5,aa⟩
  refine mY gz.o hZ h0 uO @ot.eq_1 ?_;exact⟨i5,0,rfl,aa,a5,aa⟩
 ·refine dw gz.o w1 w2 w3 w4 w5 w6 w7 w8 h8 @ot.eq_1 ?_
  exact⟨a+2*q,1,rfl,aa,O,aa⟩
 ):P:=h
theorem f269 (ρ:aK) {lt:Int->Int->Bool} (A:AU ρ lt rwo enc k n sv off) {d:Array Int} (hM:gG M k=some (rwo d)) (hd:d.size=n) (hk:k<nx) (hn:n<=4000) (qJ:a<b) (hb:b<=n) :
 ar an ρ 269 [sv,.int .i64 a,.int .i64 b] M nx (ot nx M a b):=by
 obtain⟨q,hq⟩:=aap ((b - a) / 4);have w1:=dO (x:=b) (y:=a) aa aa;have w2:IntKind.i64.wrap (((b - a:Nat):Int).tdiv 4)=(q:Int):=by rw[show ((b - a:Nat):Int).tdiv 4=(q:Int) by rw[Int.tdiv_eq_ediv_of_nonneg aa];omega,wrap_i64 aa aa]
 have w3:IntKind.i64.wrap ((q:Int)*1)=(q:Int):=by rw[wrap_i64 aa aa];omega
 have w4:IntKind.i64.wrap ((q:Int)*2)=((2*q:Nat):Int):=by rw[wrap_i64 aa aa];omega
 have w5:IntKind.i64.wrap ((q:Int)*3)=((3*q:Nat):Int):=by rw[wrap_i64 aa aa];omega
 have w6:=dK (x:=a) (y:=q) aa;have w7:=dK (x:=a) (y:=2*q) aa;have w8:=dK (x:=a) (y:=3*q) aa;refine ar.wk 57 [.tmp 6,.tmp 7] Tryz.func269 ?_;have gz:=Wr.mk lK;have wadj:=Wr.mk @f328;have wmed:=Wr.mk @f329;exact mc4
theorem mc8 {P:Prop} (h:P:=by
 refine CU gz.o w1 w2 y1 y2 k1 k2 dg dh ?_;refine aC J0
  (b - 1+1 - (a+1)) ⟨a+1,b - 1,swp d a pivot,?_⟩ ?_
 ·refine bR gz.o ?_
  exact⟨rfl,((bK.refl _ _ _).set _).set _,aa,aa,aa,aa,rfl,(by rw[swp_size];exact hd),hR.symm⟩
 ·clear y1 y2 k1 k2 dg dh w1 w2 hR
  rintro m ⟨env,M1,n1⟩ ⟨i,j,d1,e0,e1,ec,ei,ej,xu,ho,bT,h1,h2,h4,h3,bv,hI⟩;simp only at e0 e1 ec ei ej xu ho bT;obtain⟨i2,bD⟩:=aap (scanUp (fun x=>!lt d1[a]! x) d1 j i);obtain⟨j2,f_⟩:=aap (scanDown (fun x=>lt d1[a]! x) d1 i2 j);obtain⟨b1,b2,b3,b4,b5⟩:=Uj (fun x=>af) aa h2 bD f_;rw[partEqLoop_eq,<-bD,<-f_]at hI;have hI:=Is.mk hI;have bD:=Is.mk bD;have f_:=Is.mk f_;refine iC gz.o ei ej e0 e1 ec ?_;refine bB (J1 j d1 i) (j+1 - i) (J2 i2 j d1) ⟨i,?_⟩ ?_ ?_
  ·refine iC gz.o ei ej e0 e1 ec ?_
   exact⟨xu,ho,aa,aa,aa,rfl,rfl⟩
  ·clear ei ej e0 e1 ec
   rintro m2 ⟨env,M2,n2⟩ ⟨i',e0,e1,ec,ei,ej,aW,bJ,fq,c1,c2,c3,c4⟩;simp only at ei ej e0 e1 ec aW bJ fq;have c4:=Is.mk c4;by_cases eS:(i':Int)<=j
   ·have x1:=A.ix a aa
    have x2:=A.ix i' aa;have l1:=A.ld M2 d1 aW bv a aa;have l2:=A.ld M2 d1 aW bv i' aa;have wi:=bu (x:=i') aa;refine dw gz.o ei ej eS x1 x2 l1 l2 e0 e1 ec ?_;refine bF ?_ rfl ?_;·refine bR gz.o ?_;try exact⟨⟩
    refine bR gz.o ?_;refine aT (A.cs _ _ _ _) aj ?_;cases hq:lt d1[a]! d1[i']! with
    | false =>
      have hc:=A.hF hq;have c5:scanUp (fun x=>!lt d1[a]! x) d1 j (i'+1)=scanUp (fun x=>!lt d1[a]! x) d1 j i:=by rw[<-c4.eq,gj (i:=i') aa (by simp[hq])]
      have c5:=Is.mk c5;refine iQ gz.o ei ej hc wi e0 e1 ec ?_;exact⟨j+1 - (i'+1),aa,i'+1,rfl,aW,bJ,aa,aa,aa,rfl,c5.eq⟩
    | true =>
      have hc:=A.hT hq;have c5:i'=i2:=by rw[bD.eq,<-c4.eq,cM (.inr (by simp[hq]))]
      have c6:=Is.mk c5;clear c5;refine gw gz.o ei ej hc e0 e1 ec ?_;rw[c6.eq];exact⟨rfl,aW,bJ,aa⟩
   have c5:i'=i2:=by rw[bD.eq,<-c4.eq,cM (.inl aa)]
   have c6:=Is.mk c5;clear c5;refine gw gz.o ei ej eS e0 e1 ec ?_;refine cA ?_ aj ?_;·refine bR gz.o ?_;try exact⟨⟩
   refine gw gz.o ei ej eS e0 e1 ec ?_;rw[c6.eq];exact⟨rfl,aW,bJ,aa⟩
  clear ei ej e0 e1 ec xu ho bT;rintro⟨env,M1,n1⟩ ⟨e0,e1,ec,ei,ej,xu,ho,bT⟩;simp only at ei ej e0 e1 ec xu ho bT;refine iC gz.o ei ej e0 e1 ec ?_;refine bB (J3 i2 d1 j) j (J4 i2 j2 d1) ⟨j,?_⟩ ?_ ?_
  ·refine iC gz.o ei ej e0 e1 ec ?_
   exact⟨xu,ho,aa,aa,aa,rfl,rfl⟩
  ·clear ei ej e0 e1 ec
   rintro m2 ⟨env,M2,n2⟩ ⟨j',e0,e1,ec,ei,ej,aW,bJ,fq,c1,c2,c3,c4⟩;simp only at ei ej e0 e1 ec aW bJ fq;have c4:=Is.mk c4;by_cases eS:(i2:Int)<=j'
   ·obtain⟨j',rfl⟩:∃q,j'=q+1:=⟨j' - 1,aa⟩
    have x1:=A.ix a aa;have x2:=A.ix (j'+1) aa;have l1:=A.ld M2 d1 aW bv a aa;have l2:=A.ld M2 d1 aW bv (j'+1) aa;have wj:=fQ (x:=j') aa;refine dw gz.o ei ej eS x1 x2 l1 l2 e0 e1 ec ?_;refine bF ?_ rfl ?_;·refine bR gz.o ?_;try exact⟨⟩
    refine bR gz.o ?_;refine aT (A.cs _ _ _ _) aj ?_;cases hq:lt d1[a]! d1[j'+1]! with
    | true =>
      have hc:=A.hT hq;have c5:scanDown (fun x=>lt d1[a]! x) d1 i2 j'=scanDown (fun x=>lt d1[a]! x) d1 i2 j:=by rw[<-c4.eq,eG (j:=j') aa (by simp[hq])]
      have c5:=Is.mk c5;refine iQ gz.o ei ej hc wj e0 e1 ec ?_;exact⟨j',aa,j',rfl,aW,bJ,aa,aa,aa,rfl,c5.eq⟩
    | false =>
      have hc:=A.hF hq;have c5:j'+1=j2:=by rw[f_.eq,<-c4.eq,bY (.inr (by simp[hq]))]
      have c6:=Is.mk c5;clear c5;refine gw gz.o ei ej hc e0 e1 ec ?_;rw[c6.eq];exact⟨rfl,aW,bJ,aa⟩
   have c5:j'=j2:=by rw[f_.eq,<-c4.eq,bY (.inl aa)]
   have c6:=Is.mk c5;clear c5;refine gw gz.o ei ej eS e0 e1 ec ?_;refine cA ?_ aj ?_;·refine bR gz.o ?_;try exact⟨⟩
   refine gw gz.o ei ej eS e0 e1 ec ?_;rw[c6.eq];exact⟨rfl,aW,bJ,aa⟩
  clear ei ej e0 e1 ec xu ho bT;rintro⟨env,M1,n1⟩ ⟨e0,e1,ec,ei,ej,xu,ho,bT⟩;simp only at ei ej e0 e1 ec xu ho bT;by_cases u_:(j2:Int)<i2
  ·have bt:=hI.eq
   rw[if_pos aa]at bt;rw[<-bt];clear hI bt bD f_;refine iQ gz.o ei ej u_ @LA.eq_1 e0 e1 ec ?_;exact⟨⟨xu,aa⟩,ho,aa⟩
  have bt:=hI.eq;rw[if_neg aa]at bt;have bt:=Is.mk bt;clear hI bD f_;have b6:=b5 aa;have w1:=bu (x:=i2) aa;have w2:=cN (x:=j2) aa aa;obtain⟨y1,y2,k1,k2,dg,dh⟩:=A.sw M1 d1 xu bv (i:=i2) (j:=j2) aa aa;refine ii gz.o ei ej u_ w1 w2 y1 y2 k1 k2 dg (aI dh (aI e0 (aI e1 ec))) ?_;exact⟨j2 - 1+1 - (i2+1),aa,i2+1,j2 - 1,swp d1 i2 j2,rfl,rfl,rfl,((ho.set _).set _),aa,aa,aa,aa,rfl,(by rw[swp_size];exact bv),bt.eq⟩
 ):P:=h
theorem Xt (ρ:aK) {lt:Int->Int->Bool} (A:AU ρ lt rwo enc k n sv off) {d:Array Int} (hM:gG M k=some (rwo d)) (hd:d.size=n) (hk:k<nx) (hn:n<=4000) (dX:a<=pivot) (JZ:pivot<b) (hb:b<=n) :
 ar an ρ 273 [sv,.int .i64 a,.int .i64 b,.int .i64 pivot] M nx (LA rwo nx k M (.int .i64 ((partitionEqual lt d a b pivot).1:Nat)) (partitionEqual lt d a b pivot).2):=by
 obtain⟨R,hR⟩:=aap (partitionEqual lt d a b pivot);rw[<-hR];have w1:=bu (x:=a) aa;have w2:=cN (x:=b) aa aa;obtain⟨y1,y2,k1,k2,dg,dh⟩:=A.sw M d hM hd (i:=a) (j:=pivot) aa aa;refine ar.wk 84 [.tmp 8] Tryz.func273 ?_
 let J0:=(fun(m:Nat) (s:XS)=>∃(i j:Nat) (d1:Array Int),gG s.env 0=some sv/\gG s.env 1=some (.int .i64 a)/\gG s.env 0=some sv/\gG s.env 9=some (.int .i64 i)/\gG s.env 10=some (.int .i64 j)/\gG s.M k=some (rwo d1)/\bK nx k M s.M/\nx<=s.nx/\TH lt a b n R m i j d1)
 let J1:=fun(j:Nat) (d1:Array Int) (i:Nat)=>(fun(m2:Nat) (s:XS)=>∃i':Nat,gG s.env 0=some sv/\gG s.env 1=some (.int .i64 a)/\gG s.env 0=some sv/\gG s.env 9=some (.int .i64 i')/\gG s.env 10=some (.int .i64 j)/\gG s.M k=some (rwo d1)/\bK nx k M s.M/\nx<=s.nx/\Rq (fun x=>!lt d1[a]! x) d1 i j i' m2)
 let J2:=fun(i2:Nat) (j:Nat) (d1:Array Int)=>(fun(s:XS)=>gG s.env 0=some sv/\gG s.env 1=some (.int .i64 a)/\gG s.env 0=some sv/\gG s.env 9=some (.int .i64 i2)/\gG s.env 10=some (.int .i64 j)/\gG s.M k=some (rwo d1)/\bK nx k M s.M/\nx<=s.nx)
 let J3:=fun(i2:Nat) (d1:Array Int) (j:Nat)=>(fun(m2:Nat) (s:XS)=>∃j':Nat,gG s.env 0=some sv/\gG s.env 1=some (.int .i64 a)/\gG s.env 0=some sv/\gG s.env 9=some (.int .i64 i2)/\gG s.env 10=some (.int .i64 j')/\gG s.M k=some (rwo d1)/\bK nx k M s.M/\nx<=s.nx/\Rw (fun x=>lt d1[a]! x) d1 i2 j j' m2)
 let J4:=fun(i2:Nat) (j2:Nat) (d1:Array Int)=>(fun(s:XS)=>gG s.env 0=some sv/\gG s.env 1=some (.int .i64 a)/\gG s.env 0=some sv/\gG s.env 9=some (.int .i64 i2)/\gG s.env 10=some (.int .i64 j2)/\gG s.M k=some (rwo d1)/\bK nx k M s.M/\nx<=s.nx)
 have gz:=Wr.mk aS;exact mc8
theorem mc9 {P:Prop} (h:P:=by
 refine CU gz.o w1 w2 y1 y2 k1 k2 dg dh ?_;refine W_gen (J0 i j d1) ?_ ?_
 ·refine mI gz.o rz ?_
  exact⟨((bK.refl _ _ _).set _).set _,aa⟩
 clear y1 y2 k1 k2 dg dh w1 w2 rz hR rB hM hd;rintro⟨env,M1,n1⟩ ⟨e0,e1,ec,ei,ej,xu,ho,bT⟩;simp only at e0 e1 ec ei ej xu ho bT;refine bB (J1 j d1 i) (j+1 - i) (J2 i2 j d1) ⟨i,?_⟩ ?_ ?_
 ·refine iC gz.o ei ej e0 e1 ec ?_
  exact⟨xu,ho,aa,aa,aa,rfl,rfl⟩
 ·clear ei ej e0 e1 ec
  rintro m2 ⟨env,M2,n2⟩ ⟨i',e0,e1,ec,ei,ej,aW,bJ,fq,c1,c2,c3,c4⟩;simp only at ei ej e0 e1 ec aW bJ fq;have c4:=Is.mk c4;by_cases eS:(i':Int)<=j
  ·have x1:=A.ix a aa
   have x2:=A.ix i' aa;have l1:=A.ld M2 d1 aW bv a aa;have l2:=A.ld M2 d1 aW bv i' aa;have wi:=bu (x:=i') aa;refine dw gz.o ei ej eS x1 x2 l1 l2 e0 e1 ec ?_;refine bF ?_ rfl ?_;·refine bR gz.o ?_;try exact⟨⟩
   refine bR gz.o ?_;refine aT (A.cs _ _ _ _) aj ?_;cases hq:lt d1[i']! d1[a]! with
   | true =>
     have hc:=A.hT hq;have c5:scanUp (fun x=>lt x d1[a]!) d1 j (i'+1)=scanUp (fun x=>lt x d1[a]!) d1 j i:=by rw[<-c4.eq,gj (i:=i') aa (by simp[hq])]
     have c5:=Is.mk c5;refine iQ gz.o ei ej hc wi e0 e1 ec ?_;exact⟨j+1 - (i'+1),aa,i'+1,rfl,aW,bJ,aa,aa,aa,rfl,c5.eq⟩
   | false =>
     have hc:=A.hF hq;have c5:i'=i2:=by rw[bD.eq,<-c4.eq,cM (.inr (by simp[hq]))]
     have c6:=Is.mk c5;clear c5;refine gw gz.o ei ej hc e0 e1 ec ?_;rw[c6.eq];exact⟨rfl,aW,bJ,aa⟩
  have c5:i'=i2:=by rw[bD.eq,<-c4.eq,cM (.inl aa)]
  have c6:=Is.mk c5;clear c5;refine gw gz.o ei ej eS e0 e1 ec ?_;refine cA ?_ aj ?_;·refine bR gz.o ?_;try exact⟨⟩
  refine gw gz.o ei ej eS e0 e1 ec ?_;rw[c6.eq];exact⟨rfl,aW,bJ,aa⟩
 ·clear ei ej e0 e1 ec xu ho bT
  rintro⟨env,M1,n1⟩ ⟨e0,e1,ec,ei,ej,xu,ho,bT⟩;simp only at ei ej e0 e1 ec xu ho bT;refine iC gz.o ei ej e0 e1 ec ?_;refine bB (J3 i2 d1 j) j (J4 i2 j2 d1) ⟨j,?_⟩ ?_ ?_
  ·refine iC gz.o ei ej e0 e1 ec ?_
   exact⟨xu,ho,aa,aa,aa,rfl,rfl⟩
  ·clear ei ej e0 e1 ec
   rintro m2 ⟨env,M2,n2⟩ ⟨j',e0,e1,ec,ei,ej,aW,bJ,fq,c1,c2,c3,c4⟩;simp only at ei ej e0 e1 ec aW bJ fq;have c4:=Is.mk c4;by_cases eS:(i2:Int)<=j'
   ·obtain⟨j',rfl⟩:∃q,j'=q+1:=⟨j' - 1,aa⟩
    have x1:=A.ix a aa;have x2:=A.ix (j'+1) aa;have l1:=A.ld M2 d1 aW bv a aa;have l2:=A.ld M2 d1 aW bv (j'+1) aa;have wj:=fQ (x:=j') aa;refine dw gz.o ei ej eS x1 x2 l1 l2 e0 e1 ec ?_;refine bF ?_ rfl ?_;·refine bR gz.o ?_;try exact⟨⟩
    refine bR gz.o ?_;refine aT (A.cs _ _ _ _) aj ?_;cases hq:lt d1[j'+1]! d1[a]! with
    | false =>
      have hc:=A.hF hq;have c5:scanDown (fun x=>!lt x d1[a]!) d1 i2 j'=scanDown (fun x=>!lt x d1[a]!) d1 i2 j:=by rw[<-c4.eq,eG (j:=j') aa (by simp[hq])]
      have c5:=Is.mk c5;refine iQ gz.o ei ej hc wj e0 e1 ec ?_;exact⟨j',aa,j',rfl,aW,bJ,aa,aa,aa,rfl,c5.eq⟩
    | true =>
      have hc:=A.hT hq;have c5:j'+1=j2:=by rw[f_.eq,<-c4.eq,bY (.inr (by simp[hq]))]
      have c6:=Is.mk c5;clear c5;refine gw gz.o ei ej hc e0 e1 ec ?_;rw[c6.eq];exact⟨rfl,aW,bJ,aa⟩
   have c5:j'=j2:=by rw[f_.eq,<-c4.eq,bY (.inl aa)]
   have c6:=Is.mk c5;clear c5;refine gw gz.o ei ej eS e0 e1 ec ?_;refine cA ?_ aj ?_;·refine bR gz.o ?_;try exact⟨⟩
   refine gw gz.o ei ej eS e0 e1 ec ?_;rw[c6.eq];exact⟨rfl,aW,bJ,aa⟩
  clear ei ej e0 e1 ec xu ho bT;rintro⟨env,M1,n1⟩ ⟨e0,e1,ec,ei,ej,xu,ho,bT⟩;simp only at ei ej e0 e1 ec xu ho bT;have AR:=Gj.eq;by_cases u_:(j2:Int)<i2
  ·rw[if_pos aa]at AR
   subst AR;clear Gj bD f_;obtain⟨y1,y2,k1,k2,dg,dh⟩:=A.sw M1 d1 xu bv (i:=j2) (j:=a) aa aa;refine ii gz.o ei ej u_ @LA.eq_1 y1 y2 k1 k2 dg dh (aI e0 (aI e1 ec)) ?_;exact⟨⟨rfl,(by rw[swp_size];omega)⟩,(ho.set _).set _,aa⟩
  rw[if_neg aa]at AR;obtain⟨Rr,Jn⟩:=aap (partLoop lt a (i2+1) (j2 - 1) (swp d1 i2 j2));rw[<-Jn]at AR;have AR:=Is.mk AR;have Jn:=Is.mk Jn;clear Gj bD f_;have b6:=b5 aa;have w1:=bu (x:=i2) aa;have w2:=cN (x:=j2) aa aa;obtain⟨y1,y2,k1,k2,dg,dh⟩:=A.sw M1 d1 xu bv (i:=i2) (j:=j2) aa aa;refine ii gz.o ei ej u_ w1 w2 y1 y2 k1 k2 dg (aI dh (aI e0 (aI e1 ec))) ?_;refine aC (J5 Rr)
   (j2 - 1+1 - (i2+1)) ⟨i2+1,j2 - 1,swp d1 i2 j2,?_⟩ ?_
  ·refine ti gz.o e0 e1 ec ?_
   exact⟨rfl,((ho.set _).set _),aa,aa,aa,aa,rfl,(by rw[swp_size];exact bv),Jn.eq.symm⟩
  clear y1 y2 k1 k2 dg dh w1 w2 Jn ei ej e0 e1 ec xu ho bT u_ b1 b2 b3 b4 b5 b6 bv;rintro m ⟨env,M1,n1⟩ ⟨i,j,d1,e0,e1,ec,ei,ej,xu,ho,bT,h1,h2,h4,h3,bv,hI⟩;simp only at e0 e1 ec ei ej xu ho bT;obtain⟨i2,bD⟩:=aap (scanUp (fun x=>lt x d1[a]!) d1 j i);obtain⟨j2,f_⟩:=aap (scanDown (fun x=>!lt x d1[a]!) d1 i2 j);obtain⟨b1,b2,b3,b4,b5⟩:=Uj (fun x=>rfl) aa h2 bD f_;rw[partLoop_eq,<-bD,<-f_]at hI;have hI:=Is.mk hI;have bD:=Is.mk bD;have f_:=Is.mk f_;refine iC gz.o ei ej e0 e1 ec ?_;refine bB (J6 j d1 i) (j+1 - i) (J7 i2 j d1) ⟨i,?_⟩ ?_ ?_
  ·refine iC gz.o ei ej e0 e1 ec ?_
   exact⟨xu,ho,aa,aa,aa,rfl,rfl⟩
  ·clear ei ej e0 e1 ec
   rintro m2 ⟨env,M2,n2⟩ ⟨i',e0,e1,ec,ei,ej,aW,bJ,fq,c1,c2,c3,c4⟩;simp only at ei ej e0 e1 ec aW bJ fq;have c4:=Is.mk c4;by_cases eS:(i':Int)<=j
   ·have x1:=A.ix a aa
    have x2:=A.ix i' aa;have l1:=A.ld M2 d1 aW bv a aa;have l2:=A.ld M2 d1 aW bv i' aa;have wi:=bu (x:=i') aa;refine dw gz.o ei ej eS x1 x2 l1 l2 e0 e1 ec ?_;refine bF ?_ rfl ?_;·refine bR gz.o ?_;try exact⟨⟩
    refine bR gz.o ?_;refine aT (A.cs _ _ _ _) aj ?_;cases hq:lt d1[i']! d1[a]! with
    | true =>
      have hc:=A.hT hq;have c5:scanUp (fun x=>lt x d1[a]!) d1 j (i'+1)=scanUp (fun x=>lt x d1[a]!) d1 j i:=by rw[<-c4.eq,gj (i:=i') aa (by simp[hq])]
      have c5:=Is.mk c5;refine iQ gz.o ei ej hc wi e0 e1 ec ?_;exact⟨j+1 - (i'+1),aa,i'+1,rfl,aW,bJ,aa,aa,aa,rfl,c5.eq⟩
    | false =>
      have hc:=A.hF hq;have c5:i'=i2:=by rw[bD.eq,<-c4.eq,cM (.inr (by simp[hq]))]
      have c6:=Is.mk c5;clear c5;refine gw gz.o ei ej hc e0 e1 ec ?_;rw[c6.eq];exact⟨rfl,aW,bJ,aa⟩
   have c5:i'=i2:=by rw[bD.eq,<-c4.eq,cM (.inl aa)]
   have c6:=Is.mk c5;clear c5;refine gw gz.o ei ej eS e0 e1 ec ?_;refine cA ?_ aj ?_;·refine bR gz.o ?_;try exact⟨⟩
   refine gw gz.o ei ej eS e0 e1 ec ?_;rw[c6.eq];exact⟨rfl,aW,bJ,aa⟩
  clear ei ej e0 e1 ec xu ho bT;rintro⟨env,M1,n1⟩ ⟨e0,e1,ec,ei,ej,xu,ho,bT⟩;simp only at ei ej e0 e1 ec xu ho bT;refine iC gz.o ei ej e0 e1 ec ?_;refine bB (J8 i2 d1 j) j (J9 i2 j2 d1) ⟨j,?_⟩ ?_ ?_
  ·refine iC gz.o ei ej e0 e1 ec ?_
   exact⟨xu,ho,aa,aa,aa,rfl,rfl⟩
  ·clear ei ej e0 e1 ec
   rintro m2 ⟨env,M2,n2⟩ ⟨j',e0,e1,ec,ei,ej,aW,bJ,fq,c1,c2,c3,c4⟩;simp only at ei ej e0 e1 ec aW bJ fq;have c4:=Is.mk c4;by_cases eS:(i2:Int)<=j'
   ·obtain⟨j',rfl⟩:∃q,j'=q+1:=⟨j' - 1,aa⟩
    have x1:=A.ix a aa;have x2:=A.ix (j'+1) aa;have l1:=A.ld M2 d1 aW bv a aa;have l2:=A.ld M2 d1 aW bv (j'+1) aa;have wj:=fQ (x:=j') aa;refine dw gz.o ei ej eS x1 x2 l1 l2 e0 e1 ec ?_;refine bF ?_ rfl ?_;·refine bR gz.o ?_;try exact⟨⟩
    refine bR gz.o ?_;refine aT (A.cs _ _ _ _) aj ?_;cases hq:lt d1[j'+1]! d1[a]! with
    | false =>
      have hc:=A.hF hq;have c5:scanDown (fun x=>!lt x d1[a]!) d1 i2 j'=scanDown (fun x=>!lt x d1[a]!) d1 i2 j:=by rw[<-c4.eq,eG (j:=j') aa (by simp[hq])]
      have c5:=Is.mk c5;refine iQ gz.o ei ej hc wj e0 e1 ec ?_;exact⟨j',aa,j',rfl,aW,bJ,aa,aa,aa,rfl,c5.eq⟩
    | true =>
      have hc:=A.hT hq;have c5:j'+1=j2:=by rw[f_.eq,<-c4.eq,bY (.inr (by simp[hq]))]
      have c6:=Is.mk c5;clear c5;refine gw gz.o ei ej hc e0 e1 ec ?_;rw[c6.eq];exact⟨rfl,aW,bJ,aa⟩
   have c5:j'=j2:=by rw[f_.eq,<-c4.eq,bY (.inl aa)]
   have c6:=Is.mk c5;clear c5;refine gw gz.o ei ej eS e0 e1 ec ?_;refine cA ?_ aj ?_;·refine bR gz.o ?_;try exact⟨⟩
   refine gw gz.o ei ej eS e0 e1 ec ?_;rw[c6.eq];exact⟨rfl,aW,bJ,aa⟩
  clear ei ej e0 e1 ec xu ho bT;rintro⟨env,M1,n1⟩ ⟨e0,e1,ec,ei,ej,xu,ho,bT⟩;simp only at ei ej e0 e1 ec xu ho bT;by_cases u_:(j2:Int)<i2
  ·have bt:=hI.eq
   rw[if_pos aa]at bt;have T6:=AR.eq;rw[<-bt]at T6;subst T6;clear hI bt bD f_ AR;obtain⟨y1,y2,k1,k2,dg,dh⟩:=A.sw M1 d1 xu bv (i:=j2) (j:=a) aa aa;refine ii gz.o ei ej u_ @LA.eq_1 y1 y2 k1 k2 dg dh (aI e0 (aI e1 ec)) ?_;exact⟨⟨rfl,(by rw[swp_size];omega)⟩,(ho.set _).set _,aa⟩
  have bt:=hI.eq;rw[if_neg aa]at bt;have bt:=Is.mk bt;clear hI bD f_;have b6:=b5 aa;have w1:=bu (x:=i2) aa;have w2:=cN (x:=j2) aa aa;obtain⟨y1,y2,k1,k2,dg,dh⟩:=A.sw M1 d1 xu bv (i:=i2) (j:=j2) aa aa;refine ii gz.o ei ej u_ w1 w2 y1 y2 k1 k2 dg (aI dh (aI e0 (aI e1 ec))) ?_;exact⟨j2 - 1+1 - (i2+1),aa,i2+1,j2 - 1,swp d1 i2 j2,rfl,rfl,rfl,((ho.set _).set _),aa,aa,aa,aa,rfl,(by rw[swp_size];exact bv),bt.eq⟩
 ):P:=h
theorem XL (ρ:aK) {lt:Int->Int->Bool} (A:AU ρ lt rwo enc k n sv off) {d:Array Int} (hM:gG M k=some (rwo d)) (hd:d.size=n) (hk:k<nx) (hn:n<=4000) (dX:a<=pivot) (JZ:pivot<b) (hb:b<=n) :
 ar an ρ 274 [sv,.int .i64 a,.int .i64 b,.int .i64 pivot] M nx (LA rwo nx k M (.tup [.int .i64 ((partition lt d a b pivot).1:Nat),.bool (partition lt d a b pivot).2.1]) (partition lt d a b pivot).2.2):=by
 obtain⟨R,hR⟩:=aap (partition lt d a b pivot);rw[<-hR];obtain⟨d1,rB⟩:=aap (swp d a pivot);obtain⟨i,hi⟩:=aap (a+1);obtain⟨j,hj⟩:=aap (b - 1);obtain⟨i2,bD⟩:=aap (scanUp (fun x=>lt x d1[a]!) d1 j i);obtain⟨j2,f_⟩:=aap (scanDown (fun x=>!lt x d1[a]!) d1 i2 j);have bv:d1.size=n:=by rw[rB,swp_size];exact hd
 obtain⟨b1,b2,b3,b4,b5⟩:=Uj (fun x=>rfl) aa aa bD f_;have Gj:R=if i2>j2 then (j2,true,swp d1 j2 a) else ((partLoop lt a (i2+1) (j2 - 1) (swp d1 i2 j2)).1,false,swp (partLoop lt a (i2+1) (j2 - 1) (swp d1 i2 j2)).2 (partLoop lt a (i2+1) (j2 - 1) (swp d1 i2 j2)).1 a):=by subst f_;subst bD;subst rB;subst hi;subst hj;exact hR
 have Gj:=Is.mk Gj;have w1:IntKind.i64.wrap ((a:Int)+1)=(i:Int):=by rw[wrap_i64 aa aa];omega
 have w2:IntKind.i64.wrap ((b:Int) - 1)=(j:Int):=by rw[wrap_i64 aa aa];omega
 obtain⟨y1,y2,k1,k2,dg,dh⟩:=A.sw M d hM hd (i:=a) (j:=pivot) aa aa;have rz:rwo ((d.setIfInBounds a d[pivot]!).setIfInBounds pivot d[a]!)=rwo d1:=by rw[rB];rfl
 have bD:=Is.mk bD;have f_:=Is.mk f_;have hR:=Is.mk hR;have rB:=Is.mk rB;refine ar.wk 168 [.tmp 8,.tmp 9] Tryz.func274 ?_
 let J0:=fun(i:Nat) (j:Nat) (d1:Array Int)=>(fun(s:XS)=>gG s.env 0=some sv/\gG s.env 1=some (.int .i64 a)/\gG s.env 0=some sv/\gG s.env 10=some (.int .i64 i)/\gG s.env 11=some (.int .i64 j)/\gG s.M k=some (rwo d1)/\bK nx k M s.M/\nx<=s.nx)
 let J1:=fun(j:Nat) (d1:Array Int) (i:Nat)=>(fun(m2:Nat) (s:XS)=>∃i':Nat,gG s.env 0=some sv/\gG s.env 1=some (.int .i64 a)/\gG s.env 0=some sv/\gG s.env 10=some (.int .i64 i')/\gG s.env 11=some (.int .i64 j)/\gG s.M k=some (rwo d1)/\bK nx k M s.M/\nx<=s.nx/\Rq (fun x=>lt x d1[a]!) d1 i j i' m2)
 let J2:=fun(i2:Nat) (j:Nat) (d1:Array Int)=>(fun(s:XS)=>gG s.env 0=some sv/\gG s.env 1=some (.int .i64 a)/\gG s.env 0=some sv/\gG s.env 10=some (.int .i64 i2)/\gG s.env 11=some (.int .i64 j)/\gG s.M k=some (rwo d1)/\bK nx k M s.M/\nx<=s.nx)
 let J3:=fun(i2:Nat) (d1:Array Int) (j:Nat)=>(fun(m2:Nat) (s:XS)=>∃j':Nat,gG s.env 0=some sv/\gG s.env 1=some (.int .i64 a)/\gG s.env 0=some sv/\gG s.env 10=some (.int .i64 i2)/\gG s.env 11=some (.int .i64 j')/\gG s.M k=some (rwo d1)/\bK nx k M s.M/\nx<=s.nx/\Rw (fun x=>!lt x d1[a]!) d1 i2 j j' m2)
 let J4:=fun(i2:Nat) (j2:Nat) (d1:Array Int)=>(fun(s:XS)=>gG s.env 0=some sv/\gG s.env 1=some (.int .i64 a)/\gG s.env 0=some sv/\gG s.env 10=some (.int .i64 i2)/\gG s.env 11=some (.int .i64 j2)/\gG s.M k=some (rwo d1)/\bK nx k M s.M/\nx<=s.nx)
 let J5:=fun(Rr:Nat×Array Int)=>(fun(m:Nat) (s:XS)=>∃(i j:Nat) (d1:Array Int),gG s.env 0=some sv/\gG s.env 1=some (.int .i64 a)/\gG s.env 0=some sv/\gG s.env 10=some (.int .i64 i)/\gG s.env 11=some (.int .i64 j)/\gG s.M k=some (rwo d1)/\bK nx k M s.M/\nx<=s.nx/\aae lt a b n Rr m i j d1)
 let J6:=fun(j:Nat) (d1:Array Int) (i:Nat)=>(fun(m2:Nat) (s:XS)=>∃i':Nat,gG s.env 0=some sv/\gG s.env 1=some (.int .i64 a)/\gG s.env 0=some sv/\gG s.env 10=some (.int .i64 i')/\gG s.env 11=some (.int .i64 j)/\gG s.M k=some (rwo d1)/\bK nx k M s.M/\nx<=s.nx/\Rq (fun x=>lt x d1[a]!) d1 i j i' m2)
 let J7:=fun(i2:Nat) (j:Nat) (d1:Array Int)=>(fun(s:XS)=>gG s.env 0=some sv/\gG s.env 1=some (.int .i64 a)/\gG s.env 0=some sv/\gG s.env 10=some (.int .i64 i2)/\gG s.env 11=some (.int .i64 j)/\gG s.M k=some (rwo d1)/\bK nx k M s.M/\nx<=s.nx)
 let J8:=fun(i2:Nat) (d1:Array Int) (j:Nat)=>(fun(m2:Nat) (s:XS)=>∃j':Nat,gG s.env 0=some sv/\gG s.env 1=some (.int .i64 a)/\gG s.env 0=some sv/\gG s.env 10=some (.int .i64 i2)/\gG s.env 11=some (.int .i64 j')/\gG s.M k=some (rwo d1)/\bK nx k M s.M/\nx<=s.nx/\Rw (fun x=>!lt x d1[a]!) d1 i2 j j' m2)
 let J9:=fun(i2:Nat) (j2:Nat) (d1:Array Int)=>(fun(s:XS)=>gG s.env 0=some sv/\gG s.env 1=some (.int .i64 a)/\gG s.env 0=some sv/\gG s.env 10=some (.int .i64 i2)/\gG s.env 11=some (.int .i64 j2)/\gG s.M k=some (rwo d1)/\bK nx k M s.M/\nx<=s.nx)
 have gz:=Wr.mk aS;exact mc9
theorem Tn {P:Prop} (h:P:=by
 refine mI gz.o w1 ?_;refine aC J0
  5 ⟨0,a+1,d,?_⟩ ?_
 ·refine bR gz.o ?_
  have NN:=hR.eq.symm
  (repeat' (apply ao))<;>first | assumption | rfl | omega | exact bK.refl _ _ _ | exact bK.set (bK.set ho _) _ | (rw[swp_size];assumption) | exact congrArg _ aa
 ·clear w1 hR hM hd
  rintro m ⟨env,M1,n1⟩ ⟨jj,i,d1,e0,e1,e2,ec,ei,ej,xu,ho,bT,h1,h2,h4,h3,bv,hI⟩;simp only at e0 e1 e2 ec ei ej xu ho bT;by_cases h5:(jj:Int)<5
  ·obtain⟨i2,bD⟩:=aap (scanSorted lt d1 b i)
   obtain⟨b1,b2⟩:=oE lt d1 b _ i rfl h2;rw[<-bD]at b1 b2;rw[show 5 - jj=(5 - (jj+1))+1 by omega,partialIns_succ,<-bD]at hI;have hI:=Is.mk hI;have bD:=Is.mk bD;have wjj:=bu (x:=jj) aa;refine iQ gz.o ei ej h5 e0 e1 e2 ec ?_;refine bB (J1 jj d1 i) (b - i)
    (J2 i2 jj d1) ⟨i,?_⟩ ?_ ?_
   ·refine gw gz.o ei ej e0 e1 e2 ec ?_
    exact⟨xu,ho,aa,aa,aa,rfl,rfl⟩
   ·clear ei ej e0 e1 e2 ec
    rintro m2 ⟨env,M2,n2⟩ ⟨i',e0,e1,e2,ec,ei,ej,aW,bJ,fq,c1,c2,c3,c4⟩;simp only at ei ej e0 e1 e2 ec aW bJ fq;have c4:=Is.mk c4;by_cases eS:(i':Int)<b
    ·have x1:=A.ix i' aa
     have x2:=A.ix (i' - 1) aa;have l1:=A.ld M2 d1 aW bv i' aa;have l2:=A.ld M2 d1 aW bv (i' - 1) aa;have wi:=bu (x:=i') aa;have wm:=cN (x:=i') aa aa;refine ii gz.o ei ej eS wm x1 x2 l1 l2 e0 e1 (aI e2 ec) ?_;refine bF ?_ rfl ?_;·refine bR gz.o ?_;try exact⟨⟩
     refine bR gz.o ?_;refine aT (A.cs _ _ _ _) aj ?_;cases hq:lt d1[i']! d1[i' - 1]! with
     | false =>
       have hc:=A.hF hq;have c5:scanSorted lt d1 b (i'+1)=scanSorted lt d1 b i:=by rw[<-c4.eq,iU (i:=i') aa hq]
       have c5:=Is.mk c5;refine CU gz.o ei ej hc wi e0 e1 e2 ec ?_;exact⟨b - (i'+1),aa,i'+1,rfl,aW,bJ,aa,aa,aa,rfl,c5.eq⟩
     | true =>
       have hc:=A.hT hq;have c5:i'=i2:=by rw[bD.eq,<-c4.eq,dC (.inr hq)]
       have c6:=Is.mk c5;clear c5;refine iQ gz.o ei ej hc e0 e1 e2 ec ?_;rw[c6.eq];exact⟨rfl,aW,bJ,aa⟩
    have c5:i'=i2:=by rw[bD.eq,<-c4.eq,dC (.inl aa)]
    have c6:=Is.mk c5;clear c5;refine iQ gz.o ei ej eS e0 e1 e2 ec ?_;refine cA ?_ aj ?_;·refine bR gz.o ?_;try exact⟨⟩
    refine iQ gz.o ei ej eS e0 e1 e2 ec ?_;rw[c6.eq];exact⟨rfl,aW,bJ,aa⟩
   clear ei ej e0 e1 e2 ec xu ho bT;rintro⟨env,M1,n1⟩ ⟨e0,e1,e2,ec,ei,ej,xu,ho,bT⟩;simp only at ei ej e0 e1 e2 ec xu ho bT;by_cases rC:i2=b
   ·have bt:=hI.eq
    rw[if_pos rC]at bt;subst bt;have pz:(i2:Int)=(b:Int):=aa;clear hI bD;refine dp gz.o ei ej rC pz @LA.eq_1 e0 e1 e2 ec ?_;exact⟨⟨xu,aa⟩,ho,aa⟩
   have bt:=hI.eq;rw[if_neg rC]at bt;have pz:¬ (i2:Int)=(b:Int):=aa;have wba:=dO (x:=b) (y:=a) aa aa;by_cases AO:((b - a:Nat):Int)<50
   ·rw[if_pos aa]at bt
    subst bt;clear hI bD;refine ii gz.o ei ej rC pz wba AO @LA.eq_1 e0 e1 e2 ec ?_;exact⟨⟨xu,aa⟩,ho,aa⟩
   rw[if_neg aa]at bt;obtain⟨d3,Ld⟩:=aap (fixDown lt a i2 (swp d1 i2 (i2 - 1)));rw[<-Ld]at bt;obtain⟨d4,fZ⟩:=aap (fixUp lt b i2 d3);rw[<-fZ]at bt;have hI3:=Is.mk bt;have s3:d3.size=n:=by
    rw[Ld];unfold fixDown;split;·exact jO _ _ _ (by rw[swp_size];exact bv)
    rw[swp_size];exact bv
   have s4:d4.size=n:=by
    rw[fZ];unfold fixUp;split;·exact qf _ _ _ _ _ rfl s3
    exact s3
   unfold fixDown at Ld;unfold fixUp at fZ;clear hI bt bD;have wia:=dO (x:=i2) (y:=a) aa aa;have wbi:=dO (x:=b) (y:=i2) aa aa;have MW:=cN (x:=i2) aa aa;have UZ:=bu (x:=i2) aa;obtain⟨y1,y2,k1,k2,dg,dh⟩:=A.sw M1 d1 xu bv (i:=i2) (j:=i2 - 1) aa aa;by_cases q2:(2:Int)<=((i2 - a:Nat):Int)
   ·rw[if_pos aa]at Ld
    have Ld:=Is.mk Ld;by_cases q3:(2:Int)<=((b - i2:Nat):Int)
    ·rw[if_pos aa]at fZ
     have fZ:=Is.mk fZ;refine ii gz.o ei ej rC pz wba AO wia q2 MW y1 (aI y2 (aI k1 (aI k2 (aI dg (aI dh (aI e0 (aI e1 (aI e2 ec)))))))) ?_;clear y1 y2 k1 k2 dg dh;refine bB (J3 i2 jj d3) (i2 - 1)
      (J4 i2 jj d3) ⟨i2 - 1,swp d1 i2 (i2 - 1),?_⟩ ?_ ?_
     ·refine gw gz.o ei ej e0 e1 e2 ec ?_
      have QC:=Ld.eq.symm
      (repeat' (apply ao))<;>first | assumption | rfl | omega | exact bK.refl _ _ _ | exact bK.set (bK.set ho _) _ | (rw[swp_size];assumption) | exact congrArg _ aa
     ·clear ei ej e0 e1 e2 ec xu bT
      rintro m2 ⟨env,M2,n2⟩ ⟨j',d2,e0,e1,e2,ec,ei,ej,e9,aW,bJ,fq,c1,c2,c3,c4⟩;simp only at ei ej e9 e0 e1 e2 ec aW bJ fq;by_cases mj:(1:Int)<=j'
      ·obtain⟨j',rfl⟩:∃q,j'=q+1:=⟨j' - 1,aa⟩
       have c4:=Is.mk c4;have wj:=fQ (x:=j') aa;obtain⟨y1,y2,k1,k2,dg,dh⟩:=A.sw M2 d2 aW c3 (i:=j'+1) (j:=j') aa aa;refine ii gz.o ei ej e9 mj wj y1 y2 k1 k2 e0 (aI e1 (aI e2 ec)) ?_;refine aT (A.cs _ _ _ _) aj ?_;cases hq:lt d2[j'+1]! d2[j']! with
       | true =>
         have hc:=A.hT hq;have c5:shiftDown lt j' (swp d2 (j'+1) j')=d3:=by rw[<-c4.eq,shiftDown,hq];rfl
         have c5:=Is.mk c5;refine ii gz.o ei ej e9 hc wj y1 y2 k1 k2 dg (aI dh (aI e0 (aI e1 (aI e2 ec)))) ?_;exact⟨j',aa,j',swp d2 (j'+1) j',rfl,rfl,((bJ.set _).set _),aa,aa,rfl,(by rw[swp_size];exact c3),c5.eq⟩
       | false =>
         have hc:=A.hF hq;have c5:d2=d3:=by rw[<-c4.eq,shiftDown,hq];rfl
         have c5:=Is.mk c5;clear c4;refine CU gz.o ei ej e9 hc e0 e1 e2 ec ?_;rw[<-c5.eq];exact⟨aW,bJ,aa⟩
      have c5:d2=d3:=by rw[<-c4,show j'=0 by omega];rfl
      have c5:=Is.mk c5;clear c4;refine CU gz.o ei ej e9 mj e0 e1 e2 ec ?_;rw[<-c5.eq];exact⟨aW,bJ,aa⟩
     clear ei ej e0 e1 e2 ec xu ho bT bv;rintro⟨env,M1,n1⟩ ⟨e0,e1,e2,ec,ei,ej,xu,ho,bT⟩;simp only at ei ej e0 e1 e2 ec xu ho bT;refine dp gz.o ei ej wbi q3 UZ e0 e1 e2 ec ?_;refine bB (J5 i2 jj d4) (b - (i2+1))
      (J6 i2 jj d4) ⟨i2+1,d3,?_⟩ ?_ ?_
     ·refine gw gz.o ei ej e0 e1 e2 ec ?_
      have QD:=fZ.eq.symm
      (repeat' (apply ao))<;>first | assumption | rfl | omega | exact bK.refl _ _ _ | exact bK.set (bK.set ho _) _ | (rw[swp_size];assumption) | exact congrArg _ aa
     ·clear ei ej e0 e1 e2 ec xu bT
      rintro m2 ⟨env,M2,n2⟩ ⟨j',d2,e0,e1,e2,ec,ei,ej,e9,aW,bJ,fq,c0,c1,c2,c3,c4⟩;simp only at ei ej e9 e0 e1 e2 ec aW bJ fq;by_cases mj:(j':Int)<b
      ·have c4:=Is.mk c4
       have wj:=cN (x:=j') aa aa;have Rj:=bu (x:=j') aa;obtain⟨y1,y2,k1,k2,dg,dh⟩:=A.sw M2 d2 aW c3 (i:=j') (j:=j' - 1) aa aa;refine ii gz.o ei ej e9 mj wj y1 y2 k1 k2 e0 (aI e1 (aI e2 ec)) ?_;refine aT (A.cs _ _ _ _) aj ?_;cases hq:lt d2[j']! d2[j' - 1]! with
       | true =>
         have hc:=A.hT hq;have c5:shiftUp lt b (j'+1) (swp d2 j' (j' - 1))=d4:=by rw[<-c4.eq,jv (j:=j') (d:=d2) aa hq]
         have c5:=Is.mk c5;refine ii gz.o ei ej e9 hc wj Rj y1 y2 k1 k2 (aI dg (aI dh (aI e0 (aI e1 (aI e2 ec))))) ?_;exact⟨b - (j'+1),aa,j'+1,swp d2 j' (j' - 1),rfl,rfl,((bJ.set _).set _),aa,aa,aa,rfl,(by rw[swp_size];exact c3),c5.eq⟩
       | false =>
         have hc:=A.hF hq;have c5:d2=d4:=by rw[<-c4.eq,shiftUp,if_pos aa,hq];rfl
         have c5:=Is.mk c5;clear c4;refine CU gz.o ei ej e9 hc e0 e1 e2 ec ?_;rw[<-c5.eq];exact⟨aW,bJ,aa⟩
      have c5:d2=d4:=by rw[<-c4,shiftUp,if_neg aa]
      have c5:=Is.mk c5;clear c4;refine CU gz.o ei ej e9 mj e0 e1 e2 ec ?_;rw[<-c5.eq];exact⟨aW,bJ,aa⟩
     clear ei ej e0 e1 e2 ec xu ho bT;rintro⟨env,M1,n1⟩ ⟨e0,e1,e2,ec,ei,ej,xu,ho,bT⟩;simp only at ei ej e0 e1 e2 ec xu ho bT;refine iQ gz.o ei ej wjj e0 e1 e2 ec ?_;exact⟨5 - (jj+1),aa,jj+1,i2,d4,rfl,rfl,xu,ho,aa,aa,aa,aa,rfl,s4,hI3.eq⟩
    rw[if_neg aa]at fZ;have fZ:=Is.mk fZ;refine ii gz.o ei ej rC pz wba AO wia q2 MW y1 (aI y2 (aI k1 (aI k2 (aI dg (aI dh (aI e0 (aI e1 (aI e2 ec)))))))) ?_;clear y1 y2 k1 k2 dg dh;refine bB (J7 i2 jj d3) (i2 - 1)
     (J8 i2 jj d3) ⟨i2 - 1,swp d1 i2 (i2 - 1),?_⟩ ?_ ?_
    ·refine gw gz.o ei ej e0 e1 e2 ec ?_
     have QC:=Ld.eq.symm
     (repeat' (apply ao))<;>first | assumption | rfl | omega | exact bK.refl _ _ _ | exact bK.set (bK.set ho _) _ | (rw[swp_size];assumption) | exact congrArg _ aa
    ·clear ei ej e0 e1 e2 ec xu bT
     rintro m2 ⟨env,M2,n2⟩ ⟨j',d2,e0,e1,e2,ec,ei,ej,e9,aW,bJ,fq,c1,c2,c3,c4⟩;simp only at ei ej e9 e0 e1 e2 ec aW bJ fq;by_cases mj:(1:Int)<=j'
     ·obtain⟨j',rfl⟩:∃q,j'=q+1:=⟨j' - 1,aa⟩
      have c4:=Is.mk c4;have wj:=fQ (x:=j') aa;obtain⟨y1,y2,k1,k2,dg,dh⟩:=A.sw M2 d2 aW c3 (i:=j'+1) (j:=j') aa aa;refine ii gz.o ei ej e9 mj wj y1 y2 k1 k2 e0 (aI e1 (aI e2 ec)) ?_;refine aT (A.cs _ _ _ _) aj ?_;cases hq:lt d2[j'+1]! d2[j']! with
      | true =>
        have hc:=A.hT hq;have c5:shiftDown lt j' (swp d2 (j'+1) j')=d3:=by rw[<-c4.eq,shiftDown,hq];rfl
        have c5:=Is.mk c5;refine ii gz.o ei ej e9 hc wj y1 y2 k1 k2 dg (aI dh (aI e0 (aI e1 (aI e2 ec)))) ?_;exact⟨j',aa,j',swp d2 (j'+1) j',rfl,rfl,((bJ.set _).set _),aa,aa,rfl,(by rw[swp_size];exact c3),c5.eq⟩
      | false =>
        have hc:=A.hF hq;have c5:d2=d3:=by rw[<-c4.eq,shiftDown,hq];rfl
        have c5:=Is.mk c5;clear c4;refine CU gz.o ei ej e9 hc e0 e1 e2 ec ?_;rw[<-c5.eq];exact⟨aW,bJ,aa⟩
     have c5:d2=d3:=by rw[<-c4,show j'=0 by omega];rfl
     have c5:=Is.mk c5;clear c4;refine CU gz.o ei ej e9 mj e0 e1 e2 ec ?_;rw[<-c5.eq];exact⟨aW,bJ,aa⟩
    clear ei ej e0 e1 e2 ec xu ho bT bv;rintro⟨env,M1,n1⟩ ⟨e0,e1,e2,ec,ei,ej,xu,ho,bT⟩;simp only at ei ej e0 e1 e2 ec xu ho bT;refine dp gz.o ei ej wbi q3 wjj e0 e1 e2 ec ?_;exact⟨5 - (jj+1),aa,jj+1,i2,d4,rfl,rfl,by rw[fZ.eq];exact xu,ho,aa,aa,aa,aa,rfl,s4,hI3.eq⟩
   rw[if_neg aa]at Ld;have Ld:=Is.mk Ld;by_cases q3:(2:Int)<=((b - i2:Nat):Int)
   ·rw[if_pos aa,Ld.eq]at fZ
    have fZ:=Is.mk fZ;refine ii gz.o ei ej rC pz wba AO wia q2 MW wbi (aI q3 (aI UZ (aI y1 (aI y2 (aI k1 (aI k2 (aI dg (aI dh (aI e0 (aI e1 (aI e2 ec))))))))))) ?_;clear y1 y2 k1 k2 dg dh;refine bB (J9 i2 jj d4) (b - (i2+1))
     (J10 i2 jj d4) ⟨i2+1,swp d1 i2 (i2 - 1),?_⟩ ?_ ?_
    ·refine gw gz.o ei ej e0 e1 e2 ec ?_
     have QD:=fZ.eq.symm
     (repeat' (apply ao))<;>first | assumption | rfl | omega | exact bK.refl _ _ _ | exact bK.set (bK.set ho _) _ | (rw[swp_size];assumption) | exact congrArg _ aa
    ·clear ei ej e0 e1 e2 ec xu bT
     rintro m2 ⟨env,M2,n2⟩ ⟨j',d2,e0,e1,e2,ec,ei,ej,e9,aW,bJ,fq,c0,c1,c2,c3,c4⟩;simp only at ei ej e9 e0 e1 e2 ec aW bJ fq;by_cases mj:(j':Int)<b
     ·have c4:=Is.mk c4
      have wj:=cN (x:=j') aa aa;have Rj:=bu (x:=j') aa;obtain⟨y1,y2,k1,k2,dg,dh⟩:=A.sw M2 d2 aW c3 (i:=j') (j:=j' - 1) aa aa;refine ii gz.o ei ej e9 mj wj y1 y2 k1 k2 e0 (aI e1 (aI e2 ec)) ?_;refine aT (A.cs _ _ _ _) aj ?_;cases hq:lt d2[j']! d2[j' - 1]! with
      | true =>
        have hc:=A.hT hq;have c5:shiftUp lt b (j'+1) (swp d2 j' (j' - 1))=d4:=by rw[<-c4.eq,jv (j:=j') (d:=d2) aa hq]
        have c5:=Is.mk c5;refine ii gz.o ei ej e9 hc wj Rj y1 y2 k1 k2 (aI dg (aI dh (aI e0 (aI e1 (aI e2 ec))))) ?_;exact⟨b - (j'+1),aa,j'+1,swp d2 j' (j' - 1),rfl,rfl,((bJ.set _).set _),aa,aa,aa,rfl,(by rw[swp_size];exact c3),c5.eq⟩
      | false =>
        have hc:=A.hF hq;have c5:d2=d4:=by rw[<-c4.eq,shiftUp,if_pos aa,hq];rfl
        have c5:=Is.mk c5;clear c4;refine CU gz.o ei ej e9 hc e0 e1 e2 ec ?_;rw[<-c5.eq];exact⟨aW,bJ,aa⟩
     have c5:d2=d4:=by rw[<-c4,shiftUp,if_neg aa]
     have c5:=Is.mk c5;clear c4;refine CU gz.o ei ej e9 mj e0 e1 e2 ec ?_;rw[<-c5.eq];exact⟨aW,bJ,aa⟩
    clear ei ej e0 e1 e2 ec xu ho bT;rintro⟨env,M1,n1⟩ ⟨e0,e1,e2,ec,ei,ej,xu,ho,bT⟩;simp only at ei ej e0 e1 e2 ec xu ho bT;refine iQ gz.o ei ej wjj e0 e1 e2 ec ?_;exact⟨5 - (jj+1),aa,jj+1,i2,d4,rfl,rfl,xu,ho,aa,aa,aa,aa,rfl,s4,hI3.eq⟩
   rw[if_neg aa,Ld.eq]at fZ;have fZ:=Is.mk fZ;refine ii gz.o ei ej rC pz wba AO wia q2 MW wbi (aI q3 (aI wjj (aI y1 (aI y2 (aI k1 (aI k2 (aI dg (aI dh (aI e0 (aI e1 (aI e2 ec))))))))))) ?_;exact⟨5 - (jj+1),aa,jj+1,i2,d4,rfl,rfl,by rw[fZ.eq];rfl,(ho.set _).set _,aa,aa,aa,aa,rfl,s4,hI3.eq⟩
  rw[show 5 - jj=0 by omega]at hI;have bt:R=(d1,false):=hI.symm;subst bt;clear hI;refine CU gz.o ei ej h5 @LA.eq_1 e0 e1 e2 ec ?_;exact⟨⟨xu,aa⟩,ho,aa⟩
 ):P:=h
theorem f271 (ρ:aK) {lt:Int->Int->Bool} (A:AU ρ lt rwo enc k n sv off) {d:Array Int} (hM:gG M k=some (rwo d)) (hd:d.size=n) (hk:k<nx) (hn:n<=4000) (qJ:a<b) (hb:b<=n) :
 ar an ρ 271 [sv,.int .i64 a,.int .i64 b] M nx (LA rwo nx k M (.bool (partialInsertionSort lt d a b).2) (partialInsertionSort lt d a b).1):=by
 obtain⟨R,hR⟩:=aap (partialInsertionSort lt d a b);rw[<-hR];have hR:=Is.mk hR;have w1:=bu (x:=a) aa;refine ar.wk 133 [.tmp 6] Tryz.func271 ?_
 let J0:=(fun(m:Nat) (s:XS)=>∃(jj i:Nat) (d1:Array Int),gG s.env 0=some sv/\gG s.env 1=some (.int .i64 a)/\gG s.env 2=some (.int .i64 b)/\gG s.env 0=some sv/\gG s.env 7=some (.int .i64 i)/\gG s.env 8=some (.int .i64 jj)/\gG s.M k=some (rwo d1)/\bK nx k M s.M/\nx<=s.nx/\aad lt a b n R m jj i d1)
 let J1:=fun(jj:Nat) (d1:Array Int) (i:Nat)=>(fun(m2:Nat) (s:XS)=>∃i':Nat,gG s.env 0=some sv/\gG s.env 1=some (.int .i64 a)/\gG s.env 2=some (.int .i64 b)/\gG s.env 0=some sv/\gG s.env 7=some (.int .i64 i')/\gG s.env 8=some (.int .i64 jj)/\gG s.M k=some (rwo d1)/\bK nx k M s.M/\nx<=s.nx/\ScS lt d1 b i i' m2)
 let J2:=fun(i2:Nat) (jj:Nat) (d1:Array Int)=>(fun(s:XS)=>gG s.env 0=some sv/\gG s.env 1=some (.int .i64 a)/\gG s.env 2=some (.int .i64 b)/\gG s.env 0=some sv/\gG s.env 7=some (.int .i64 i2)/\gG s.env 8=some (.int .i64 jj)/\gG s.M k=some (rwo d1)/\bK nx k M s.M/\nx<=s.nx)
 let J3:=fun(i2:Nat) (jj:Nat) (d3:Array Int)=>(fun(m2:Nat) (s:XS)=>∃(j':Nat) (d':Array Int),gG s.env 0=some sv/\gG s.env 1=some (.int .i64 a)/\gG s.env 2=some (.int .i64 b)/\gG s.env 0=some sv/\gG s.env 7=some (.int .i64 i2)/\gG s.env 8=some (.int .i64 jj)/\gG s.env 9=some (.int .i64 j')/\gG s.M k=some (rwo d')/\bK nx k M s.M/\nx<=s.nx/\Vi lt n i2 d3 j' m2 d')
 let J4:=fun(i2:Nat) (jj:Nat) (d3:Array Int)=>(fun(s:XS)=>gG s.env 0=some sv/\gG s.env 1=some (.int .i64 a)/\gG s.env 2=some (.int .i64 b)/\gG s.env 0=some sv/\gG s.env 7=some (.int .i64 i2)/\gG s.env 8=some (.int .i64 jj)/\gG s.M k=some (rwo d3)/\bK nx k M s.M/\nx<=s.nx)
 let J5:=fun(i2:Nat) (jj:Nat) (d4:Array Int)=>(fun(m2:Nat) (s:XS)=>∃(j':Nat) (d':Array Int),gG s.env 0=some sv/\gG s.env 1=some (.int .i64 a)/\gG s.env 2=some (.int .i64 b)/\gG s.env 0=some sv/\gG s.env 7=some (.int .i64 i2)/\gG s.env 8=some (.int .i64 jj)/\gG s.env 10=some (.int .i64 j')/\gG s.M k=some (rwo d')/\bK nx k M s.M/\nx<=s.nx/\Vj lt n b i2 d4 j' m2 d')
 let J6:=fun(i2:Nat) (jj:Nat) (d4:Array Int)=>(fun(s:XS)=>gG s.env 0=some sv/\gG s.env 1=some (.int .i64 a)/\gG s.env 2=some (.int .i64 b)/\gG s.env 0=some sv/\gG s.env 7=some (.int .i64 i2)/\gG s.env 8=some (.int .i64 jj)/\gG s.M k=some (rwo d4)/\bK nx k M s.M/\nx<=s.nx)
 let J7:=fun(i2:Nat) (jj:Nat) (d3:Array Int)=>(fun(m2:Nat) (s:XS)=>∃(j':Nat) (d':Array Int),gG s.env 0=some sv/\gG s.env 1=some (.int .i64 a)/\gG s.env 2=some (.int .i64 b)/\gG s.env 0=some sv/\gG s.env 7=some (.int .i64 i2)/\gG s.env 8=some (.int .i64 jj)/\gG s.env 9=some (.int .i64 j')/\gG s.M k=some (rwo d')/\bK nx k M s.M/\nx<=s.nx/\Vi lt n i2 d3 j' m2 d')
 let J8:=fun(i2:Nat) (jj:Nat) (d3:Array Int)=>(fun(s:XS)=>gG s.env 0=some sv/\gG s.env 1=some (.int .i64 a)/\gG s.env 2=some (.int .i64 b)/\gG s.env 0=some sv/\gG s.env 7=some (.int .i64 i2)/\gG s.env 8=some (.int .i64 jj)/\gG s.M k=some (rwo d3)/\bK nx k M s.M/\nx<=s.nx)
 let J9:=fun(i2:Nat) (jj:Nat) (d4:Array Int)=>(fun(m2:Nat) (s:XS)=>∃(j':Nat) (d':Array Int),gG s.env 0=some sv/\gG s.env 1=some (.int .i64 a)/\gG s.env 2=some (.int .i64 b)/\gG s.env 0=some sv/\gG s.env 7=some (.int .i64 i2)/\gG s.env 8=some (.int .i64 jj)/\gG s.env 10=some (.int .i64 j')/\gG s.M k=some (rwo d')/\bK nx k M s.M/\nx<=s.nx/\Vj lt n b i2 d4 j' m2 d')
 let J10:=fun(i2:Nat) (jj:Nat) (d4:Array Int)=>(fun(s:XS)=>gG s.env 0=some sv/\gG s.env 1=some (.int .i64 a)/\gG s.env 2=some (.int .i64 b)/\gG s.env 0=some sv/\gG s.env 7=some (.int .i64 i2)/\gG s.env 8=some (.int .i64 jj)/\gG s.M k=some (rwo d4)/\bK nx k M s.M/\nx<=s.nx)
 have gz:=Wr.mk aS;exact Tn
theorem aah {P:Prop} (h:P:=by
 by_cases h8:(8:Int)<=l
 ·obtain⟨q,hq⟩:=aap (l / 4)
  obtain⟨i0,AW⟩:=aap (a+2*q - 1);have w2:IntKind.i64.wrap ((l:Int).tdiv 4)=(q:Int):=by rw[show (l:Int).tdiv 4=(q:Int) by rw[Int.tdiv_eq_ediv_of_nonneg aa];omega,wrap_i64 aa aa]
  have w4:IntKind.i64.wrap ((q:Int)*2)=((2*q:Nat):Int):=by rw[wrap_i64 aa aa];omega
  have w5:=dK (x:=a) (y:=2*q) aa;have w6:IntKind.i64.wrap (((a+2*q:Nat):Int) - 1)=(i0:Int):=by rw[wrap_i64 aa aa];omega
  have w7:=bu (x:=a+2*q) aa;have w8:IntKind.u64.wrap (l:Int)=(l:Int):=wrap_u64 aa aa;refine ti gz.o w1 h8 w8 ?_;generalize xu:aG (aG M _ _) _ _=M1;have o1:bK nx k M M1:=by rw[<-xu];exact((bK.refl _ _ _).new aa _).new aa _
  have z1:gG M1 (nx+8)=some (.row [.int .u64 l]):=by rw[<-xu];exact J
  have z2:gG M1 k=some (rwo d):=by rw[<-xu];exact J
  clear xu;refine lG (f262 ρ _ _ l aa) fun M2 n2 g2 g3=>?_
  have o2:bK nx k M M2:=o1.agr (g2.le aa) (Nat.le_refl _);have z3:=(g2 (nx+8) aa).trans z1;have z4:=(g2 k aa).trans z2;have Ob:=rZ l aa aa;have Z2:1<=2 ^ bitsLen l:=Nat.one_le_two_pow;generalize 2 ^ bitsLen l=md at Ob Z2;have w9:IntKind.u64.wrap ((md:Int) - 1)=((md - 1:Nat):Int):=by rw[wrap_u64 aa aa];omega
  clear z1 z2 o1 g2;refine gw gz.o w1 w2 w4 w5 w6 h8 ?_;refine aC (J0 md i0)
   3 ⟨i0,d,l,?_⟩ ?_
  ·refine bR gz.o ?_
   exact⟨z4,z3,o2,aa,aa,aa,aa,hd,permIn_refl _ _ _⟩
  clear z3 z4 o2 hM hd;rintro m ⟨env,M1,n1⟩ ⟨i,d1,r,e0,e1,e6,e7,e8,e9,xu,hr,ho,bT,h1,h2,h3,bv,hP⟩;simp only at e0 e1 e6 e7 e8 e9 xu hr ho bT;by_cases aL:(i:Int)<=(a+(2*q+1):Nat)
  ·refine ii gz.o e0 e1 e6 e7 e8 e9 w2 w4 w5 w7 aL ?_
   refine gQ (f263 ρ hr) ?_;rintro⟨u,M2,n2⟩ ⟨r2,k1,k2,k3,k4⟩;simp only at k1 k2 k3 k4;subst k1;obtain⟨o,UB,VM⟩:=Hr r2 (md - 1) aa;have s4:bj .and .u64 r2 .u64 ((md - 1:Nat):Int)=some (.int .u64 (o:Int)):=by rw[<-UB];rfl
   have UY:IntKind.i64.wrap (o:Int)=(o:Int):=wrap_i64 aa aa;have aW:gG M2 k=some (rwo d1):=k3.get aa aa xu;have bJ:bK nx k M M2:=fun j hj ia=>(k3 j aa aa).trans (ho j hj ia)
   have wi:=bu (x:=i) aa;clear k3 hr;by_cases JY:(l:Int)<=o
   ·have w11:=dO (x:=o) (y:=l) aa aa
    have Ri:=dK (x:=a) (y:=o - l) aa;obtain⟨y1,y2,k1,k2,dg,dh⟩:=A.sw M2 d1 aW bv (i:=i) (j:=a+(o - l)) aa aa;refine ii gz.o e0 e1 e6 e7 e8 e9 w9 s4 UY JY (aI w11 (aI Ri (aI wi (aI y1 (aI y2 (aI k1 (aI k2 (aI dg dh)))))))) ?_;exact⟨i0+3 - (i+1),aa,i+1,swp d1 i (a+(o - l)),r2,rfl,rfl,J,(bJ.set _).set _,aa,aa,aa,rfl,(by rw[swp_size];exact bv),permIn_trans _ _ _ _ _ hP (swp_permIn _ _ _ _ _ aa aa aa aa aa)⟩
   have Ri:=dK (x:=a) (y:=o) aa;obtain⟨y1,y2,k1,k2,dg,dh⟩:=A.sw M2 d1 aW bv (i:=i) (j:=a+o) aa aa;refine ii gz.o e0 e1 e6 e7 e8 e9 w9 s4 UY JY (aI Ri (aI wi (aI y1 (aI y2 (aI k1 (aI k2 (aI dg dh))))))) ?_;exact⟨i0+3 - (i+1),aa,i+1,swp d1 i (a+o),r2,rfl,rfl,J,(bJ.set _).set _,aa,aa,aa,rfl,(by rw[swp_size];exact bv),permIn_trans _ _ _ _ _ hP (swp_permIn _ _ _ _ _ aa aa aa aa aa)⟩
  refine ii gz.o e0 e1 e6 e7 e8 e9 w2 w4 w5 w7 (aI aL @Sw.eq_1) ?_;exact⟨⟨d1,bv,hP,xu⟩,ho,aa⟩
 ·refine ti gz.o w1 h8 @Sw.eq_1 ?_
  exact⟨⟨d,hd,permIn_refl _ _ _,hM⟩,bK.refl _ _ _,aa⟩
 ):P:=h
theorem f268 (ρ:aK) {lt:Int->Int->Bool} (A:AU ρ lt rwo enc k n sv off) {d:Array Int} (hM:gG M k=some (rwo d)) (hd:d.size=n) (hk:k<nx) (hn:n<=4000) (qJ:a<b) (hb:b<=n) :
 ar an ρ 268 [sv,.int .i64 a,.int .i64 b] M nx (Sw rwo nx k n M a b d):=by
 obtain⟨l,hl⟩:=aap (b - a);have w1:IntKind.i64.wrap ((b:Int) - (a:Int))=(l:Int):=by rw[hl];exact dO aa aa
 refine ar.wk 65 [] Tryz.func268 ?_
 let J0:=fun(md:Nat) (i0:Nat)=>(fun(m:Nat) (s:XS)=>∃(i:Nat) (d':Array Int) (r:Int),gG s.env 0=some sv/\gG s.env 1=some (.int .i64 a)/\gG s.env 6=some (.int .i64 l)/\gG s.env 7=some (.mp (nx+8) 0)/\gG s.env 8=some (.int .u64 md)/\gG s.env 9=some (.int .i64 i)/\gG s.M k=some (rwo d')/\gG s.M (nx+8)=some (.row [.int .u64 r])/\bK nx k M s.M/\nx+9<=s.nx/\aag a b n d i0 m i d')
 have gz:=Wr.mk so;exact aah
theorem aac {P:Prop} (h:P:=by
 refine bR gz.o ?_;refine aC J0
  (b - a) ⟨a,b,lim,true,true,d,?_⟩ ?_
 ·refine bR gz.o ?_
  exact⟨hM,bK.refl _ _ _,aa,aa,aa,aa,rfl,hd,hB,fun R h1 h2=>⟨h1,h2⟩⟩
 ·clear hM hd hB
  rintro m ⟨env,M1,n1⟩ ⟨x,y,lim',wb,wp,d1,e0,e1,e2,e3,ec,e8,e9,xu,ho,bT,h1,h2,h3,h4,bv,hB,hG⟩;simp only at e0 e1 e2 e3 ec e8 e9 xu ho bT;rw[l9];have w1:=dO (x:=y) (y:=x) aa aa;refine IF (J1 x y wb wp d1) ?_ ?_
  ·by_cases uO:((y - x:Nat):Int)<=12
   ·refine dp gz.o w1 uO e0 e1 e2 e3 ec e8 e9 ?_
    refine gQ (wins.o ρ A xu bv aa hn (a:=x) (b:=y) aa aa) ?_;rintro⟨u,M2,n2⟩ ⟨k1,⟨k2,_⟩,k3,k4⟩;simp only at k1 k2 k3 k4;subst k1;obtain⟨u1,u2⟩:=insertionSort_holds A.swo d1 x y aa aa;obtain⟨t1,t2⟩:=hG _ u1 u2;have ts:(insertionSort lt d1 x y).size=n:=u1.1.trans bv;refine mY gz.o @bU @cd @bQ @Mf.eq_1 ?_;exact⟨⟨_,ts,⟨t1,t2⟩,k2⟩,ho.trans k3 aa,aa⟩
   by_cases pG:lim'=0
   ·refine dw gz.o w1 uO pG e0 e1 e2 e3 ec e8 e9 ?_
    refine gQ (wheap.o ρ A xu bv aa hn (a:=x) (b:=y) aa aa) ?_;rintro⟨u,M2,n2⟩ ⟨k1,⟨k2,_⟩,k3,k4⟩;simp only at k1 k2 k3 k4;subst k1;obtain⟨u1,u2⟩:=heapSort_holds A.swo d1 x y aa aa;obtain⟨t1,t2⟩:=hG _ u1 u2;have ts:(heapSort lt d1 x y).size=n:=u1.1.trans bv;refine mY gz.o @bU @cd @bQ @Mf.eq_1 ?_;exact⟨⟨_,ts,⟨t1,t2⟩,k2⟩,ho.trans k3 aa,aa⟩
   cases wb with
   | true =>
     refine ii gz.o w1 uO pG @bU @cd @bQ e0 e1 e2 e3 (aI ec (aI e8 e9)) ?_;exact⟨lim',d1,rfl,xu,ho,aa,aa,bv,permIn_refl _ _ _⟩
   | false =>
     refine dw gz.o w1 uO pG e0 e1 e2 e3 ec e8 e9 ?_;refine gQ (wbrk.o ρ A xu bv aa hn (a:=x) (b:=y) aa aa) ?_;rintro⟨u,M2,n2⟩ ⟨k1,⟨d2,k2,k5,k6⟩,k3,k4⟩;simp only at k1 k6 k3 k4;subst k1;refine dw gz.o @bU @cd @bQ e0 e1 e2 e3 ec e8 e9 ?_;exact⟨IntKind.i64.wrap (lim' - 1),d2,rfl,k6,ho.trans k3 aa,aa,aa,k2,k5⟩
  clear e0 e1 e2 e3 ec e8 e9 xu ho bT;rintro⟨env,M1,n1⟩ ⟨iv,d2,e0,e1,e2,e3,ec,e8,e9,dx,xu,ho,bT,hl,py,hP⟩;simp only at e0 e1 e2 e3 ec e8 e9 dx xu ho bT;refine yz (J2 x y iv wb wp d1) ?_ ?_
  ·refine CU gz.o dx e0 e1 e2 e3 ec e8 e9 ?_
   refine gQ (wpiv.o ρ A xu py aa hn (a:=x) (b:=y) aa aa) ?_;rintro⟨u,M2,n2⟩ ⟨p,hh,k1,k2,k3,k4⟩;simp only at k1 k3 k4;subst k1;have aW:=(k3 k aa).trans xu;have bJ:=ho.agr k3 aa;clear k3;by_cases DY:hh=2
   ·have v1:=cN (x:=y) aa aa
    have v2:=dO (x:=p) (y:=x) aa aa;have v3:=dO (x:=y - 1) (y:=p - x) aa aa;refine dp gz.o dx DY e0 e1 e2 e3 ec e8 e9 ?_;refine gQ (wrev.o ρ A aW py aa hn (a:=x) (b:=y) aa aa) ?_;rintro⟨u,M3,n3⟩ ⟨j1,⟨j2,_⟩,j3,j4⟩;simp only at j1 j2 j3 j4;subst j1;have T5:=reverseRange_holds d2 x y aa aa;refine ii gz.o @bU @cd @bQ dx v1 v2 v3 e0 e1 e2 (aI e3 (aI ec (aI e8 e9))) ?_;exact⟨y - 1 - (p - x),1,reverseRange d2 x y,rfl,rfl,j2,bJ.trans j3 aa,aa,aa,aa,T5.1.trans py,permIn_trans _ _ _ _ _ hP T5⟩
   refine ii gz.o @bU @cd @bQ dx DY e0 e1 e2 e3 ec (aI e8 e9) ?_;exact⟨p,hh,d2,rfl,rfl,aW,bJ,aa,aa,k2,py,hP⟩
  clear e0 e1 e2 e3 ec e8 e9 dx xu ho bT hl py hP d2;rintro⟨env,M1,n1⟩ ⟨p,hh,d3,e0,e1,e2,e3,ec,e8,e9,dx,ep,eh,xu,ho,bT,hl,hp,Ld,hP⟩;simp only at e0 e1 e2 e3 ec e8 e9 dx ep eh xu ho bT;refine yo (J3 x y iv wb wp p d1) ?_ ?_
  ·by_cases hc:wb=true/\wp=true/\hh=1
   ·obtain⟨c1,c2,c3⟩:=hc
    subst c1;subst c2;refine ii gz.o dx ep eh c3 e0 e1 e2 e3 ec e8 e9 ?_;refine gQ (wpins.o ρ A xu Ld aa hn (a:=x) (b:=y) aa aa) ?_;rintro⟨u,M2,n2⟩ ⟨k1,⟨k2,_⟩,k3,k4⟩;simp only at k1 k2 k3 k4;subst k1;obtain⟨u1,u2⟩:=partialInsertionSort_holds A.swo d3 x y aa aa (hB.perm aa hP);have ts:(partialInsertionSort lt d3 x y).1.size=n:=u1.1.trans Ld;cases hR:(partialInsertionSort lt d3 x y).2 with
    | true =>
      obtain⟨t1,t2⟩:=hG _ (permIn_trans _ _ _ _ _ hP u1) (u2 hR);refine ii gz.o @bU @cd @bQ @Mf.eq_1 e0 e1 e2 e3 ec e8 e9 ?_;exact⟨⟨_,ts,⟨t1,t2⟩,k2⟩,ho.trans k3 aa,aa⟩
    | false =>
      refine ii gz.o @bU @cd @bQ dx ep eh e0 e1 e2 e3 (aI ec (aI e8 e9)) ?_;exact⟨_,k2,ho.trans k3 aa,aa,aa,hp,ts,permIn_trans _ _ _ _ _ hP u1⟩
   cases wb with
   | false =>
     refine ii gz.o @bU @cd @bQ dx ep eh e0 e1 e2 e3 (aI ec (aI e8 e9)) ?_;exact⟨d3,xu,ho,aa,aa,hp,Ld,hP⟩
   | true =>
     cases wp with
     | false =>
       refine ii gz.o @bU @cd @bQ dx ep eh e0 e1 e2 e3 (aI ec (aI e8 e9)) ?_;exact⟨d3,xu,ho,aa,aa,hp,Ld,hP⟩
     | true =>
       have Zs:¬ hh=1:=fun q=>hc ⟨rfl,rfl,q⟩
       clear hc;refine ii gz.o @bU @cd @bQ dx ep eh Zs e0 e1 e2 (aI e3 (aI ec (aI e8 e9))) ?_;exact⟨d3,xu,ho,aa,aa,hp,Ld,hP⟩
  clear e0 e1 e2 e3 ec e8 e9 dx ep eh xu ho bT hl hp Ld hP d3;rintro⟨env,M1,n1⟩ ⟨d4,e0,e1,e2,e3,ec,e8,e9,dx,ep,xu,ho,bT,hl,hp,fZ,hP⟩;simp only at e0 e1 e2 e3 ec e8 e9 dx ep xu ho bT;by_cases Q9:(0:Int)<x
  ·have x1:=A.ix (x - 1) aa
   have x2:=A.ix p aa;have l1:=A.ld M1 d4 xu fZ (x - 1) aa;have l2:=A.ld M1 d4 xu fZ p aa;have wx:=cN (x:=x) aa aa;simp (maxSteps:=10000000) (zetaDelta:=true) (disch:=first|assumption|decide|omega|(simp only[qG, *];done)|(simp only[qF,fE];first|done|assumption|omega)) only [qE,cz,oj,cB,gx,vI,vB,vX,kq,kg,km,Nat.reduceLT,reduceEqDiff,Nat.reduceAdd,Nat.reduceMul,Nat.reduceSub,reduceIte,Int.reduceLT,Int.reduceLE,Int.reduceEq,Int.reduceNeg,Int.reduceToNat,gz.o,dx,ep,Q9,wx,x1,x2,l1,l2,e0,e1,e2,e3,ec,e8,e9];refine bF ?_ rfl ?_;·refine bR gz.o ?_;try exact⟨⟩
   refine bR gz.o ?_;refine aT (A.cs _ _ _ _) aj ?_;cases hq:lt d4[x - 1]! d4[p]! with
   | false =>
     have hc:=A.hF hq;refine dw gz.o dx ep hc e0 e1 e2 e3 ec e8 e9 ?_;refine gQ (wpeq.o ρ A xu fZ aa hn (a:=x) (b:=y) (pivot:=p) aa aa aa) ?_;rintro⟨u,M2,n2⟩ ⟨k1,⟨k2,_⟩,k3,k4⟩;simp only at k1 k2 k3 k4;subst k1;obtain⟨mid,d5,AS⟩:∃mid d5,partitionEqual lt d4 x y p=(mid,d5):=⟨_,_,rfl⟩;rw[AS]at k2 ⊢;simp only at k2 ⊢;obtain⟨r1,r2,r3,r4,r5⟩:=round_eq A.swo (partitionEqual_holds _) (d3:=d4) aa hp.1 hp.2 (by rw[fZ];omega) (hB.perm (by rw[bv];omega) hP) hq AS;refine dp gz.o dx ep e0 e1 e2 e3 ec e8 e9 ?_;exact⟨y - mid,aa,mid,y,iv,wb,wp,d5,rfl,rfl,rfl,rfl,rfl,k2,ho.trans k3 aa,aa,aa,aa,aa,rfl,r3.trans fZ,r4,fun R q1 q2=>let ⟨u1,u2⟩:=r5 R q1 q2;hG R (permIn_trans _ _ _ _ _ hP u1) u2⟩
   | true =>
     have hc:=A.hT hq;refine dw gz.o dx ep hc e0 e1 e2 e3 ec e8 e9 ?_;refine gQ (wpart.o ρ A xu fZ aa hn (a:=x) (b:=y) (pivot:=p) aa aa aa) ?_;rintro⟨u,M2,n2⟩ ⟨k1,⟨k2,_⟩,k3,k4⟩;simp only at k1 k2 k3 k4;subst k1;obtain⟨mid,al,d5,AS⟩:∃mid al d5,partition lt d4 x y p=(mid,al,d5):=⟨_,_,_,rfl⟩;rw[AS]at k2 ⊢;simp only at k2 ⊢;have Q_:y<=d4.size:=by rw[fZ];omega
     obtain⟨r1,r2,r3,r4,r5,r6,r7⟩:=round_part A.swo (partition_holds _) (d3:=d4) hp.1 hp.2 Q_ (hB.perm (by rw[bv];omega) hP) AS;have Ju:d5.size=n:=r3.trans fZ;have bJ:=ho.trans k3 aa;have aW:=k2;clear k2 k3;have v1:=dO (x:=mid) (y:=x) aa aa;have v2:=dO (x:=y) (y:=mid) aa aa;have v3:IntKind.i64.wrap (((y - x:Nat):Int).tdiv 8)=(((y - x) / 8:Nat):Int):=by rw[show ((y - x:Nat):Int).tdiv 8=(((y - x) / 8:Nat):Int) by rw[Int.tdiv_eq_ediv_of_nonneg aa];omega,wrap_i64 aa aa]
     have v4:=bu (x:=mid) aa;by_cases JD:((mid - x:Nat):Int)<((y - mid:Nat):Int)
     ·refine ii gz.o dx ep v1 v2 v3 v4 JD e0 e1 e2 (aI e3 (aI ec (aI e8 e9))) ?_
      refine gQ (ih (mid - x) aa A aW Ju aa hn (a:=x) (b:=mid) iv aa aa aa r4) ?_;rintro⟨u,M3,n3⟩ ⟨j1,⟨L,j2,⟨j3,j4⟩,j5⟩,j6,j7⟩;simp only at j1 j5 j6 j7;subst j1;obtain⟨t1,t2⟩:=r6 L j3 j4;refine dw gz.o dx ep v4 e0 e1 e2 e3 ec e8 e9 ?_;exact⟨y - (mid+1),aa,mid+1,y,iv,_,_,L,rfl,rfl,rfl,rfl,rfl,j5,bJ.trans j6 aa,aa,aa,aa,aa,rfl,j2,t1,fun R q1 q2=>let ⟨u1,u2⟩:=t2 R q1 q2;hG R (permIn_trans _ _ _ _ _ hP u1) u2⟩
     refine ii gz.o dx ep v1 v2 v3 v4 JD e0 e1 e2 (aI e3 (aI ec (aI e8 e9))) ?_;refine gQ (ih (y - (mid+1)) aa A aW Ju aa hn (a:=mid+1) (b:=y) iv aa aa aa r5) ?_;rintro⟨u,M3,n3⟩ ⟨j1,⟨L,j2,⟨j3,j4⟩,j5⟩,j6,j7⟩;simp only at j1 j5 j6 j7;subst j1;obtain⟨t1,t2⟩:=r7 L j3 j4;refine dp gz.o dx ep e0 e1 e2 e3 ec e8 e9 ?_;exact⟨mid - x,aa,x,mid,iv,_,_,L,rfl,rfl,rfl,rfl,rfl,j5,bJ.trans j6 aa,aa,aa,aa,aa,rfl,j2,t1,fun R q1 q2=>let ⟨u1,u2⟩:=t2 R q1 q2;hG R (permIn_trans _ _ _ _ _ hP u1) u2⟩
  refine dw gz.o dx ep Q9 e0 e1 e2 e3 ec e8 e9 ?_;refine cA ?_ aj ?_;·refine bR gz.o ?_;try exact⟨⟩
  refine dw gz.o dx ep Q9 e0 e1 e2 e3 ec e8 e9 ?_;refine gQ (wpart.o ρ A xu fZ aa hn (a:=x) (b:=y) (pivot:=p) aa aa aa) ?_;rintro⟨u,M2,n2⟩ ⟨k1,⟨k2,_⟩,k3,k4⟩;simp only at k1 k2 k3 k4;subst k1;obtain⟨mid,al,d5,AS⟩:∃mid al d5,partition lt d4 x y p=(mid,al,d5):=⟨_,_,_,rfl⟩;rw[AS]at k2 ⊢;simp only at k2 ⊢;have Q_:y<=d4.size:=by rw[fZ];omega
  obtain⟨r1,r2,r3,r4,r5,r6,r7⟩:=round_part A.swo (partition_holds _) (d3:=d4) hp.1 hp.2 Q_ (hB.perm (by rw[bv];omega) hP) AS;have Ju:d5.size=n:=r3.trans fZ;have bJ:=ho.trans k3 aa;have aW:=k2;clear k2 k3;have v1:=dO (x:=mid) (y:=x) aa aa;have v2:=dO (x:=y) (y:=mid) aa aa;have v3:IntKind.i64.wrap (((y - x:Nat):Int).tdiv 8)=(((y - x) / 8:Nat):Int):=by rw[show ((y - x:Nat):Int).tdiv 8=(((y - x) / 8:Nat):Int) by rw[Int.tdiv_eq_ediv_of_nonneg aa];omega,wrap_i64 aa aa]
  have v4:=bu (x:=mid) aa;by_cases JD:((mid - x:Nat):Int)<((y - mid:Nat):Int)
  ·refine ii gz.o dx ep v1 v2 v3 v4 JD e0 e1 e2 (aI e3 (aI ec (aI e8 e9))) ?_
   refine gQ (ih (mid - x) aa A aW Ju aa hn (a:=x) (b:=mid) iv aa aa aa r4) ?_;rintro⟨u,M3,n3⟩ ⟨j1,⟨L,j2,⟨j3,j4⟩,j5⟩,j6,j7⟩;simp only at j1 j5 j6 j7;subst j1;obtain⟨t1,t2⟩:=r6 L j3 j4;refine dw gz.o dx ep v4 e0 e1 e2 e3 ec e8 e9 ?_;exact⟨y - (mid+1),aa,mid+1,y,iv,_,_,L,rfl,rfl,rfl,rfl,rfl,j5,bJ.trans j6 aa,aa,aa,aa,aa,rfl,j2,t1,fun R q1 q2=>let ⟨u1,u2⟩:=t2 R q1 q2;hG R (permIn_trans _ _ _ _ _ hP u1) u2⟩
  refine ii gz.o dx ep v1 v2 v3 v4 JD e0 e1 e2 (aI e3 (aI ec (aI e8 e9))) ?_;refine gQ (ih (y - (mid+1)) aa A aW Ju aa hn (a:=mid+1) (b:=y) iv aa aa aa r5) ?_;rintro⟨u,M3,n3⟩ ⟨j1,⟨L,j2,⟨j3,j4⟩,j5⟩,j6,j7⟩;simp only at j1 j5 j6 j7;subst j1;obtain⟨t1,t2⟩:=r7 L j3 j4;refine dp gz.o dx ep e0 e1 e2 e3 ec e8 e9 ?_;exact⟨mid - x,aa,x,mid,iv,_,_,L,rfl,rfl,rfl,rfl,rfl,j5,bJ.trans j6 aa,aa,aa,aa,aa,rfl,j2,t1,fun R q1 q2=>let ⟨u1,u2⟩:=t2 R q1 q2;hG R (permIn_trans _ _ _ _ _ hP u1) u2⟩
 ):P:=h
theorem f191 (ρ:aK):∀(sz:Nat) {M:Hp} {nx k n:Nat} {sv:XV} {off:Nat->Nat} {lt:Int->Int->Bool} {rwo:Array Int->bx} {enc:Int->XV} (A:AU ρ lt rwo enc k n sv off) {d:Array Int} (hM:gG M k=some (rwo d)) (hd:d.size=n) (hk:k<nx) (hn:n<=4000) {a b:Nat} (lim:Int) (cJ:b - a<=sz) (qJ:a<=b) (hb:b<=n) (hB:Below lt a b d),
 ar an ρ 191 [sv,.int .i64 a,.int .i64 b,.int .i64 lim] M nx (Mf lt rwo nx k n M a b d):=by
 intro sz
 induction sz using Nat.strongRecOn with
 | _ sz ih =>
 intro M nx k n sv off lt rwo enc A d hM hd hk hn a b lim cJ qJ hb hB;refine ar.wk 134 [] Tryz.func191 ?_
 let J0:=(fun(m:Nat) (s:XS)=>∃(x y:Nat) (lim':Int) (wb wp:Bool) (d1:Array Int),gG s.env 0=some sv/\gG s.env 1=some (.int .i64 (x:Nat))/\gG s.env 2=some (.int .i64 (y:Nat))/\gG s.env 3=some (.int .i64 lim')/\gG s.env 0=some sv/\gG s.env 8=some (.bool wb)/\gG s.env 9=some (.bool wp)/\gG s.M k=some (rwo d1)/\bK nx k M s.M/\nx<=s.nx/\RZ lt a b n d m x y d1)
 let J1:=fun(x:Nat) (y:Nat) (wb:Bool) (wp:Bool) (d1:Array Int)=>(fun(s:XS)=>∃(iv:Int) (d2:Array Int),gG s.env 0=some sv/\gG s.env 1=some (.int .i64 (x:Nat))/\gG s.env 2=some (.int .i64 (y:Nat))/\gG s.env 3=some (.int .i64 iv)/\gG s.env 0=some sv/\gG s.env 8=some (.bool wb)/\gG s.env 9=some (.bool wp)/\gG s.env 10=some (.int .i64 (y - x:Nat))/\gG s.M k=some (rwo d2)/\bK nx k M s.M/\nx<=s.nx/\PmD n x y d1 d2)
 let J2:=fun(x:Nat) (y:Nat) (iv:Int) (wb:Bool) (wp:Bool) (d1:Array Int)=>(fun(s:XS)=>∃(p:Nat) (hh:Int) (d3:Array Int),gG s.env 0=some sv/\gG s.env 1=some (.int .i64 (x:Nat))/\gG s.env 2=some (.int .i64 (y:Nat))/\gG s.env 3=some (.int .i64 iv)/\gG s.env 0=some sv/\gG s.env 8=some (.bool wb)/\gG s.env 9=some (.bool wp)/\gG s.env 10=some (.int .i64 (y - x:Nat))/\gG s.env 11=some (.int .i64 p)/\gG s.env 12=some (.int .i64 hh)/\gG s.M k=some (rwo d3)/\bK nx k M s.M/\nx<=s.nx/\U6 n x y p d1 d3)
 let J3:=fun(x:Nat) (y:Nat) (iv:Int) (wb:Bool) (wp:Bool) (p:Nat) (d1:Array Int)=>(fun(s:XS)=>∃(d4:Array Int),gG s.env 0=some sv/\gG s.env 1=some (.int .i64 (x:Nat))/\gG s.env 2=some (.int .i64 (y:Nat))/\gG s.env 3=some (.int .i64 iv)/\gG s.env 0=some sv/\gG s.env 8=some (.bool wb)/\gG s.env 9=some (.bool wp)/\gG s.env 10=some (.int .i64 (y - x:Nat))/\gG s.env 11=some (.int .i64 p)/\gG s.M k=some (rwo d4)/\bK nx k M s.M/\nx<=s.nx/\U6 n x y p d1 d4)
 have gz:=Wr.mk cD;have wins:=Wr.mk @f266;have wheap:=Wr.mk @f267;have wbrk:=Wr.mk @f268;have wpiv:=Wr.mk @f269;have wrev:=Wr.mk @f270;have wpins:=Wr.mk @f271;have wpeq:=Wr.mk @Xt;have wpart:=Wr.mk @XL;exact aac
end
end Go.Xs
