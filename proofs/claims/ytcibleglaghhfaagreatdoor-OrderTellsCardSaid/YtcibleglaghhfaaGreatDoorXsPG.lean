/- A part of the proof: the layers and contracts it rests on. -/
import Derived.Test.YtcibleglaghhfaaGreatDoorXsPB
import Derived.Test.YtcibleglaghhfaaGreatDoorXsPC
import Derived.Test.YtcibleglaghhfaaGreatDoorXsPE
import Derived.Test.YtcibleglaghhfaaGreatDoorXsPF
import Derived.Test.YtcibleglaghhfaaGreatDoorProg
import Derived.WalkKit
import Derived.ProofKit
import Derived.OpenShut
import Derived.ChangeOld
set_option maxRecDepth 100000
set_option maxHeartbeats 8000000
set_option linter.all false
set_option linter.deprecated false
namespace Go.Xs
noncomputable section
open Go.Proofs Go.Sort
def R1 (a b n:Nat) (R:Array bO×Bool) (m jj i:Nat) (d':Array bO):Prop:=a<i/\i<=b/\jj<=5/\m=5 - jj/\d'.size=n/\partialIns cL a b (5 - jj) i d'=R
theorem f99 (ρ:aK) {M:Hp} {nx k n:Nat} {sv:XV} {off:Nat->Nat} (A:pW k n sv off) {d:Array bO} (hM:am M k=some (dT d)) (hd:d.size=n) (hk:k<nx) (hn:n<=1000) {a b:Nat} (qJ:a<b) (hb:b<=n) :
 ar Tryz.prog ρ 99 [sv,.int .i64 a,.int .i64 b,.fn (.func 40) [] []] M nx (yh nx k M (.bool (partialInsertionSort cL d a b).2) (partialInsertionSort cL d a b).1):=by
 obtain⟨R,hR⟩:∃R,R=partialInsertionSort cL d a b:=⟨_,rfl⟩;rw[<-hR];have hR:=Is.mk hR;have w1:=bu (x:=a) Z;refine ar.walk (m:=141) (rs:=[.tmp 8]) follows Tryz.func99 U rfl rfl rfl ?_
 conv in W _ _ _ _ _ _ _=>arg 4;whnf
 refine mI az w1 ?_;refine aC (fun m s=>∃(jj i:Nat) (d1:Array bO),am s.env 0=some sv/\am s.env 1=some (.int .i64 a)/\am s.env 2=some (.int .i64 b)/\am s.env 3=some (.fn (.func 40) [] [])/\am s.env 9=some (.int .i64 i)/\am s.env 10=some (.int .i64 jj)/\am s.M k=some (dT d1)/\bK nx k M s.M/\nx<=s.nx/\R1 a b n R m jj i d1)
  5 ⟨0,a+1,d,?_⟩ ?_
 ·refine bR az ?_
  have NN:=hR.eq.symm
  (repeat' (apply ak))<;>first | assumption | rfl | omega | exact bK.refl _ _ _ | exact bK.set (bK.set ho _) _ | (rw[swp_size];assumption) | exact congrArg _ Z
 ·clear w1 hR hM hd
  rintro m ⟨env,M1,n1⟩ ⟨jj,i,d1,e0,e1,e2,ec,ei,ej,au,ho,bT,h1,h2,h4,h3,bv,hI⟩;simp only at e0 e1 e2 ec ei ej au ho bT;by_cases h5:(jj:Int)<5
  ·obtain⟨i2,bD⟩:∃q,q=scanSorted cL d1 b i:=⟨_,rfl⟩
   obtain⟨b1,b2⟩:=oE cL d1 b _ i rfl h2;rw[<-bD]at b1 b2;rw[show 5 - jj=(5 - (jj+1))+1 by omega,partialIns_succ,<-bD]at hI;have hI:=Is.mk hI;have bD:=Is.mk bD;have wjj:=bu (x:=jj) Z;refine iQ az ei ej h5 e0 e1 e2 ec ?_;refine bB (fun m2 s=>∃i':Nat,am s.env 0=some sv/\am s.env 1=some (.int .i64 a)/\am s.env 2=some (.int .i64 b)/\am s.env 3=some (.fn (.func 40) [] [])/\am s.env 9=some (.int .i64 i')/\am s.env 10=some (.int .i64 jj)/\am s.M k=some (dT d1)/\bK nx k M s.M/\nx<=s.nx/\ScS cL d1 b i i' m2) (b - i)
    (fun s=>am s.env 0=some sv/\am s.env 1=some (.int .i64 a)/\am s.env 2=some (.int .i64 b)/\am s.env 3=some (.fn (.func 40) [] [])/\am s.env 9=some (.int .i64 i2)/\am s.env 10=some (.int .i64 jj)/\am s.M k=some (dT d1)/\bK nx k M s.M/\nx<=s.nx) ⟨i,?_⟩ ?_ ?_
   ·refine gw az ei ej e0 e1 e2 ec ?_
    exact⟨au,ho,Z,Z,Z,rfl,rfl⟩
   ·clear ei ej e0 e1 e2 ec
    rintro m2 ⟨env,M2,n2⟩ ⟨i',e0,e1,e2,ec,ei,ej,aW,bJ,fq,c1,c2,c3,c4⟩;simp only at ei ej e0 e1 e2 ec aW bJ fq;have c4:=Is.mk c4;by_cases eS:(i':Int)<b
    ·have x1:=A.ix i' Z
     have x2:=A.ix (i' - 1) Z;have l1:=A.ld M2 d1 aW bv i' Z;have l2:=A.ld M2 d1 aW bv (i' - 1) Z;have wi:=bu (x:=i') Z;have wm:=cN (x:=i') Z Z;refine dY az ei ej eS wm x1 x2 l1 l2 e0 e1 e2 ec ?_;refine bF ?_ rfl ?_
     ·refine bR az ?_;try exact⟨⟩
     refine bR az ?_;refine aT (bN.pure rfl rfl fun N=>yW ρ N _ _ _) af ?_;cases hq:cL d1[i']! d1[i' - 1]! with
     | false =>
       have hc:=eQ hq;have c5:scanSorted cL d1 b (i'+1)=scanSorted cL d1 b i:=by rw[<-c4.eq,iU (i:=i') Z hq]
       have c5:=Is.mk c5;refine gz az ei ej hc wi e0 e1 e2 ec ?_;exact⟨b - (i'+1),Z,i'+1,rfl,aW,bJ,Z,Z,Z,rfl,c5.eq⟩
     | true =>
       have hc:=eK hq;have c5:i'=i2:=by rw[bD.eq,<-c4.eq,dC (.inr hq)]
       have c6:=Is.mk c5;clear c5;refine iQ az ei ej hc e0 e1 e2 ec ?_;rw[c6.eq];exact⟨rfl,aW,bJ,Z⟩
    ·have c5:i'=i2:=by rw[bD.eq,<-c4.eq,dC (.inl Z)]
     have c6:=Is.mk c5;clear c5;refine iQ az ei ej eS e0 e1 e2 ec ?_;refine cA ?_ af ?_
     ·refine bR az ?_;try exact⟨⟩
     refine iQ az ei ej eS e0 e1 e2 ec ?_;rw[c6.eq];exact⟨rfl,aW,bJ,Z⟩
   ·clear ei ej e0 e1 e2 ec au ho bT
    rintro⟨env,M1,n1⟩ ⟨e0,e1,e2,ec,ei,ej,au,ho,bT⟩;simp only at ei ej e0 e1 e2 ec au ho bT;by_cases rC:i2=b
    ·have bt:=hI.eq
     rw[if_pos rC]at bt;subst bt;have pz:(i2:Int)=(b:Int):=Z;clear hI bD;refine dp az ei ej rC pz @yh.eq_1 e0 e1 e2 ec ?_;exact⟨⟨au,Z⟩,ho,Z⟩
    ·have bt:=hI.eq
     rw[if_neg rC]at bt;have pz:¬ (i2:Int)=(b:Int):=Z;have wba:=dO (x:=b) (y:=a) Z Z;by_cases AO:((b - a:Nat):Int)<50
     ·rw[if_pos Z]at bt
      subst bt;clear hI bD;refine ii az ei ej rC pz wba AO @yh.eq_1 e0 e1 e2 ec ?_;exact⟨⟨au,Z⟩,ho,Z⟩
     ·rw[if_neg Z]at bt
      obtain⟨d3,j8⟩:∃q,q=fixDown cL a i2 (swp d1 i2 (i2 - 1)):=⟨_,rfl⟩;rw[<-j8]at bt;obtain⟨d4,fZ⟩:∃q,q=fixUp cL b i2 d3:=⟨_,rfl⟩;rw[<-fZ]at bt;have Mk:=Is.mk bt;have s3:d3.size=n:=by
       rw[j8];unfold fixDown;split
       ·exact jO _ _ _ (by rw[swp_size];exact bv)
       ·rw[swp_size];exact bv
      have s4:d4.size=n:=by
       rw[fZ];unfold fixUp;split
       ·exact qf _ _ _ _ _ rfl s3
       ·exact s3
      unfold fixDown at j8;unfold fixUp at fZ;clear hI bt bD;have wia:=dO (x:=i2) (y:=a) Z Z;have wbi:=dO (x:=b) (y:=i2) Z Z;have MW:=cN (x:=i2) Z Z;have UZ:=bu (x:=i2) Z;have y1:=A.ix (i2) Z;have y2:=A.ix (i2 - 1) Z;have k1:=A.ld M1 d1 au bv (i2) Z;have k2:=A.ld M1 d1 au bv (i2 - 1) Z;have dg:=A.st M1 d1 au bv (i2) Z d1[i2 - 1]!;have dh:=A.st (ap M1 k (dT (d1.setIfInBounds (i2) d1[i2 - 1]!))) _ J ai (i2 - 1) Z d1[i2]!;by_cases q2:(2:Int)<=((i2 - a:Nat):Int)
      ·rw[if_pos Z]at j8
       have j8:=Is.mk j8;by_cases q3:(2:Int)<=((b - i2:Nat):Int)
       ·rw[if_pos Z]at fZ
        have fZ:=Is.mk fZ;refine Gv az ei ej rC pz wba AO wia q2 MW y1 y2 k1 k2 dg dh e0 e1 e2 ec ?_;clear y1 y2 k1 k2 dg dh;refine bB (fun m2 s=>∃(j':Nat) (d':Array bO),am s.env 0=some sv/\am s.env 1=some (.int .i64 a)/\am s.env 2=some (.int .i64 b)/\am s.env 3=some (.fn (.func 40) [] [])/\am s.env 9=some (.int .i64 i2)/\am s.env 10=some (.int .i64 jj)/\am s.env 11=some (.int .i64 j')/\am s.M k=some (dT d')/\bK nx k M s.M/\nx<=s.nx/\Vi cL n i2 d3 j' m2 d') (i2 - 1)
         (fun s=>am s.env 0=some sv/\am s.env 1=some (.int .i64 a)/\am s.env 2=some (.int .i64 b)/\am s.env 3=some (.fn (.func 40) [] [])/\am s.env 9=some (.int .i64 i2)/\am s.env 10=some (.int .i64 jj)/\am s.M k=some (dT d3)/\bK nx k M s.M/\nx<=s.nx) ⟨i2 - 1,swp d1 i2 (i2 - 1),?_⟩ ?_ ?_
        ·refine gw az ei ej e0 e1 e2 ec ?_
         have QC:=j8.eq.symm
         (repeat' (apply ak))<;>first | assumption | rfl | omega | exact bK.refl _ _ _ | exact bK.set (bK.set ho _) _ | (rw[swp_size];assumption) | exact congrArg _ Z
        ·clear ei ej e0 e1 e2 ec au bT
         rintro m2 ⟨env,M2,n2⟩ ⟨j',d2,e0,e1,e2,ec,ei,ej,e9,aW,bJ,fq,c1,c2,c3,c4⟩;simp only at ei ej e9 e0 e1 e2 ec aW bJ fq;by_cases mj:(1:Int)<=j'
         ·obtain⟨j',rfl⟩:∃q,j'=q+1:=⟨j' - 1,Z⟩
          have c4:=Is.mk c4;have wj:=fQ (x:=j') Z;have y1:=A.ix (j'+1) Z;have y2:=A.ix (j') Z;have k1:=A.ld M2 d2 aW c3 (j'+1) Z;have k2:=A.ld M2 d2 aW c3 (j') Z;have dg:=A.st M2 d2 aW c3 (j'+1) Z d2[j']!;have dh:=A.st (ap M2 k (dT (d2.setIfInBounds (j'+1) d2[j']!))) _ J ai (j') Z d2[j'+1]!;refine fe az ei ej e9 mj wj y1 y2 k1 k2 e0 e1 e2 ec ?_;refine aT (bN.pure rfl rfl fun N=>yW ρ N _ _ _) af ?_;cases hq:cL d2[j'+1]! d2[j']! with
          | true =>
            have hc:=eK hq;have c5:shiftDown cL j' (swp d2 (j'+1) j')=d3:=by rw[<-c4.eq,shiftDown,hq];rfl
            have c5:=Is.mk c5;refine sE az ei ej e9 hc wj y1 y2 k1 k2 dg dh e0 e1 e2 ec ?_;exact⟨j',Z,j',swp d2 (j'+1) j',rfl,rfl,((bJ.set _).set _),Z,Z,rfl,(by rw[swp_size];exact c3),c5.eq⟩
          | false =>
            have hc:=eQ hq;have c5:d2=d3:=by rw[<-c4.eq,shiftDown,hq];rfl
            have c5:=Is.mk c5;clear c4;refine gz az ei ej e9 hc e0 e1 e2 ec ?_;rw[<-c5.eq];exact⟨aW,bJ,Z⟩
         ·have c5:d2=d3:=by rw[<-c4,show j'=0 by omega];rfl
          have c5:=Is.mk c5;clear c4;refine gz az ei ej e9 mj e0 e1 e2 ec ?_;rw[<-c5.eq];exact⟨aW,bJ,Z⟩
        ·clear ei ej e0 e1 e2 ec au ho bT bv
         rintro⟨env,M1,n1⟩ ⟨e0,e1,e2,ec,ei,ej,au,ho,bT⟩;simp only at ei ej e0 e1 e2 ec au ho bT;refine dp az ei ej wbi q3 UZ e0 e1 e2 ec ?_;refine bB (fun m2 s=>∃(j':Nat) (d':Array bO),am s.env 0=some sv/\am s.env 1=some (.int .i64 a)/\am s.env 2=some (.int .i64 b)/\am s.env 3=some (.fn (.func 40) [] [])/\am s.env 9=some (.int .i64 i2)/\am s.env 10=some (.int .i64 jj)/\am s.env 12=some (.int .i64 j')/\am s.M k=some (dT d')/\bK nx k M s.M/\nx<=s.nx/\Vj cL n b i2 d4 j' m2 d') (b - (i2+1))
          (fun s=>am s.env 0=some sv/\am s.env 1=some (.int .i64 a)/\am s.env 2=some (.int .i64 b)/\am s.env 3=some (.fn (.func 40) [] [])/\am s.env 9=some (.int .i64 i2)/\am s.env 10=some (.int .i64 jj)/\am s.M k=some (dT d4)/\bK nx k M s.M/\nx<=s.nx) ⟨i2+1,d3,?_⟩ ?_ ?_
         ·refine gw az ei ej e0 e1 e2 ec ?_
          have QD:=fZ.eq.symm
          (repeat' (apply ak))<;>first | assumption | rfl | omega | exact bK.refl _ _ _ | exact bK.set (bK.set ho _) _ | (rw[swp_size];assumption) | exact congrArg _ Z
         ·clear ei ej e0 e1 e2 ec au bT
          rintro m2 ⟨env,M2,n2⟩ ⟨j',d2,e0,e1,e2,ec,ei,ej,e9,aW,bJ,fq,c0,c1,c2,c3,c4⟩;simp only at ei ej e9 e0 e1 e2 ec aW bJ fq;by_cases mj:(j':Int)<b
          ·have c4:=Is.mk c4
           have wj:=cN (x:=j') Z Z;have Rj:=bu (x:=j') Z;have y1:=A.ix (j') Z;have y2:=A.ix (j' - 1) Z;have k1:=A.ld M2 d2 aW c3 (j') Z;have k2:=A.ld M2 d2 aW c3 (j' - 1) Z;have dg:=A.st M2 d2 aW c3 (j') Z d2[j' - 1]!;have dh:=A.st (ap M2 k (dT (d2.setIfInBounds (j') d2[j' - 1]!))) _ J ai (j' - 1) Z d2[j']!;refine fe az ei ej e9 mj wj y1 y2 k1 k2 e0 e1 e2 ec ?_;refine aT (bN.pure rfl rfl fun N=>yW ρ N _ _ _) af ?_;cases hq:cL d2[j']! d2[j' - 1]! with
           | true =>
             have hc:=eK hq;have c5:shiftUp cL b (j'+1) (swp d2 j' (j' - 1))=d4:=by rw[<-c4.eq,jv (j:=j') (d:=d2) Z hq]
             have c5:=Is.mk c5;refine FQ az ei ej e9 hc wj Rj y1 y2 k1 k2 dg dh e0 e1 e2 ec ?_;exact⟨b - (j'+1),Z,j'+1,swp d2 j' (j' - 1),rfl,rfl,((bJ.set _).set _),Z,Z,Z,rfl,(by rw[swp_size];exact c3),c5.eq⟩
           | false =>
             have hc:=eQ hq;have c5:d2=d4:=by rw[<-c4.eq,shiftUp,if_pos Z,hq];rfl
             have c5:=Is.mk c5;clear c4;refine gz az ei ej e9 hc e0 e1 e2 ec ?_;rw[<-c5.eq];exact⟨aW,bJ,Z⟩
          ·have c5:d2=d4:=by rw[<-c4,shiftUp,if_neg Z]
           have c5:=Is.mk c5;clear c4;refine gz az ei ej e9 mj e0 e1 e2 ec ?_;rw[<-c5.eq];exact⟨aW,bJ,Z⟩
         ·clear ei ej e0 e1 e2 ec au ho bT
          rintro⟨env,M1,n1⟩ ⟨e0,e1,e2,ec,ei,ej,au,ho,bT⟩;simp only at ei ej e0 e1 e2 ec au ho bT;refine iQ az ei ej wjj e0 e1 e2 ec ?_;exact⟨5 - (jj+1),Z,jj+1,i2,d4,rfl,rfl,au,ho,Z,Z,Z,Z,rfl,s4,Mk.eq⟩
       ·rw[if_neg Z]at fZ
        have fZ:=Is.mk fZ;refine Gv az ei ej rC pz wba AO wia q2 MW y1 y2 k1 k2 dg dh e0 e1 e2 ec ?_;clear y1 y2 k1 k2 dg dh;refine bB (fun m2 s=>∃(j':Nat) (d':Array bO),am s.env 0=some sv/\am s.env 1=some (.int .i64 a)/\am s.env 2=some (.int .i64 b)/\am s.env 3=some (.fn (.func 40) [] [])/\am s.env 9=some (.int .i64 i2)/\am s.env 10=some (.int .i64 jj)/\am s.env 11=some (.int .i64 j')/\am s.M k=some (dT d')/\bK nx k M s.M/\nx<=s.nx/\Vi cL n i2 d3 j' m2 d') (i2 - 1)
         (fun s=>am s.env 0=some sv/\am s.env 1=some (.int .i64 a)/\am s.env 2=some (.int .i64 b)/\am s.env 3=some (.fn (.func 40) [] [])/\am s.env 9=some (.int .i64 i2)/\am s.env 10=some (.int .i64 jj)/\am s.M k=some (dT d3)/\bK nx k M s.M/\nx<=s.nx) ⟨i2 - 1,swp d1 i2 (i2 - 1),?_⟩ ?_ ?_
        ·refine gw az ei ej e0 e1 e2 ec ?_
         have QC:=j8.eq.symm
         (repeat' (apply ak))<;>first | assumption | rfl | omega | exact bK.refl _ _ _ | exact bK.set (bK.set ho _) _ | (rw[swp_size];assumption) | exact congrArg _ Z
        ·clear ei ej e0 e1 e2 ec au bT
         rintro m2 ⟨env,M2,n2⟩ ⟨j',d2,e0,e1,e2,ec,ei,ej,e9,aW,bJ,fq,c1,c2,c3,c4⟩;simp only at ei ej e9 e0 e1 e2 ec aW bJ fq;by_cases mj:(1:Int)<=j'
         ·obtain⟨j',rfl⟩:∃q,j'=q+1:=⟨j' - 1,Z⟩
          have c4:=Is.mk c4;have wj:=fQ (x:=j') Z;have y1:=A.ix (j'+1) Z;have y2:=A.ix (j') Z;have k1:=A.ld M2 d2 aW c3 (j'+1) Z;have k2:=A.ld M2 d2 aW c3 (j') Z;have dg:=A.st M2 d2 aW c3 (j'+1) Z d2[j']!;have dh:=A.st (ap M2 k (dT (d2.setIfInBounds (j'+1) d2[j']!))) _ J ai (j') Z d2[j'+1]!;refine fe az ei ej e9 mj wj y1 y2 k1 k2 e0 e1 e2 ec ?_;refine aT (bN.pure rfl rfl fun N=>yW ρ N _ _ _) af ?_;cases hq:cL d2[j'+1]! d2[j']! with
          | true =>
            have hc:=eK hq;have c5:shiftDown cL j' (swp d2 (j'+1) j')=d3:=by rw[<-c4.eq,shiftDown,hq];rfl
            have c5:=Is.mk c5;refine sE az ei ej e9 hc wj y1 y2 k1 k2 dg dh e0 e1 e2 ec ?_;exact⟨j',Z,j',swp d2 (j'+1) j',rfl,rfl,((bJ.set _).set _),Z,Z,rfl,(by rw[swp_size];exact c3),c5.eq⟩
          | false =>
            have hc:=eQ hq;have c5:d2=d3:=by rw[<-c4.eq,shiftDown,hq];rfl
            have c5:=Is.mk c5;clear c4;refine gz az ei ej e9 hc e0 e1 e2 ec ?_;rw[<-c5.eq];exact⟨aW,bJ,Z⟩
         ·have c5:d2=d3:=by rw[<-c4,show j'=0 by omega];rfl
          have c5:=Is.mk c5;clear c4;refine gz az ei ej e9 mj e0 e1 e2 ec ?_;rw[<-c5.eq];exact⟨aW,bJ,Z⟩
        ·clear ei ej e0 e1 e2 ec au ho bT bv
         rintro⟨env,M1,n1⟩ ⟨e0,e1,e2,ec,ei,ej,au,ho,bT⟩;simp only at ei ej e0 e1 e2 ec au ho bT;refine dp az ei ej wbi q3 wjj e0 e1 e2 ec ?_;exact⟨5 - (jj+1),Z,jj+1,i2,d4,rfl,rfl,by rw[fZ.eq];exact au,ho,Z,Z,Z,Z,rfl,s4,Mk.eq⟩
      ·rw[if_neg Z]at j8
       have j8:=Is.mk j8;by_cases q3:(2:Int)<=((b - i2:Nat):Int)
       ·rw[if_pos Z,j8.eq]at fZ
        have fZ:=Is.mk fZ;refine Ta az ei ej rC pz wba AO wia q2 MW wbi q3 UZ y1 y2 k1 k2 dg dh e0 e1 e2 ec ?_;clear y1 y2 k1 k2 dg dh;refine bB (fun m2 s=>∃(j':Nat) (d':Array bO),am s.env 0=some sv/\am s.env 1=some (.int .i64 a)/\am s.env 2=some (.int .i64 b)/\am s.env 3=some (.fn (.func 40) [] [])/\am s.env 9=some (.int .i64 i2)/\am s.env 10=some (.int .i64 jj)/\am s.env 12=some (.int .i64 j')/\am s.M k=some (dT d')/\bK nx k M s.M/\nx<=s.nx/\Vj cL n b i2 d4 j' m2 d') (b - (i2+1))
         (fun s=>am s.env 0=some sv/\am s.env 1=some (.int .i64 a)/\am s.env 2=some (.int .i64 b)/\am s.env 3=some (.fn (.func 40) [] [])/\am s.env 9=some (.int .i64 i2)/\am s.env 10=some (.int .i64 jj)/\am s.M k=some (dT d4)/\bK nx k M s.M/\nx<=s.nx) ⟨i2+1,swp d1 i2 (i2 - 1),?_⟩ ?_ ?_
        ·refine gw az ei ej e0 e1 e2 ec ?_
         have QD:=fZ.eq.symm
         (repeat' (apply ak))<;>first | assumption | rfl | omega | exact bK.refl _ _ _ | exact bK.set (bK.set ho _) _ | (rw[swp_size];assumption) | exact congrArg _ Z
        ·clear ei ej e0 e1 e2 ec au bT
         rintro m2 ⟨env,M2,n2⟩ ⟨j',d2,e0,e1,e2,ec,ei,ej,e9,aW,bJ,fq,c0,c1,c2,c3,c4⟩;simp only at ei ej e9 e0 e1 e2 ec aW bJ fq;by_cases mj:(j':Int)<b
         ·have c4:=Is.mk c4
          have wj:=cN (x:=j') Z Z;have Rj:=bu (x:=j') Z;have y1:=A.ix (j') Z;have y2:=A.ix (j' - 1) Z;have k1:=A.ld M2 d2 aW c3 (j') Z;have k2:=A.ld M2 d2 aW c3 (j' - 1) Z;have dg:=A.st M2 d2 aW c3 (j') Z d2[j' - 1]!;have dh:=A.st (ap M2 k (dT (d2.setIfInBounds (j') d2[j' - 1]!))) _ J ai (j' - 1) Z d2[j']!;refine fe az ei ej e9 mj wj y1 y2 k1 k2 e0 e1 e2 ec ?_;refine aT (bN.pure rfl rfl fun N=>yW ρ N _ _ _) af ?_;cases hq:cL d2[j']! d2[j' - 1]! with
          | true =>
            have hc:=eK hq;have c5:shiftUp cL b (j'+1) (swp d2 j' (j' - 1))=d4:=by rw[<-c4.eq,jv (j:=j') (d:=d2) Z hq]
            have c5:=Is.mk c5;refine FQ az ei ej e9 hc wj Rj y1 y2 k1 k2 dg dh e0 e1 e2 ec ?_;exact⟨b - (j'+1),Z,j'+1,swp d2 j' (j' - 1),rfl,rfl,((bJ.set _).set _),Z,Z,Z,rfl,(by rw[swp_size];exact c3),c5.eq⟩
          | false =>
            have hc:=eQ hq;have c5:d2=d4:=by rw[<-c4.eq,shiftUp,if_pos Z,hq];rfl
            have c5:=Is.mk c5;clear c4;refine gz az ei ej e9 hc e0 e1 e2 ec ?_;rw[<-c5.eq];exact⟨aW,bJ,Z⟩
         ·have c5:d2=d4:=by rw[<-c4,shiftUp,if_neg Z]
          have c5:=Is.mk c5;clear c4;refine gz az ei ej e9 mj e0 e1 e2 ec ?_;rw[<-c5.eq];exact⟨aW,bJ,Z⟩
        ·clear ei ej e0 e1 e2 ec au ho bT
         rintro⟨env,M1,n1⟩ ⟨e0,e1,e2,ec,ei,ej,au,ho,bT⟩;simp only at ei ej e0 e1 e2 ec au ho bT;refine iQ az ei ej wjj e0 e1 e2 ec ?_;exact⟨5 - (jj+1),Z,jj+1,i2,d4,rfl,rfl,au,ho,Z,Z,Z,Z,rfl,s4,Mk.eq⟩
       ·rw[if_neg Z,j8.eq]at fZ
        have fZ:=Is.mk fZ;refine Ta az ei ej rC pz wba AO wia q2 MW wbi q3 wjj y1 y2 k1 k2 dg dh e0 e1 e2 ec ?_;exact⟨5 - (jj+1),Z,jj+1,i2,d4,rfl,rfl,by rw[fZ.eq];rfl,(ho.set _).set _,Z,Z,Z,Z,rfl,s4,Mk.eq⟩
  ·rw[show 5 - jj=0 by omega]at hI
   have bt:R=(d1,false):=hI.symm;subst bt;clear hI;refine gz az ei ej h5 @yh.eq_1 e0 e1 e2 ec ?_;exact⟨⟨au,Z⟩,ho,Z⟩
end
end Go.Xs
namespace Go.Xs
noncomputable section
open Go.Proofs Go.Sort
def HV (nx k n:Nat) (M:Hp) (a b:Nat) (d:Array bO) (r:ew):Prop:=r.1 = .tup []/\(∃d':Array bO,d'.size=n/\PermIn a b d d'/\am r.2.1 k=some (dT d'))/\bK nx k M r.2.1/\nx<=r.2.2
def Tn (a b n:Nat) (d:Array bO) (i0 m i:Nat) (d':Array bO):Prop:=i0<=i/\i<=i0+3/\m=i0+3 - i/\d'.size=n/\PermIn a b d d'
theorem f96 (ρ:aK) {M:Hp} {nx k n:Nat} {sv:XV} {off:Nat->Nat} (A:pW k n sv off) {d:Array bO} (hM:am M k=some (dT d)) (hd:d.size=n) (hk:k<nx) (hn:n<=1000) {a b:Nat} (qJ:a<b) (hb:b<=n) :
 ar Tryz.prog ρ 96 [sv,.int .i64 a,.int .i64 b,.fn (.func 40) [] []] M nx (HV nx k n M a b d):=by
 obtain⟨l,hl⟩:∃q,q=b - a:=⟨_,rfl⟩;have w1:IntKind.i64.wrap ((b:Int) - (a:Int))=(l:Int):=by rw[hl];exact dO Z Z
 refine ar.walk (m:=67) (rs:=[]) follows Tryz.func96 U rfl rfl rfl ?_
 conv in W _ _ _ _ _ _ _=>arg 4;whnf
 by_cases h8:(8:Int)<=l
 ·obtain⟨q,hq⟩:∃q,q=l / 4:=⟨_,rfl⟩
  obtain⟨i0,AW⟩:∃i,i=a+2*q - 1:=⟨_,rfl⟩;have w2:IntKind.i64.wrap ((l:Int).tdiv 4)=(q:Int):=by
   rw[show (l:Int).tdiv 4=(q:Int) by rw[Int.tdiv_eq_ediv_of_nonneg Z];omega,wrap_i64 Z Z]
  have w4:IntKind.i64.wrap ((q:Int)*2)=((2*q:Nat):Int):=by rw[wrap_i64 Z Z];omega
  have w5:=dK (x:=a) (y:=2*q) Z;have w6:IntKind.i64.wrap (((a+2*q:Nat):Int) - 1)=(i0:Int):=by rw[wrap_i64 Z Z];omega
  have w7:=bu (x:=a+2*q) Z;have w8:IntKind.u64.wrap (l:Int)=(l:Int):=wrap_u64 Z Z;refine ti rX w1 h8 w8 ?_;generalize au:ap (ap M _ _) _ _=M1;have o1:bK nx k M M1:=by rw[<-au];exact((bK.refl _ _ _).new Z _).new Z _
  have z1:am M1 (nx+8)=some (.row [.int .u64 l]):=by rw[<-au];exact J
  have z2:am M1 k=some (dT d):=by rw[<-au];exact J
  clear au;refine an (Sz ρ _ _ l Z) ?_;rintro⟨u,M2,n2⟩ ⟨g1,g2,g3⟩;simp only at g1 g2 g3;subst g1;have o2:bK nx k M M2:=o1.agr (g2.le Z) (Nat.le_refl _);have z3:=(g2 (nx+8) Z).trans z1;have z4:=(g2 k Z).trans z2;have Ob:=rZ l Z Z;have Z2:1<=2 ^ bitsLen l:=Nat.one_le_two_pow;generalize 2 ^ bitsLen l=md at Ob Z2;have w9:IntKind.u64.wrap ((md:Int) - 1)=((md - 1:Nat):Int):=by rw[wrap_u64 Z Z];omega
  clear z1 z2 o1 g2;refine gw rX w1 w2 w4 w5 w6 h8 ?_;refine aC (fun m s=>∃(i:Nat) (d':Array bO) (r:Int),am s.env 0=some sv/\am s.env 1=some (.int .i64 a)/\am s.env 8=some (.int .i64 l)/\am s.env 9=some (.mp (nx+8) 0)/\am s.env 10=some (.int .u64 md)/\am s.env 11=some (.int .i64 i)/\am s.M k=some (dT d')/\am s.M (nx+8)=some (.row [.int .u64 r])/\bK nx k M s.M/\nx+9<=s.nx/\Tn a b n d i0 m i d')
   3 ⟨i0,d,l,?_⟩ ?_
  ·refine bR rX ?_
   exact⟨z4,z3,o2,Z,Z,Z,Z,hd,permIn_refl _ _ _⟩
  ·clear z3 z4 o2 hM hd
   rintro m ⟨env,M1,n1⟩ ⟨i,d1,r,e0,e1,e6,e7,e8,e9,au,hr,ho,bT,h1,h2,h3,bv,hP⟩;simp only at e0 e1 e6 e7 e8 e9 au hr ho bT;by_cases aL:(i:Int)<=(a+(2*q+1):Nat)
   ·refine ii rX e0 e1 e6 e7 e8 e9 w2 w4 w5 w7 aL ?_
    refine an (Su ρ hr) ?_;rintro⟨u,M2,n2⟩ ⟨r2,k1,k2,k3,k4⟩;simp only at k1 k2 k3 k4;subst k1;obtain⟨o,UB,VM⟩:=Hr r2 (md - 1) Z;have s4:bj .and .u64 r2 .u64 ((md - 1:Nat):Int)=some (.int .u64 (o:Int)):=by rw[<-UB];rfl
    have UY:IntKind.i64.wrap (o:Int)=(o:Int):=wrap_i64 Z Z;have aW:am M2 k=some (dT d1):=k3.get Z Z au;have bJ:bK nx k M M2:=fun j hj ia=>(k3 j Z Z).trans (ho j hj ia)
    have wi:=bu (x:=i) Z;clear k3 hr;by_cases JY:(l:Int)<=o
    ·have w11:=dO (x:=o) (y:=l) Z Z
     have Ri:=dK (x:=a) (y:=o - l) Z;have y1:=A.ix (i) Z;have y2:=A.ix (a+(o - l)) Z;have k1:=A.ld M2 d1 aW bv (i) Z;have k2:=A.ld M2 d1 aW bv (a+(o - l)) Z;have dg:=A.st M2 d1 aW bv (i) Z d1[a+(o - l)]!;have dh:=A.st (ap M2 k (dT (d1.setIfInBounds (i) d1[a+(o - l)]!))) _ J ai (a+(o - l)) Z d1[i]!;refine Gv rX e0 e1 e6 e7 e8 e9 w9 s4 UY JY w11 Ri wi y1 y2 k1 k2 dg dh ?_;exact⟨i0+3 - (i+1),Z,i+1,swp d1 i (a+(o - l)),r2,rfl,rfl,J,(bJ.set _).set _,Z,Z,Z,rfl,(by rw[swp_size];exact bv),permIn_trans _ _ _ _ _ hP (swp_permIn _ _ _ _ _ Z Z Z Z Z)⟩
    ·have Ri:=dK (x:=a) (y:=o) Z
     have y1:=A.ix (i) Z;have y2:=A.ix (a+o) Z;have k1:=A.ld M2 d1 aW bv (i) Z;have k2:=A.ld M2 d1 aW bv (a+o) Z;have dg:=A.st M2 d1 aW bv (i) Z d1[a+o]!;have dh:=A.st (ap M2 k (dT (d1.setIfInBounds (i) d1[a+o]!))) _ J ai (a+o) Z d1[i]!;refine Kf rX e0 e1 e6 e7 e8 e9 w9 s4 UY JY Ri wi y1 y2 k1 k2 dg dh ?_;exact⟨i0+3 - (i+1),Z,i+1,swp d1 i (a+o),r2,rfl,rfl,J,(bJ.set _).set _,Z,Z,Z,rfl,(by rw[swp_size];exact bv),permIn_trans _ _ _ _ _ hP (swp_permIn _ _ _ _ _ Z Z Z Z Z)⟩
   ·refine dY rX e0 e1 e6 e7 e8 e9 w2 w4 w5 w7 aL @HV.eq_1 ?_
    exact⟨⟨d1,bv,hP,au⟩,ho,Z⟩
 ·refine ti rX w1 h8 @HV.eq_1 ?_
  exact⟨⟨d,hd,permIn_refl _ _ _,hM⟩,bK.refl _ _ _,Z⟩
end
end Go.Xs
namespace Go.Xs
noncomputable section
open Go.Proofs Go.Sort
def Dz (nx k n:Nat) (M:Hp) (a b:Nat) (d:Array bO) (r:ew):Prop:=r.1 = .tup []/\(∃d':Array bO,d'.size=n/\(PermIn a b d d'/\SortedIn cL a b d')/\am r.2.1 k=some (dT d'))/\bK nx k M r.2.1/\nx<=r.2.2
theorem f68 (ρ:aK):∀(sz:Nat) {M:Hp} {nx k n:Nat} {sv:XV} {off:Nat->Nat} (A:pW k n sv off) {d:Array bO} (hM:am M k=some (dT d)) (hd:d.size=n) (hk:k<nx) (hn:n<=1000) {a b:Nat} (lim:Int) (cJ:b - a<=sz) (qJ:a<=b) (hb:b<=n) (hB:Below cL a b d),
 ar Tryz.prog ρ 68 [sv,.int .i64 a,.int .i64 b,.int .i64 lim,.fn (.func 40) [] []] M nx (Dz nx k n M a b d):=by
 intro sz
 induction sz using Nat.strongRecOn with
 | _ sz ih =>
 intro M nx k n sv off A d hM hd hk hn a b lim cJ qJ hb hB;refine ar.walk (m:=148) (rs:=[]) follows Tryz.func68 U rfl rfl rfl ?_
 conv in W _ _ _ _ _ _ _=>arg 4;whnf
 refine bR cS ?_;refine aC (fun m s=>∃(x y:Nat) (lim':Int) (wb wp:Bool) (d1:Array bO),am s.env 0=some sv/\am s.env 1=some (.int .i64 (x:Nat))/\am s.env 2=some (.int .i64 (y:Nat))/\am s.env 3=some (.int .i64 lim')/\am s.env 4=some (.fn (.func 40) [] [])/\am s.env 10=some (.bool wb)/\am s.env 11=some (.bool wp)/\am s.M k=some (dT d1)/\bK nx k M s.M/\nx<=s.nx/\RZ cL a b n d m x y d1)
  (b - a) ⟨a,b,lim,true,true,d,?_⟩ ?_
 ·refine bR cS ?_
  exact⟨hM,bK.refl _ _ _,Z,Z,Z,Z,rfl,hd,hB,fun R h1 h2=>⟨h1,h2⟩⟩
 ·clear hM hd hB
  rintro m ⟨env,M1,n1⟩ ⟨x,y,lim',wb,wp,d1,e0,e1,e2,e3,ec,e8,e9,au,ho,bT,h1,h2,h3,h4,bv,hB,hG⟩;simp only at e0 e1 e2 e3 ec e8 e9 au ho bT;rw[l9];have w1:=dO (x:=y) (y:=x) Z Z;refine IF (fun s=>∃(iv:Int) (d2:Array bO),am s.env 0=some sv/\am s.env 1=some (.int .i64 (x:Nat))/\am s.env 2=some (.int .i64 (y:Nat))/\am s.env 3=some (.int .i64 iv)/\am s.env 4=some (.fn (.func 40) [] [])/\am s.env 10=some (.bool wb)/\am s.env 11=some (.bool wp)/\am s.env 12=some (.int .i64 (y - x:Nat))/\am s.M k=some (dT d2)/\bK nx k M s.M/\nx<=s.nx/\PmD n x y d1 d2) ?_ ?_
  ·by_cases uO:((y - x:Nat):Int)<=12
   ·refine dp cS w1 uO e0 e1 e2 e3 ec e8 e9 ?_
    refine an (f94 ρ A au bv Z hn (a:=x) (b:=y) Z Z) ?_;rintro⟨u,M2,n2⟩ ⟨k1,⟨k2,_⟩,k3,k4⟩;simp only at k1 k2 k3 k4;subst k1;obtain⟨u1,u2⟩:=insertionSort_holds Fx d1 x y Z Z;obtain⟨t1,t2⟩:=hG _ u1 u2;have ts:(insertionSort cL d1 x y).size=n:=u1.1.trans bv;refine mY cS @bU @cd @bQ @Dz.eq_1 ?_;exact⟨⟨_,ts,⟨t1,t2⟩,k2⟩,ho.trans k3 Z,Z⟩
   ·by_cases pG:lim'=0
    ·refine dw cS w1 uO pG e0 e1 e2 e3 ec e8 e9 ?_
     refine an (f95 ρ A au bv Z hn (a:=x) (b:=y) Z Z) ?_;rintro⟨u,M2,n2⟩ ⟨k1,⟨k2,_⟩,k3,k4⟩;simp only at k1 k2 k3 k4;subst k1;obtain⟨u1,u2⟩:=heapSort_holds Fx d1 x y Z Z;obtain⟨t1,t2⟩:=hG _ u1 u2;have ts:(jS cL d1 x y).size=n:=u1.1.trans bv;refine mY cS @bU @cd @bQ @Dz.eq_1 ?_;exact⟨⟨_,ts,⟨t1,t2⟩,k2⟩,ho.trans k3 Z,Z⟩
    ·cases wb with
     | true =>
       refine fe cS w1 uO pG @bU @cd @bQ e0 e1 e2 e3 ec e8 e9 ?_;exact⟨lim',d1,rfl,au,ho,Z,Z,bv,permIn_refl _ _ _⟩
     | false =>
       refine dw cS w1 uO pG e0 e1 e2 e3 ec e8 e9 ?_;refine an (f96 ρ A au bv Z hn (a:=x) (b:=y) Z Z) ?_;rintro⟨u,M2,n2⟩ ⟨k1,⟨d2,k2,k5,k6⟩,k3,k4⟩;simp only at k1 k6 k3 k4;subst k1;refine dw cS @bU @cd @bQ e0 e1 e2 e3 ec e8 e9 ?_;exact⟨IntKind.i64.wrap (lim' - 1),d2,rfl,k6,ho.trans k3 Z,Z,Z,k2,k5⟩
  clear e0 e1 e2 e3 ec e8 e9 au ho bT;rintro⟨env,M1,n1⟩ ⟨iv,d2,e0,e1,e2,e3,ec,e8,e9,dx,au,ho,bT,hl,py,hP⟩;simp only at e0 e1 e2 e3 ec e8 e9 dx au ho bT;refine yz (fun s=>∃(p:Nat) (hh:Int) (d3:Array bO),am s.env 0=some sv/\am s.env 1=some (.int .i64 (x:Nat))/\am s.env 2=some (.int .i64 (y:Nat))/\am s.env 3=some (.int .i64 iv)/\am s.env 4=some (.fn (.func 40) [] [])/\am s.env 10=some (.bool wb)/\am s.env 11=some (.bool wp)/\am s.env 12=some (.int .i64 (y - x:Nat))/\am s.env 13=some (.int .i64 p)/\am s.env 14=some (.int .i64 hh)/\am s.M k=some (dT d3)/\bK nx k M s.M/\nx<=s.nx/\U6 n x y p d1 d3) ?_ ?_
  ·refine gz cS dx e0 e1 e2 e3 ec e8 e9 ?_
   refine an (f97 ρ A au py Z hn (a:=x) (b:=y) Z Z) ?_;rintro⟨u,M2,n2⟩ ⟨p,hh,k1,k2,k3,k4⟩;simp only at k1 k3 k4;subst k1;have aW:=(k3 k Z).trans au;have bJ:=ho.agr k3 Z;clear k3;by_cases DY:hh=2
   ·have v1:=cN (x:=y) Z Z
    have v2:=dO (x:=p) (y:=x) Z Z;have v3:=dO (x:=y - 1) (y:=p - x) Z Z;refine dp cS dx DY e0 e1 e2 e3 ec e8 e9 ?_;refine an (f98 ρ A aW py Z hn (a:=x) (b:=y) Z Z) ?_;rintro⟨u,M3,n3⟩ ⟨j1,⟨j2,_⟩,j3,j4⟩;simp only at j1 j2 j3 j4;subst j1;have T5:=reverseRange_holds d2 x y Z Z;refine lG cS @bU @cd @bQ dx v1 v2 v3 e0 e1 e2 e3 ec e8 e9 ?_;exact⟨y - 1 - (p - x),1,reverseRange d2 x y,rfl,rfl,j2,bJ.trans j3 Z,Z,Z,Z,T5.1.trans py,permIn_trans _ _ _ _ _ hP T5⟩
   ·refine dY cS @bU @cd @bQ dx DY e0 e1 e2 e3 ec e8 e9 ?_
    exact⟨p,hh,d2,rfl,rfl,aW,bJ,Z,Z,k2,py,hP⟩
  clear e0 e1 e2 e3 ec e8 e9 dx au ho bT hl py hP d2;rintro⟨env,M1,n1⟩ ⟨p,hh,d3,e0,e1,e2,e3,ec,e8,e9,dx,ep,eh,au,ho,bT,hl,hp,j8,hP⟩;simp only at e0 e1 e2 e3 ec e8 e9 dx ep eh au ho bT;refine yo (fun s=>∃(d4:Array bO),am s.env 0=some sv/\am s.env 1=some (.int .i64 (x:Nat))/\am s.env 2=some (.int .i64 (y:Nat))/\am s.env 3=some (.int .i64 iv)/\am s.env 4=some (.fn (.func 40) [] [])/\am s.env 10=some (.bool wb)/\am s.env 11=some (.bool wp)/\am s.env 12=some (.int .i64 (y - x:Nat))/\am s.env 13=some (.int .i64 p)/\am s.M k=some (dT d4)/\bK nx k M s.M/\nx<=s.nx/\U6 n x y p d1 d4) ?_ ?_
  ·by_cases hc:wb=true/\wp=true/\hh=1
   ·obtain⟨c1,c2,c3⟩:=hc
    subst c1;subst c2;refine ii cS dx ep eh c3 e0 e1 e2 e3 ec e8 e9 ?_;refine an (f99 ρ A au j8 Z hn (a:=x) (b:=y) Z Z) ?_;rintro⟨u,M2,n2⟩ ⟨k1,⟨k2,_⟩,k3,k4⟩;simp only at k1 k2 k3 k4;subst k1;obtain⟨u1,u2⟩:=partialInsertionSort_holds Fx d3 x y Z Z (hB.perm Z hP);have ts:(partialInsertionSort cL d3 x y).1.size=n:=u1.1.trans j8;cases hR:(partialInsertionSort cL d3 x y).2 with
    | true =>
      obtain⟨t1,t2⟩:=hG _ (permIn_trans _ _ _ _ _ hP u1) (u2 hR);refine ii cS @bU @cd @bQ @Dz.eq_1 e0 e1 e2 e3 ec e8 e9 ?_;exact⟨⟨_,ts,⟨t1,t2⟩,k2⟩,ho.trans k3 Z,Z⟩
    | false =>
      refine fe cS @bU @cd @bQ dx ep eh e0 e1 e2 e3 ec e8 e9 ?_;exact⟨_,k2,ho.trans k3 Z,Z,Z,hp,ts,permIn_trans _ _ _ _ _ hP u1⟩
   ·cases wb with
    | false =>
      refine fe cS @bU @cd @bQ dx ep eh e0 e1 e2 e3 ec e8 e9 ?_;exact⟨d3,au,ho,Z,Z,hp,j8,hP⟩
    | true =>
      cases wp with
      | false =>
        refine fe cS @bU @cd @bQ dx ep eh e0 e1 e2 e3 ec e8 e9 ?_;exact⟨d3,au,ho,Z,Z,hp,j8,hP⟩
      | true =>
        have Zs:¬ hh=1:=fun q=>hc ⟨rfl,rfl,q⟩
        clear hc;refine lG cS @bU @cd @bQ dx ep eh Zs e0 e1 e2 e3 ec e8 e9 ?_;exact⟨d3,au,ho,Z,Z,hp,j8,hP⟩
  clear e0 e1 e2 e3 ec e8 e9 dx ep eh au ho bT hl hp j8 hP d3;rintro⟨env,M1,n1⟩ ⟨d4,e0,e1,e2,e3,ec,e8,e9,dx,ep,au,ho,bT,hl,hp,fZ,hP⟩;simp only at e0 e1 e2 e3 ec e8 e9 dx ep au ho bT;by_cases Q9:(0:Int)<x
  ·have x1:=A.ix (x - 1) Z
   have x2:=A.ix p Z;have l1:=A.ld M1 d4 au fZ (x - 1) Z;have l2:=A.ld M1 d4 au fZ p Z;have wx:=cN (x:=x) Z Z;simp (maxSteps:=10000000) (disch:=first|assumption|decide|omega|(simp only[qG, *];done)|(simp only[qF,fE];first|done|assumption|omega)) only [qE,cz,oj,cB,gx,vI,vB,vX,kq,kg,km,Nat.reduceLT,Nat.reduceEqDiff,Nat.reduceAdd,Nat.reduceMul,Nat.reduceSub,reduceIte,Int.reduceLT,Int.reduceLE,Int.reduceEq,Int.reduceNeg,Int.reduceToNat,cS,dx,ep,Q9,wx,x1,x2,l1,l2,e0,e1,e2,e3,ec,e8,e9];refine bF ?_ rfl ?_
   ·refine bR cS ?_;try exact⟨⟩
   refine bR cS ?_;refine aT (bN.pure rfl rfl fun N=>yW ρ N _ _ _) af ?_;cases hq:cL d4[x - 1]! d4[p]! with
   | false =>
     have hc:=eQ hq;refine dw cS dx ep hc e0 e1 e2 e3 ec e8 e9 ?_;refine an (W6 ρ A au fZ Z hn (a:=x) (b:=y) (pivot:=p) Z Z Z) ?_;rintro⟨u,M2,n2⟩ ⟨k1,⟨k2,_⟩,k3,k4⟩;simp only at k1 k2 k3 k4;subst k1;obtain⟨mid,d5,AS⟩:∃mid d5,partitionEqual cL d4 x y p=(mid,d5):=⟨_,_,rfl⟩;rw[AS]at k2 ⊢;simp only at k2 ⊢;obtain⟨r1,r2,r3,r4,r5⟩:=round_eq Fx (partitionEqual_holds _) (d3:=d4) Z hp.1 hp.2 (by rw[fZ];omega) (hB.perm (by rw[bv];omega) hP) hq AS;refine dp cS dx ep e0 e1 e2 e3 ec e8 e9 ?_;exact⟨y - mid,Z,mid,y,iv,wb,wp,d5,rfl,rfl,rfl,rfl,rfl,k2,ho.trans k3 Z,Z,Z,Z,Z,rfl,r3.trans fZ,r4,fun R q1 q2=>let ⟨u1,u2⟩:=r5 R q1 q2;hG R (permIn_trans _ _ _ _ _ hP u1) u2⟩
   | true =>
     have hc:=eK hq;refine dw cS dx ep hc e0 e1 e2 e3 ec e8 e9 ?_;refine an (Sh ρ A au fZ Z hn (a:=x) (b:=y) (pivot:=p) Z Z Z) ?_;rintro⟨u,M2,n2⟩ ⟨k1,⟨k2,_⟩,k3,k4⟩;simp only at k1 k2 k3 k4;subst k1;obtain⟨mid,al,d5,AS⟩:∃mid al d5,partition cL d4 x y p=(mid,al,d5):=⟨_,_,_,rfl⟩;rw[AS]at k2 ⊢;simp only at k2 ⊢;have Q_:y<=d4.size:=by rw[fZ];omega
     obtain⟨r1,r2,r3,r4,r5,r6,r7⟩:=round_part Fx (partition_holds _) (d3:=d4) hp.1 hp.2 Q_ (hB.perm (by rw[bv];omega) hP) AS;have Ju:d5.size=n:=r3.trans fZ;have bJ:=ho.trans k3 Z;have aW:=k2;clear k2 k3;have v1:=dO (x:=mid) (y:=x) Z Z;have v2:=dO (x:=y) (y:=mid) Z Z;have v3:IntKind.i64.wrap (((y - x:Nat):Int).tdiv 8)=(((y - x) / 8:Nat):Int):=by
      rw[show ((y - x:Nat):Int).tdiv 8=(((y - x) / 8:Nat):Int) by rw[Int.tdiv_eq_ediv_of_nonneg Z];omega,wrap_i64 Z Z]
     have v4:=bu (x:=mid) Z;by_cases JD:((mid - x:Nat):Int)<((y - mid:Nat):Int)
     ·refine lG cS dx ep v1 v2 v3 v4 JD e0 e1 e2 e3 ec e8 e9 ?_
      refine an (ih (mid - x) Z A aW Ju Z hn (a:=x) (b:=mid) iv Z Z Z r4) ?_;rintro⟨u,M3,n3⟩ ⟨j1,⟨L,j2,⟨j3,j4⟩,j5⟩,j6,j7⟩;simp only at j1 j5 j6 j7;subst j1;obtain⟨t1,t2⟩:=r6 L j3 j4;refine dw cS dx ep v4 e0 e1 e2 e3 ec e8 e9 ?_;exact⟨y - (mid+1),Z,mid+1,y,iv,_,_,L,rfl,rfl,rfl,rfl,rfl,j5,bJ.trans j6 Z,Z,Z,Z,Z,rfl,j2,t1,fun R q1 q2=>let ⟨u1,u2⟩:=t2 R q1 q2;hG R (permIn_trans _ _ _ _ _ hP u1) u2⟩
     ·refine lG cS dx ep v1 v2 v3 v4 JD e0 e1 e2 e3 ec e8 e9 ?_
      refine an (ih (y - (mid+1)) Z A aW Ju Z hn (a:=mid+1) (b:=y) iv Z Z Z r5) ?_;rintro⟨u,M3,n3⟩ ⟨j1,⟨L,j2,⟨j3,j4⟩,j5⟩,j6,j7⟩;simp only at j1 j5 j6 j7;subst j1;obtain⟨t1,t2⟩:=r7 L j3 j4;refine dp cS dx ep e0 e1 e2 e3 ec e8 e9 ?_;exact⟨mid - x,Z,x,mid,iv,_,_,L,rfl,rfl,rfl,rfl,rfl,j5,bJ.trans j6 Z,Z,Z,Z,Z,rfl,j2,t1,fun R q1 q2=>let ⟨u1,u2⟩:=t2 R q1 q2;hG R (permIn_trans _ _ _ _ _ hP u1) u2⟩
  ·refine dw cS dx ep Q9 e0 e1 e2 e3 ec e8 e9 ?_
   refine cA ?_ af ?_
   ·refine bR cS ?_;try exact⟨⟩
   refine dw cS dx ep Q9 e0 e1 e2 e3 ec e8 e9 ?_;refine an (Sh ρ A au fZ Z hn (a:=x) (b:=y) (pivot:=p) Z Z Z) ?_;rintro⟨u,M2,n2⟩ ⟨k1,⟨k2,_⟩,k3,k4⟩;simp only at k1 k2 k3 k4;subst k1;obtain⟨mid,al,d5,AS⟩:∃mid al d5,partition cL d4 x y p=(mid,al,d5):=⟨_,_,_,rfl⟩;rw[AS]at k2 ⊢;simp only at k2 ⊢;have Q_:y<=d4.size:=by rw[fZ];omega
   obtain⟨r1,r2,r3,r4,r5,r6,r7⟩:=round_part Fx (partition_holds _) (d3:=d4) hp.1 hp.2 Q_ (hB.perm (by rw[bv];omega) hP) AS;have Ju:d5.size=n:=r3.trans fZ;have bJ:=ho.trans k3 Z;have aW:=k2;clear k2 k3;have v1:=dO (x:=mid) (y:=x) Z Z;have v2:=dO (x:=y) (y:=mid) Z Z;have v3:IntKind.i64.wrap (((y - x:Nat):Int).tdiv 8)=(((y - x) / 8:Nat):Int):=by
    rw[show ((y - x:Nat):Int).tdiv 8=(((y - x) / 8:Nat):Int) by rw[Int.tdiv_eq_ediv_of_nonneg Z];omega,wrap_i64 Z Z]
   have v4:=bu (x:=mid) Z;by_cases JD:((mid - x:Nat):Int)<((y - mid:Nat):Int)
   ·refine lG cS dx ep v1 v2 v3 v4 JD e0 e1 e2 e3 ec e8 e9 ?_
    refine an (ih (mid - x) Z A aW Ju Z hn (a:=x) (b:=mid) iv Z Z Z r4) ?_;rintro⟨u,M3,n3⟩ ⟨j1,⟨L,j2,⟨j3,j4⟩,j5⟩,j6,j7⟩;simp only at j1 j5 j6 j7;subst j1;obtain⟨t1,t2⟩:=r6 L j3 j4;refine dw cS dx ep v4 e0 e1 e2 e3 ec e8 e9 ?_;exact⟨y - (mid+1),Z,mid+1,y,iv,_,_,L,rfl,rfl,rfl,rfl,rfl,j5,bJ.trans j6 Z,Z,Z,Z,Z,rfl,j2,t1,fun R q1 q2=>let ⟨u1,u2⟩:=t2 R q1 q2;hG R (permIn_trans _ _ _ _ _ hP u1) u2⟩
   ·refine lG cS dx ep v1 v2 v3 v4 JD e0 e1 e2 e3 ec e8 e9 ?_
    refine an (ih (y - (mid+1)) Z A aW Ju Z hn (a:=mid+1) (b:=y) iv Z Z Z r5) ?_;rintro⟨u,M3,n3⟩ ⟨j1,⟨L,j2,⟨j3,j4⟩,j5⟩,j6,j7⟩;simp only at j1 j5 j6 j7;subst j1;obtain⟨t1,t2⟩:=r7 L j3 j4;refine dp cS dx ep e0 e1 e2 e3 ec e8 e9 ?_;exact⟨mid - x,Z,x,mid,iv,_,_,L,rfl,rfl,rfl,rfl,rfl,j5,bJ.trans j6 Z,Z,Z,Z,Z,rfl,j2,t1,fun R q1 q2=>let ⟨u1,u2⟩:=t2 R q1 q2;hG R (permIn_trans _ _ _ _ _ hP u1) u2⟩
end
end Go.Xs
namespace Go.Xs
noncomputable section
open Go.Proofs Go.Sort
theorem wv {α:Type} [Inhabited α] {l:List α} {d:Array α} {n:Nat} (hn:l.length=n) (hd:d.size=n) (h:PermIn 0 n l.toArray d):d.toList.Perm l:=by
 have h3:=h.2.2;have e1:d.extract 0 n=d:=by rw[<-hd];exact Array.extract_size
 have e2:l.toArray.extract 0 n=l.toArray:=by rw[<-hn,<-List.size_toArray];exact Array.extract_size
 rw[e1,e2]at h3;exact h3
theorem sc {α:Type} [Inhabited α] {lt:α->α->Bool} {R:α->α->Prop} {d:Array α} {n:Nat} (hd:d.size=n) (h:SortedIn lt 0 n d) (hR:∀x y,lt y x=false->R x y):d.toList.Pairwise R:=by
 rw[List.pairwise_iff_getElem];intro i j hi hj eS;have:=h i j Z eS (by simpa [hd] using hj);rw[getElem!_pos d j (by simpa using hj),getElem!_pos d i (by simpa using hi)]at this;exact hR _ _ this
theorem S5 (ρ:aK) (M:Hp) (nx:Nat):ar Tryz.prog ρ 144 [.nils,.int .i64 0,.int .i64 0] M nx (aG nx M (.tup [])):=by
 refine ar.walk (m:=49) (rs:=[]) follows Tryz.func144 U rfl rfl rfl ?_
 conv in W _ _ _ _ _ _ _=>arg 4;whnf
 have w:IntKind.i64.wrap (0+1)=1:=af;refine mI eC w ?_;refine aC (fun m s=>am s.env 6=some (.int .i64 1)/\am s.env 2=some (.int .i64 0)/\aq nx M s.M/\nx<=s.nx) 0 ?_ ?_
 ·refine bR eC ?_
  exact⟨aq.refl _ _,Z⟩
 ·rintro m ⟨env,M1,n1⟩ ⟨e6,e2,ha,hn⟩
  simp only at e6 e2 ha hn;have z:¬ (1:Int)<0:=af;refine mY eC e6 e2 z @aG.eq_1 ?_;exact⟨ha,Z⟩
theorem SU (ρ:aK) (M:Hp) (nx:Nat) (lim:Int):ar Tryz.prog ρ 107 [.nils,.int .i64 0,.int .i64 0,.int .i64 lim] M nx (aG nx M (.tup [])):=by
 refine ar.walk (m:=134) (rs:=[]) follows Tryz.func107 U rfl rfl rfl ?_
 conv in W _ _ _ _ _ _ _=>arg 4;whnf
 have w:IntKind.i64.wrap (0 - 0)=0:=af;have z:(0:Int)<=12:=af;refine bR cD ?_;refine aC (fun m s=>am s.env 0=some .nils/\am s.env 1=some (.int .i64 0)/\am s.env 2=some (.int .i64 0)/\aq nx M s.M/\nx<=s.nx) 0 ?_ ?_
 ·refine bR cD ?_
  exact⟨aq.refl _ _,Z⟩
 ·rintro m ⟨env,M1,n1⟩ ⟨e0,e1,e2,ha,hn⟩
  simp only at e0 e1 e2 ha hn;refine iC cD e0 e1 e2 w z ?_;refine an (S5 ρ _ _) ?_;rintro⟨u,M2,n2⟩ ⟨k1,k2,k3⟩;simp only at k1 k2 k3;subst k1;refine mI cD @aG.eq_1 ?_;exact⟨ha.trans (k2.le Z),Z⟩
theorem PY:kJ:=fun ρ M nx=>by
 refine ar.walk (m:=11) (rs:=[]) follows Tryz.func78 U rfl rfl rfl ?_
 conv in W _ _ _ _ _ _ _=>arg 4;whnf
 have hu:IntKind.u64.wrap 0=((0:Nat):Int):=af;refine mI wH hu ?_;refine an (U8 ρ _ _ 0 Z) ?_;rintro⟨u,M1,n1⟩ ⟨g1,g2,g3⟩;simp only at g1 g2 g3;subst g1;refine bR wH ?_;refine an (SU ρ _ _ _) ?_;rintro⟨u,M2,n2⟩ ⟨k1,k2,k3⟩;simp only at k1 k2 k3;subst k1;refine mI wH @aG.eq_1 ?_;exact⟨(g2.le Z).trans (k2.le Z),Z⟩
theorem O9:kL:=fun ρ M nx k xs hx h0 hk hM=>by
 obtain⟨n,hn⟩:∃n,n=xs.length:=⟨_,rfl⟩;rw[<-hn];have hu:IntKind.u64.wrap (n:Int)=(n:Int):=wrap_u64 Z Z;have aW:am M k=some (dQ xs.toArray):=hM;refine ar.walk (m:=11) (rs:=[]) follows Tryz.func78 U rfl rfl rfl ?_
 conv in W _ _ _ _ _ _ _=>arg 4;whnf
 refine mI wH hu ?_;refine an (U8 ρ _ _ n Z) ?_;rintro⟨u,M1,n1⟩ ⟨g1,g2,g3⟩;simp only at g1 g2 g3;subst g1;refine bR wH ?_;refine an (W5 ρ n (X4 k n) (d:=xs.toArray) ((g2 k Z).trans aW) (by simp[hn]) Z Z (a:=0) (b:=n) _ Z Z Z (Or.inl rfl)) ?_;rintro⟨u,M2,n2⟩ ⟨k1,⟨d',k2,⟨k3,k4⟩,k5⟩,k6,k7⟩;simp only at k1 k5 k6 k7;subst k1;refine bR wH ?_;refine⟨⟨d'.toList,wv hn.symm k2 k3,sc k2 k4 fun x y h=>?_,k5⟩,fun j hj cf=>(k6 j Z cf).trans (g2 j Z),Z⟩;simp only[ltInt,decide_eq_false_iff_not]at h;omega
theorem Pb:Ci:=fun ρ M nx k xs hx h0 hk hM=>by
 obtain⟨n,hn⟩:∃n,n=xs.length:=⟨_,rfl⟩;rw[<-hn];have hu:IntKind.u64.wrap (n:Int)=(n:Int):=wrap_u64 Z Z;have aW:am M k=some (dT xs.toArray):=hM;refine ar.walk (m:=14) (rs:=[]) follows Tryz.func39 U rfl rfl rfl ?_
 conv in W _ _ _ _ _ _ _=>arg 4;whnf
 refine mI G9 hu ?_;refine an (U8 ρ _ _ n Z) ?_;rintro⟨u,M1,n1⟩ ⟨g1,g2,g3⟩;simp only at g1 g2 g3;subst g1;refine bR G9 ?_;refine an (f68 ρ n (Yj k n) (d:=xs.toArray) ((g2 k Z).trans aW) (by simp[hn]) Z Z (a:=0) (b:=n) _ Z Z Z (Or.inl rfl)) ?_;rintro⟨u,M2,n2⟩ ⟨k1,⟨d',k2,⟨k3,k4⟩,k5⟩,k6,k7⟩;simp only at k1 k5 k6 k7;subst k1;refine bR G9 ?_;refine⟨⟨d'.toList,wv hn.symm k2 k3,sc k2 k4 fun x y h=>?_,k5⟩,fun j hj cf=>(k6 j Z cf).trans (g2 j Z),Z⟩;simp only[cL,decide_eq_false_iff_not]at h;omega
end
end Go.Xs
namespace Go.Xs
open Go.Proofs Go.RowKit
theorem names:(Tryz.prog.funcs.toList.all fun fn=>!(fn.name == "runtime.NumGoroutine"))=true:=U
theorem Ws:Extern.findNext Tryz.f223=none/\Extern.find Tryz.f223=some Extern.BytealgCount.count:=⟨U,U⟩
theorem Xj:Extern.findNext Tryz.f299=none/\Extern.find Tryz.f299=some Extern.BytealgIndexByte.indexByte:=⟨U,U⟩
theorem I2 (ρ:aK):Dt Tryz.prog ρ (KD 223 299) :=
 K7 ⟨_,Tryz.func223,U,mV names _ _ Tryz.func223,Ws⟩ ⟨_,Tryz.func299,U,mV names _ _ Tryz.func299,Xj⟩
theorem EE:WY (Ty Tryz.prog (fun _ _ _=>none) (KD 223 299) 100000 60 8 [] .nil 0)=true:=U
theorem SC (w:World):Calls Tryz.prog 8 #[] w fun e w'=>e = .returned (.bool true)/\Below w.heap.size w w' :=
 Es (args:=[]) (vs:=[]) (ρ:=⟨fun _=>0,fun _=>none,false⟩) (LH follows (mV names) (fun _ _ _ _ _ h=>by cases h) (I2 _) (fuel:=100000) 60) (nx:=0) (GU fun _ _ h=>by cases h) Fj (fun _ _=>rfl) EE (by simp only[bb]) Tryz.func8 (mV names _ _ Tryz.func8) U
theorem f8w (ρ:aK) (M:Hp) (n:Nat):ar Tryz.prog ρ 8 [] M n fun r=>r.1 = .bool true/\aq n M r.2.1:=by
 have h0:ft Tryz.prog ρ 8 [] M n fun r=>r=(.bool true,M,n):=fun w σ vs aQ aF aX o a K Q hK=>by
  obtain rfl:vs=[]:=by simpa only [bb] using aX
  exact Bp aQ Tryz.func8 (mV names _ _ Tryz.func8) U (SC w) (show VR ρ σ (.bool true) (.bool true) from by simp only[VR]) fun u w' q1 q2 q3=>hK u w' ⟨_,rfl,σ,q1,q2,q3,Nat.le_refl _,fun k=>.inl rfl⟩
 exact⟨h0.mono fun r e=>by subst e;exact⟨rfl,aq.refl _ _⟩,fun _ _=>⟨_,⟨rfl,aq.refl _ _⟩,h0⟩⟩
end Go.Xs
namespace Go.Xs
open Go.Proofs Go.RowKit
open Go.ChangeShapes Go.WideShapes Go.ChangeAt
variable {H:Type} {enc:TypeId×Value->H}
theorem GB {W:World} {base:Nat} {v:Value} (h:Cell.okWide Tryz.prog W .any base 23 v):∃n,v = .int .u64 n:=by
 simp only[Cell.okWide,Tryz.underlying23]at h;cases v<;>simp_all [Cell.ok]
theorem KA {W:World} {base:Nat} {v:Value} (h:Value.okWide Tryz.prog W .any base 25 v):∃w n,v = .agg #[.int .u64 w,.int .u64 n]:=by
 simp only[Value.okWide,Tryz.underlying25]at h;obtain⟨cs,rfl,dI,ts,hts,_,bA⟩:=h;obtain rfl:=Option.some.inj ((show Tryz.prog.cellTypes Tryz.prog.depth 25=some [23,23] by kernel_rfl).symm.trans hts);have cJ:cs.size=2:=dI.trans U;have get:∀i,i<2->∃n,cs[i]?=some (.int .u64 n):=by
  intro i hi;have hv:cs[i]?=some cs[i]:=Array.getElem?_eq_getElem Z;obtain⟨u,hu,hc⟩:=bA i _ hv;have:u=23:=by
   rcases i with _ | _ | i
   ·simpa using hu.symm
   ·simpa using hu.symm
   ·omega
  subst this;obtain⟨n,hn⟩:=GB hc;exact⟨n,by rw[hv,hn]⟩
 obtain⟨w,hw⟩:=get 0 Z;obtain⟨n,hn⟩:=get 1 Z;refine⟨w,n,?_⟩;congr 1;apply Array.ext
 ·exact cJ
 ·intro i h1 h2
  have h2:i<2:=by simpa using h2
  have e:cs[i]?=some cs[i]:=Array.getElem?_eq_getElem h1;rcases i with _ | _ | i
  ·exact Option.some.inj (e.symm.trans hw)
  ·exact Option.some.inj (e.symm.trans hn)
  ·omega
theorem orderTells_calls {W:World} {base:Nat} {v v1 v2 v3 v4:Value} {d d1 d2 d3 d4:DataW H} {p p1 p2 p3 p4:List MemPlace} (NP:∃(b:Nat) (us:Array Value) (t:TypeId) (fz:Nat×Nat),W.heap[b]?=some (.cells us t fz))
 (hk:Value.okWide Tryz.prog W .any base 22 v) (h:DataW.Trod enc Tryz.prog W 0 (fun _=>true) true 22 v d p)
 (k1:Value.okWide Tryz.prog W .any base 23 v1) (_:DataW.Trod enc Tryz.prog W 0 (fun _=>true) true 23 v1 d1 p1)
 (k2:Value.okWide Tryz.prog W .any base 25 v2) (_:DataW.Trod enc Tryz.prog W 0 (fun _=>true) true 25 v2 d2 p2)
 (k3:Value.okWide Tryz.prog W .any base 3 v3) (_:DataW.Trod enc Tryz.prog W 0 (fun _=>true) true 3 v3 d3 p3)
 (k4:Value.okWide Tryz.prog W .any base 3 v4) (_:DataW.Trod enc Tryz.prog W 0 (fun _=>true) true 3 v4 d4 p4) :
 Calls Tryz.prog 3 #[v,v1,v2,v3,v4] W fun e w'=>e = .returned (.bool true)/\Below W.heap.size W w':=by
 obtain⟨a,len,cap,rfl⟩:=okWide_slice Tryz.underlying22 hk;obtain⟨x1,rfl⟩:=okWide_int Tryz.underlying23 k1;obtain⟨w,m,rfl⟩:=KA k2;obtain⟨x3,rfl⟩:=okWide_int Tryz.underlying3 k3;obtain⟨x4,rfl⟩:=okWide_int Tryz.underlying3 k4;obtain⟨n,h⟩:=h;obtain⟨σ,M,nx,xs,g,_,hv,ht,hl⟩:=xE (ρ:=⟨fun _=>0,fun _=>none,false⟩) AB NP n 22 [.slice a len cap] ⟨_,h⟩ Vh .nil 0 (oS.start _ _ fun _=>rfl) af;have hl:xs.length=1:=hl.trans U;obtain⟨x,rfl⟩:∃x,xs=[x]:=by
  match xs,hl with
  | [x],_=>exact⟨x,rfl⟩
 obtain⟨L,h1,h2⟩:=J5 ht;refine Fq (vs:=[.slice a len cap,.int .u64 x1,.agg #[.int .u64 w,.int .u64 m],.int .i64 x3,.int .i64 x4]) g (f3 O9 PY Pb _ rfl h1 (Nat.le_refl _) h2 x1 w m x3 x4 fun M' n'=>f8w _ M' n') (fun r h=>h.1) ?_ Tryz.func3 U U;simp only[bb]at hv;obtain⟨u,us,e,hx,_⟩:=hv;cases e;simp only[bb];refine⟨_,_,rfl,hx,?_⟩;simp only[VR,bb];exact⟨_,_,rfl,rfl,_,_,rfl,⟨_,rfl,_,_,rfl,rfl,_,_,rfl,rfl,rfl⟩,_,_,rfl,rfl,_,_,rfl,rfl,rfl⟩
end Go.Xs
