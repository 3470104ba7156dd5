/- A part of the proof: the layers and contracts it rests on. -/
import Derived.Test.YtcibleglaghhfaaGreatDoorXsPB
import Derived.Test.YtcibleglaghhfaaGreatDoorXsPC
import Derived.Test.YtcibleglaghhfaaGreatDoorXsPE
import Derived.Test.YtcibleglaghhfaaGreatDoorProg
import Derived.WalkKit
import Derived.ProofKit
import Derived.OpenShut
import Derived.ChangeOld
set_option linter.all false
set_option linter.deprecated false
namespace Go.Xs
noncomputable section
open Go.Proofs Go.Sort
set_option maxRecDepth 100000
set_option maxHeartbeats 8000000
def InsQI (a b n:Nat) (R:Nat×Array Ins) (m i j:Nat) (d':Array Ins):Prop:=a<i/\i<=j+1/\j<b/\m=j+1 - i/\d'.size=n/\partLoop ltI a i j d'=R
theorem f101 (ρ:Rho) {M:Hp} {nx k n:Nat} {sv:XV} {off:Nat->Nat} (A:ArrI k n sv off) {d:Array Ins} (hM:tget M k=some (rwI d)) (hd:d.size=n) (hk:k<nx) (hn:n<=1000) {a b pivot:Nat} (hap:a<=pivot) (hpb:pivot<b) (hb:b<=n) :
 FOk Tryz.prog ρ 101 [sv,.int .i64 a,.int .i64 b,.int .i64 pivot,.fn (.func 40) [] []] M nx (ParI nx k M (.tup [.int .i64 ((partition ltI d a b pivot).1:Nat),.bool (partition ltI d a b pivot).2.1]) (partition ltI d a b pivot).2.2):=by
 obtain⟨R,hR⟩:∃R,R=partition ltI d a b pivot:=⟨_,rfl⟩
 rw[<-hR]
 obtain⟨d1,hd1e⟩:∃q,q=swp d a pivot:=⟨_,rfl⟩
 obtain⟨i,hi⟩:∃q,q=a+1:=⟨_,rfl⟩
 obtain⟨j,hj⟩:∃q,q=b - 1:=⟨_,rfl⟩
 obtain⟨i2,hi2⟩:∃q,q=scanUp (fun x=>ltI x d1[a]!) d1 j i:=⟨_,rfl⟩
 obtain⟨j2,hj2⟩:∃q,q=scanDown (fun x=>!ltI x d1[a]!) d1 i2 j:=⟨_,rfl⟩
 have hd1:d1.size=n:=by rw[hd1e,swp_size];exact hd
 obtain⟨b1,b2,b3,b4,b5⟩:=scans (fun x=>rfl) (by omega) (by omega) hi2 hj2
 have hR2:R=if i2>j2 then (j2,true,swp d1 j2 a) else ((partLoop ltI a (i2+1) (j2 - 1) (swp d1 i2 j2)).1,false,swp (partLoop ltI a (i2+1) (j2 - 1) (swp d1 i2 j2)).2 (partLoop ltI a (i2+1) (j2 - 1) (swp d1 i2 j2)).1 a):=by
  subst hj2;subst hi2;subst hd1e;subst hi;subst hj
  exact hR
 have hR2:=Is.mk hR2
 have w1:IntKind.i64.wrap ((a:Int)+1)=(i:Int):=by rw[wrap_i64 (by omega) (by omega)];omega
 have w2:IntKind.i64.wrap ((b:Int) - 1)=(j:Int):=by rw[wrap_i64 (by omega) (by omega)];omega
 have y1:=A.ix (a) (by omega)
 have y2:=A.ix (pivot) (by omega)
 have k1:=A.ld M d hM hd (a) (by omega)
 have k2:=A.ld M d hM hd (pivot) (by omega)
 have st1:=A.st M d hM hd (a) (by omega) d[pivot]!
 have st2:=A.st (tset M k (rwI (d.setIfInBounds (a) d[pivot]!))) _ (by(repeat (first | rw[tget_tset,if_pos rfl] | rw[tget_tset,if_neg (by omega)] | rw[tget_tdel,if_neg (by omega)]));try (first | rfl | assumption)) (by simp;omega) (pivot) (by omega) d[a]!
 have hM0:rwI ((d.setIfInBounds a d[pivot]!).setIfInBounds pivot d[a]!)=rwI d1:=by rw[hd1e];rfl
 have hi2:=Is.mk hi2
 have hj2:=Is.mk hj2
 have hR:=Is.mk hR
 have hd1e:=Is.mk hd1e
 refine FOk.walk (m:=178) (rs:=[.tmp 10,.tmp 11]) follows Tryz.func101 (by kernel_rfl) rfl rfl rfl ?_
 conv in W _ _ _ _ _ _ _=>arg 4;whnf
 refine xt9 gy80 w1 w2 y1 y2 k1 k2 st1 st2 ?_;try exact⟨⟩
 refine W_gen (fun s=>tget s.env 0=some sv/\tget s.env 1=some (.int .i64 a)/\tget s.env 4=some (.fn (.func 40) [] [])/\tget s.env 12=some (.int .i64 i)/\tget s.env 13=some (.int .i64 j)/\tget s.M k=some (rwI d1)/\Oth nx k M s.M/\nx<=s.nx) ?_ ?_
 ·refine xt2 gy80 hM0 ?_;try exact⟨⟩
  exact⟨((Oth.refl _ _ _).set _).set _,by omega⟩
 clear y1 y2 k1 k2 st1 st2 w1 w2 hM0 hR hd1e hM hd
 rintro⟨env,M1,n1⟩ ⟨e0,e1,ec,ei,ej,hM1,ho,hn1⟩
 simp only at e0 e1 ec ei ej hM1 ho hn1
 refine W_loop_cut (fun m2 s=>∃i':Nat,tget s.env 0=some sv/\tget s.env 1=some (.int .i64 a)/\tget s.env 4=some (.fn (.func 40) [] [])/\tget s.env 12=some (.int .i64 i')/\tget s.env 13=some (.int .i64 j)/\tget s.M k=some (rwI d1)/\Oth nx k M s.M/\nx<=s.nx/\ScU (fun x=>ltI x d1[a]!) d1 i j i' m2) (j+1 - i) (fun s=>tget s.env 0=some sv/\tget s.env 1=some (.int .i64 a)/\tget s.env 4=some (.fn (.func 40) [] [])/\tget s.env 12=some (.int .i64 i2)/\tget s.env 13=some (.int .i64 j)/\tget s.M k=some (rwI d1)/\Oth nx k M s.M/\nx<=s.nx) ⟨i,?_⟩ ?_ ?_
 ·refine xt6 gy80 ei ej e0 e1 ec ?_;try exact⟨⟩
  exact⟨hM1,ho,by omega,by omega,by omega,rfl,rfl⟩
 ·clear ei ej e0 e1 ec
  rintro m2 ⟨env,M2,n2⟩ ⟨i',e0,e1,ec,ei,ej,hM2,ho2,hn2,c1,c2,c3,c4⟩
  simp only at ei ej e0 e1 ec hM2 ho2 hn2
  have c4:=Is.mk c4
  by_cases hij:(i':Int)<=j
  ·have x1:=A.ix a (by omega)
   have x2:=A.ix i' (by omega)
   have l1:=A.ld M2 d1 hM2 hd1 a (by omega)
   have l2:=A.ld M2 d1 hM2 hd1 i' (by omega)
   have wi:=w_add1 (x:=i') (by omega)
   refine xt11 gy80 ei ej hij x1 x2 l1 l2 e0 e1 ec ?_;try exact⟨⟩
   refine RD_gcall ?_ rfl ?_
   ·refine xt1 gy80 ?_;try exact⟨⟩
   refine xt1 gy80 ?_;try exact⟨⟩
   refine CD_sem (Csem.pure rfl rfl fun N=>f40 ρ N _ _ _) (by decide) ?_
   cases hq:ltI d1[i']! d1[a]! with
   | true =>
     have hc:=cmpI_t hq
     have c5:scanUp (fun x=>ltI x d1[a]!) d1 j (i'+1)=scanUp (fun x=>ltI x d1[a]!) d1 j i:=by rw[<-c4.eq,scanUp_step (i:=i') (by omega) (by simp[hq])]
     have c5:=Is.mk c5
     refine xt8 gy80 ei ej hc wi e0 e1 ec ?_;try exact⟨⟩
     exact⟨j+1 - (i'+1),by omega,i'+1,rfl,hM2,ho2,by omega,by omega,by omega,rfl,c5.eq⟩
   | false =>
     have hc:=cmpI_f hq
     have c5:i'=i2:=by rw[hi2.eq,<-c4.eq,scanUp_stop (.inr (by simp[hq]))]
     have c6:=Is.mk c5
     clear c5
     refine xt7 gy80 ei ej hc e0 e1 ec ?_;try exact⟨⟩
     rw[c6.eq]
     exact⟨rfl,hM2,ho2,by omega⟩
  ·have c5:i'=i2:=by rw[hi2.eq,<-c4.eq,scanUp_stop (.inl (by omega))]
   have c6:=Is.mk c5
   clear c5
   refine xt7 gy80 ei ej hij e0 e1 ec ?_;try exact⟨⟩
   refine RD_gskip ?_ (by decide) ?_
   ·refine xt1 gy80 ?_;try exact⟨⟩
   refine xt7 gy80 ei ej hij e0 e1 ec ?_;try exact⟨⟩
   rw[c6.eq]
   exact⟨rfl,hM2,ho2,by omega⟩
 ·clear ei ej e0 e1 ec hM1 ho hn1
  rintro⟨env,M1,n1⟩ ⟨e0,e1,ec,ei,ej,hM1,ho,hn1⟩
  simp only at ei ej e0 e1 ec hM1 ho hn1
  refine xt6 gy80 ei ej e0 e1 ec ?_;try exact⟨⟩
  refine W_loop_cut (fun m2 s=>∃j':Nat,tget s.env 0=some sv/\tget s.env 1=some (.int .i64 a)/\tget s.env 4=some (.fn (.func 40) [] [])/\tget s.env 12=some (.int .i64 i2)/\tget s.env 13=some (.int .i64 j')/\tget s.M k=some (rwI d1)/\Oth nx k M s.M/\nx<=s.nx/\ScD (fun x=>!ltI x d1[a]!) d1 i2 j j' m2) j (fun s=>tget s.env 0=some sv/\tget s.env 1=some (.int .i64 a)/\tget s.env 4=some (.fn (.func 40) [] [])/\tget s.env 12=some (.int .i64 i2)/\tget s.env 13=some (.int .i64 j2)/\tget s.M k=some (rwI d1)/\Oth nx k M s.M/\nx<=s.nx) ⟨j,?_⟩ ?_ ?_
  ·refine xt6 gy80 ei ej e0 e1 ec ?_;try exact⟨⟩
   exact⟨hM1,ho,by omega,by omega,by omega,rfl,rfl⟩
  ·clear ei ej e0 e1 ec
   rintro m2 ⟨env,M2,n2⟩ ⟨j',e0,e1,ec,ei,ej,hM2,ho2,hn2,c1,c2,c3,c4⟩
   simp only at ei ej e0 e1 ec hM2 ho2 hn2
   have c4:=Is.mk c4
   by_cases hij:(i2:Int)<=j'
   ·obtain⟨j',rfl⟩:∃q,j'=q+1:=⟨j' - 1,by omega⟩
    have x1:=A.ix a (by omega)
    have x2:=A.ix (j'+1) (by omega)
    have l1:=A.ld M2 d1 hM2 hd1 a (by omega)
    have l2:=A.ld M2 d1 hM2 hd1 (j'+1) (by omega)
    have wj:=w_sub1' (x:=j') (by omega)
    refine xt11 gy80 ei ej hij x1 x2 l1 l2 e0 e1 ec ?_;try exact⟨⟩
    refine RD_gcall ?_ rfl ?_
    ·refine xt1 gy80 ?_;try exact⟨⟩
    refine xt1 gy80 ?_;try exact⟨⟩
    refine CD_sem (Csem.pure rfl rfl fun N=>f40 ρ N _ _ _) (by decide) ?_
    cases hq:ltI d1[j'+1]! d1[a]! with
    | false =>
      have hc:=cmpI_f hq
      have c5:scanDown (fun x=>!ltI x d1[a]!) d1 i2 j'=scanDown (fun x=>!ltI x d1[a]!) d1 i2 j:=by rw[<-c4.eq,scanDown_step (j:=j') (by omega) (by simp[hq])]
      have c5:=Is.mk c5
      refine xt8 gy80 ei ej hc wj e0 e1 ec ?_;try exact⟨⟩
      exact⟨j',by omega,j',rfl,hM2,ho2,by omega,by omega,by omega,rfl,c5.eq⟩
    | true =>
      have hc:=cmpI_t hq
      have c5:j'+1=j2:=by rw[hj2.eq,<-c4.eq,scanDown_stop (.inr (by simp[hq]))]
      have c6:=Is.mk c5
      clear c5
      refine xt7 gy80 ei ej hc e0 e1 ec ?_;try exact⟨⟩
      rw[c6.eq]
      exact⟨rfl,hM2,ho2,by omega⟩
   ·have c5:j'=j2:=by rw[hj2.eq,<-c4.eq,scanDown_stop (.inl (by omega))]
    have c6:=Is.mk c5
    clear c5
    refine xt7 gy80 ei ej hij e0 e1 ec ?_;try exact⟨⟩
    refine RD_gskip ?_ (by decide) ?_
    ·refine xt1 gy80 ?_;try exact⟨⟩
    refine xt7 gy80 ei ej hij e0 e1 ec ?_;try exact⟨⟩
    rw[c6.eq]
    exact⟨rfl,hM2,ho2,by omega⟩
  ·clear ei ej e0 e1 ec hM1 ho hn1
   rintro⟨env,M1,n1⟩ ⟨e0,e1,ec,ei,ej,hM1,ho,hn1⟩
   simp only at ei ej e0 e1 ec hM1 ho hn1
   have hR3:=hR2.eq
   by_cases hgt:(j2:Int)<i2
   ·rw[if_pos (by omega)]at hR3
    subst hR3
    clear hR2 hi2 hj2
    have y1:=A.ix (j2) (by omega)
    have y2:=A.ix (a) (by omega)
    have k1:=A.ld M1 d1 hM1 hd1 (j2) (by omega)
    have k2:=A.ld M1 d1 hM1 hd1 (a) (by omega)
    have st1:=A.st M1 d1 hM1 hd1 (j2) (by omega) d1[a]!
    have st2:=A.st (tset M1 k (rwI (d1.setIfInBounds (j2) d1[a]!))) _ (by(repeat (first | rw[tget_tset,if_pos rfl] | rw[tget_tset,if_neg (by omega)] | rw[tget_tdel,if_neg (by omega)]));try (first | rfl | assumption)) (by simp;omega) (a) (by omega) d1[j2]!
    refine xt14 gy80 ei ej hgt @ParI.eq_1 y1 y2 k1 k2 st1 st2 e0 e1 ec ?_;try exact⟨⟩
    exact⟨⟨rfl,(by rw[swp_size];omega)⟩,(ho.set _).set _,by omega⟩
   ·rw[if_neg (by omega)]at hR3
    obtain⟨Rr,hRr⟩:∃q,q=partLoop ltI a (i2+1) (j2 - 1) (swp d1 i2 j2):=⟨_,rfl⟩
    rw[<-hRr]at hR3
    have hR3:=Is.mk hR3
    have hRr:=Is.mk hRr
    clear hR2 hi2 hj2
    have b6:=b5 (by omega)
    have w1:=w_add1 (x:=i2) (by omega)
    have w2:=w_sub1 (x:=j2) (by omega) (by omega)
    have y1:=A.ix (i2) (by omega)
    have y2:=A.ix (j2) (by omega)
    have k1:=A.ld M1 d1 hM1 hd1 (i2) (by omega)
    have k2:=A.ld M1 d1 hM1 hd1 (j2) (by omega)
    have st1:=A.st M1 d1 hM1 hd1 (i2) (by omega) d1[j2]!
    have st2:=A.st (tset M1 k (rwI (d1.setIfInBounds (i2) d1[j2]!))) _ (by(repeat (first | rw[tget_tset,if_pos rfl] | rw[tget_tset,if_neg (by omega)] | rw[tget_tdel,if_neg (by omega)]));try (first | rfl | assumption)) (by simp;omega) (j2) (by omega) d1[i2]!
    refine xt15 gy80 ei ej hgt w1 w2 y1 y2 k1 k2 st1 st2 e0 e1 ec ?_;try exact⟨⟩
    refine W_loop (fun m s=>∃(i j:Nat) (d1:Array Ins),tget s.env 0=some sv/\tget s.env 1=some (.int .i64 a)/\tget s.env 4=some (.fn (.func 40) [] [])/\tget s.env 12=some (.int .i64 i)/\tget s.env 13=some (.int .i64 j)/\tget s.M k=some (rwI d1)/\Oth nx k M s.M/\nx<=s.nx/\InsQI a b n Rr m i j d1)
     (j2 - 1+1 - (i2+1)) ⟨i2+1,j2 - 1,swp d1 i2 j2,?_⟩ ?_
    ·refine xt4 gy80 e0 e1 ec ?_;try exact⟨⟩
     exact⟨rfl,((ho.set _).set _),by omega,by omega,by omega,by omega,rfl,(by rw[swp_size];exact hd1),hRr.eq.symm⟩
    ·clear y1 y2 k1 k2 st1 st2 w1 w2 hRr ei ej e0 e1 ec hM1 ho hn1 hgt b1 b2 b3 b4 b5 b6 hd1
     rintro m ⟨env,M1,n1⟩ ⟨i,j,d1,e0,e1,ec,ei,ej,hM1,ho,hn1,h1,h2,h4,h3,hd1,hI⟩
     simp only at e0 e1 ec ei ej hM1 ho hn1
     obtain⟨i2,hi2⟩:∃q,q=scanUp (fun x=>ltI x d1[a]!) d1 j i:=⟨_,rfl⟩
     obtain⟨j2,hj2⟩:∃q,q=scanDown (fun x=>!ltI x d1[a]!) d1 i2 j:=⟨_,rfl⟩
     obtain⟨b1,b2,b3,b4,b5⟩:=scans (fun x=>rfl) (by omega) h2 hi2 hj2
     rw[partLoop_eq,<-hi2,<-hj2]at hI
     have hI:=Is.mk hI
     have hi2:=Is.mk hi2
     have hj2:=Is.mk hj2
     refine xt6 gy80 ei ej e0 e1 ec ?_;try exact⟨⟩
     refine W_loop_cut (fun m2 s=>∃i':Nat,tget s.env 0=some sv/\tget s.env 1=some (.int .i64 a)/\tget s.env 4=some (.fn (.func 40) [] [])/\tget s.env 12=some (.int .i64 i')/\tget s.env 13=some (.int .i64 j)/\tget s.M k=some (rwI d1)/\Oth nx k M s.M/\nx<=s.nx/\ScU (fun x=>ltI x d1[a]!) d1 i j i' m2) (j+1 - i) (fun s=>tget s.env 0=some sv/\tget s.env 1=some (.int .i64 a)/\tget s.env 4=some (.fn (.func 40) [] [])/\tget s.env 12=some (.int .i64 i2)/\tget s.env 13=some (.int .i64 j)/\tget s.M k=some (rwI d1)/\Oth nx k M s.M/\nx<=s.nx) ⟨i,?_⟩ ?_ ?_
     ·refine xt6 gy80 ei ej e0 e1 ec ?_;try exact⟨⟩
      exact⟨hM1,ho,by omega,by omega,by omega,rfl,rfl⟩
     ·clear ei ej e0 e1 ec
      rintro m2 ⟨env,M2,n2⟩ ⟨i',e0,e1,ec,ei,ej,hM2,ho2,hn2,c1,c2,c3,c4⟩
      simp only at ei ej e0 e1 ec hM2 ho2 hn2
      have c4:=Is.mk c4
      by_cases hij:(i':Int)<=j
      ·have x1:=A.ix a (by omega)
       have x2:=A.ix i' (by omega)
       have l1:=A.ld M2 d1 hM2 hd1 a (by omega)
       have l2:=A.ld M2 d1 hM2 hd1 i' (by omega)
       have wi:=w_add1 (x:=i') (by omega)
       refine xt11 gy80 ei ej hij x1 x2 l1 l2 e0 e1 ec ?_;try exact⟨⟩
       refine RD_gcall ?_ rfl ?_
       ·refine xt1 gy80 ?_;try exact⟨⟩
       refine xt1 gy80 ?_;try exact⟨⟩
       refine CD_sem (Csem.pure rfl rfl fun N=>f40 ρ N _ _ _) (by decide) ?_
       cases hq:ltI d1[i']! d1[a]! with
       | true =>
         have hc:=cmpI_t hq
         have c5:scanUp (fun x=>ltI x d1[a]!) d1 j (i'+1)=scanUp (fun x=>ltI x d1[a]!) d1 j i:=by rw[<-c4.eq,scanUp_step (i:=i') (by omega) (by simp[hq])]
         have c5:=Is.mk c5
         refine xt8 gy80 ei ej hc wi e0 e1 ec ?_;try exact⟨⟩
         exact⟨j+1 - (i'+1),by omega,i'+1,rfl,hM2,ho2,by omega,by omega,by omega,rfl,c5.eq⟩
       | false =>
         have hc:=cmpI_f hq
         have c5:i'=i2:=by rw[hi2.eq,<-c4.eq,scanUp_stop (.inr (by simp[hq]))]
         have c6:=Is.mk c5
         clear c5
         refine xt7 gy80 ei ej hc e0 e1 ec ?_;try exact⟨⟩
         rw[c6.eq]
         exact⟨rfl,hM2,ho2,by omega⟩
      ·have c5:i'=i2:=by rw[hi2.eq,<-c4.eq,scanUp_stop (.inl (by omega))]
       have c6:=Is.mk c5
       clear c5
       refine xt7 gy80 ei ej hij e0 e1 ec ?_;try exact⟨⟩
       refine RD_gskip ?_ (by decide) ?_
       ·refine xt1 gy80 ?_;try exact⟨⟩
       refine xt7 gy80 ei ej hij e0 e1 ec ?_;try exact⟨⟩
       rw[c6.eq]
       exact⟨rfl,hM2,ho2,by omega⟩
     ·clear ei ej e0 e1 ec hM1 ho hn1
      rintro⟨env,M1,n1⟩ ⟨e0,e1,ec,ei,ej,hM1,ho,hn1⟩
      simp only at ei ej e0 e1 ec hM1 ho hn1
      refine xt6 gy80 ei ej e0 e1 ec ?_;try exact⟨⟩
      refine W_loop_cut (fun m2 s=>∃j':Nat,tget s.env 0=some sv/\tget s.env 1=some (.int .i64 a)/\tget s.env 4=some (.fn (.func 40) [] [])/\tget s.env 12=some (.int .i64 i2)/\tget s.env 13=some (.int .i64 j')/\tget s.M k=some (rwI d1)/\Oth nx k M s.M/\nx<=s.nx/\ScD (fun x=>!ltI x d1[a]!) d1 i2 j j' m2) j (fun s=>tget s.env 0=some sv/\tget s.env 1=some (.int .i64 a)/\tget s.env 4=some (.fn (.func 40) [] [])/\tget s.env 12=some (.int .i64 i2)/\tget s.env 13=some (.int .i64 j2)/\tget s.M k=some (rwI d1)/\Oth nx k M s.M/\nx<=s.nx) ⟨j,?_⟩ ?_ ?_
      ·refine xt6 gy80 ei ej e0 e1 ec ?_;try exact⟨⟩
       exact⟨hM1,ho,by omega,by omega,by omega,rfl,rfl⟩
      ·clear ei ej e0 e1 ec
       rintro m2 ⟨env,M2,n2⟩ ⟨j',e0,e1,ec,ei,ej,hM2,ho2,hn2,c1,c2,c3,c4⟩
       simp only at ei ej e0 e1 ec hM2 ho2 hn2
       have c4:=Is.mk c4
       by_cases hij:(i2:Int)<=j'
       ·obtain⟨j',rfl⟩:∃q,j'=q+1:=⟨j' - 1,by omega⟩
        have x1:=A.ix a (by omega)
        have x2:=A.ix (j'+1) (by omega)
        have l1:=A.ld M2 d1 hM2 hd1 a (by omega)
        have l2:=A.ld M2 d1 hM2 hd1 (j'+1) (by omega)
        have wj:=w_sub1' (x:=j') (by omega)
        refine xt11 gy80 ei ej hij x1 x2 l1 l2 e0 e1 ec ?_;try exact⟨⟩
        refine RD_gcall ?_ rfl ?_
        ·refine xt1 gy80 ?_;try exact⟨⟩
        refine xt1 gy80 ?_;try exact⟨⟩
        refine CD_sem (Csem.pure rfl rfl fun N=>f40 ρ N _ _ _) (by decide) ?_
        cases hq:ltI d1[j'+1]! d1[a]! with
        | false =>
          have hc:=cmpI_f hq
          have c5:scanDown (fun x=>!ltI x d1[a]!) d1 i2 j'=scanDown (fun x=>!ltI x d1[a]!) d1 i2 j:=by rw[<-c4.eq,scanDown_step (j:=j') (by omega) (by simp[hq])]
          have c5:=Is.mk c5
          refine xt8 gy80 ei ej hc wj e0 e1 ec ?_;try exact⟨⟩
          exact⟨j',by omega,j',rfl,hM2,ho2,by omega,by omega,by omega,rfl,c5.eq⟩
        | true =>
          have hc:=cmpI_t hq
          have c5:j'+1=j2:=by rw[hj2.eq,<-c4.eq,scanDown_stop (.inr (by simp[hq]))]
          have c6:=Is.mk c5
          clear c5
          refine xt7 gy80 ei ej hc e0 e1 ec ?_;try exact⟨⟩
          rw[c6.eq]
          exact⟨rfl,hM2,ho2,by omega⟩
       ·have c5:j'=j2:=by rw[hj2.eq,<-c4.eq,scanDown_stop (.inl (by omega))]
        have c6:=Is.mk c5
        clear c5
        refine xt7 gy80 ei ej hij e0 e1 ec ?_;try exact⟨⟩
        refine RD_gskip ?_ (by decide) ?_
        ·refine xt1 gy80 ?_;try exact⟨⟩
        refine xt7 gy80 ei ej hij e0 e1 ec ?_;try exact⟨⟩
        rw[c6.eq]
        exact⟨rfl,hM2,ho2,by omega⟩
      ·clear ei ej e0 e1 ec hM1 ho hn1
       rintro⟨env,M1,n1⟩ ⟨e0,e1,ec,ei,ej,hM1,ho,hn1⟩
       simp only at ei ej e0 e1 ec hM1 ho hn1
       by_cases hgt:(j2:Int)<i2
       ·have hI2:=hI.eq
        rw[if_pos (by omega)]at hI2
        have hR4:=hR3.eq
        rw[<-hI2]at hR4
        subst hR4
        clear hI hI2 hi2 hj2 hR3
        have y1:=A.ix (j2) (by omega)
        have y2:=A.ix (a) (by omega)
        have k1:=A.ld M1 d1 hM1 hd1 (j2) (by omega)
        have k2:=A.ld M1 d1 hM1 hd1 (a) (by omega)
        have st1:=A.st M1 d1 hM1 hd1 (j2) (by omega) d1[a]!
        have st2:=A.st (tset M1 k (rwI (d1.setIfInBounds (j2) d1[a]!))) _ (by(repeat (first | rw[tget_tset,if_pos rfl] | rw[tget_tset,if_neg (by omega)] | rw[tget_tdel,if_neg (by omega)]));try (first | rfl | assumption)) (by simp;omega) (a) (by omega) d1[j2]!
        refine xt14 gy80 ei ej hgt @ParI.eq_1 y1 y2 k1 k2 st1 st2 e0 e1 ec ?_;try exact⟨⟩
        exact⟨⟨rfl,(by rw[swp_size];omega)⟩,(ho.set _).set _,by omega⟩
       ·have hI2:=hI.eq
        rw[if_neg (by omega)]at hI2
        have hI2:=Is.mk hI2
        clear hI hi2 hj2
        have b6:=b5 (by omega)
        have w1:=w_add1 (x:=i2) (by omega)
        have w2:=w_sub1 (x:=j2) (by omega) (by omega)
        have y1:=A.ix (i2) (by omega)
        have y2:=A.ix (j2) (by omega)
        have k1:=A.ld M1 d1 hM1 hd1 (i2) (by omega)
        have k2:=A.ld M1 d1 hM1 hd1 (j2) (by omega)
        have st1:=A.st M1 d1 hM1 hd1 (i2) (by omega) d1[j2]!
        have st2:=A.st (tset M1 k (rwI (d1.setIfInBounds (i2) d1[j2]!))) _ (by(repeat (first | rw[tget_tset,if_pos rfl] | rw[tget_tset,if_neg (by omega)] | rw[tget_tdel,if_neg (by omega)]));try (first | rfl | assumption)) (by simp;omega) (j2) (by omega) d1[i2]!
        refine xt15 gy80 ei ej hgt w1 w2 y1 y2 k1 k2 st1 st2 e0 e1 ec ?_;try exact⟨⟩
        exact⟨j2 - 1+1 - (i2+1),by omega,i2+1,j2 - 1,swp d1 i2 j2,rfl,rfl,rfl,((ho.set _).set _),by omega,by omega,by omega,by omega,rfl,(by rw[swp_size];exact hd1),hI2.eq⟩
end
end Go.Xs
namespace Go.Xs
noncomputable section
open Go.Proofs Go.Sort
set_option maxRecDepth 100000
set_option maxHeartbeats 8000000
def InsTI (a b n:Nat) (R:Array Ins×Bool) (m jj i:Nat) (d':Array Ins):Prop:=a<i/\i<=b/\jj<=5/\m=5 - jj/\d'.size=n/\partialIns ltI a b (5 - jj) i d'=R
theorem f99 (ρ:Rho) {M:Hp} {nx k n:Nat} {sv:XV} {off:Nat->Nat} (A:ArrI k n sv off) {d:Array Ins} (hM:tget M k=some (rwI d)) (hd:d.size=n) (hk:k<nx) (hn:n<=1000) {a b:Nat} (hab:a<b) (hb:b<=n) :
 FOk Tryz.prog ρ 99 [sv,.int .i64 a,.int .i64 b,.fn (.func 40) [] []] M nx (ParI nx k M (.bool (partialInsertionSort ltI d a b).2) (partialInsertionSort ltI d a b).1):=by
 obtain⟨R,hR⟩:∃R,R=partialInsertionSort ltI d a b:=⟨_,rfl⟩
 rw[<-hR]
 have hR:=Is.mk hR
 have w1:=w_add1 (x:=a) (by omega)
 refine FOk.walk (m:=141) (rs:=[.tmp 8]) follows Tryz.func99 (by kernel_rfl) rfl rfl rfl ?_
 conv in W _ _ _ _ _ _ _=>arg 4;whnf
 refine xt2 gy80 w1 ?_;try exact⟨⟩
 refine W_loop (fun m s=>∃(jj i:Nat) (d1:Array Ins),tget s.env 0=some sv/\tget s.env 1=some (.int .i64 a)/\tget s.env 2=some (.int .i64 b)/\tget s.env 3=some (.fn (.func 40) [] [])/\tget s.env 9=some (.int .i64 i)/\tget s.env 10=some (.int .i64 jj)/\tget s.M k=some (rwI d1)/\Oth nx k M s.M/\nx<=s.nx/\InsTI a b n R m jj i d1)
  5 ⟨0,a+1,d,?_⟩ ?_
 ·refine xt1 gy80 ?_;try exact⟨⟩
  have hR':=hR.eq.symm
  (repeat' (apply And.intro))<;>first | assumption | rfl | omega | exact Oth.refl _ _ _ | exact Oth.set (Oth.set ho _) _ | (rw[swp_size];assumption) | exact congrArg _ (by omega)
 ·clear w1 hR hM hd
  rintro m ⟨env,M1,n1⟩ ⟨jj,i,d1,e0,e1,e2,ec,ei,ej,hM1,ho,hn1,h1,h2,h4,h3,hd1,hI⟩
  simp only at e0 e1 e2 ec ei ej hM1 ho hn1
  by_cases h5:(jj:Int)<5
  ·obtain⟨i2,hi2⟩:∃q,q=scanSorted ltI d1 b i:=⟨_,rfl⟩
   obtain⟨b1,b2⟩:=scanSorted_bd ltI d1 b _ i rfl h2
   rw[<-hi2]at b1 b2
   rw[show 5 - jj=(5 - (jj+1))+1 by omega,partialIns_succ,<-hi2]at hI
   have hI:=Is.mk hI
   have hi2:=Is.mk hi2
   have wjj:=w_add1 (x:=jj) (by omega)
   refine xt8 gy80 ei ej h5 e0 e1 e2 ec ?_;try exact⟨⟩
   refine W_loop_cut (fun m2 s=>∃i':Nat,tget s.env 0=some sv/\tget s.env 1=some (.int .i64 a)/\tget s.env 2=some (.int .i64 b)/\tget s.env 3=some (.fn (.func 40) [] [])/\tget s.env 9=some (.int .i64 i')/\tget s.env 10=some (.int .i64 jj)/\tget s.M k=some (rwI d1)/\Oth nx k M s.M/\nx<=s.nx/\ScS ltI d1 b i i' m2) (b - i)
    (fun s=>tget s.env 0=some sv/\tget s.env 1=some (.int .i64 a)/\tget s.env 2=some (.int .i64 b)/\tget s.env 3=some (.fn (.func 40) [] [])/\tget s.env 9=some (.int .i64 i2)/\tget s.env 10=some (.int .i64 jj)/\tget s.M k=some (rwI d1)/\Oth nx k M s.M/\nx<=s.nx) ⟨i,?_⟩ ?_ ?_
   ·refine xt7 gy80 ei ej e0 e1 e2 ec ?_;try exact⟨⟩
    exact⟨hM1,ho,by omega,by omega,by omega,rfl,rfl⟩
   ·clear ei ej e0 e1 e2 ec
    rintro m2 ⟨env,M2,n2⟩ ⟨i',e0,e1,e2,ec,ei,ej,hM2,ho2,hn2,c1,c2,c3,c4⟩
    simp only at ei ej e0 e1 e2 ec hM2 ho2 hn2
    have c4:=Is.mk c4
    by_cases hij:(i':Int)<b
    ·have x1:=A.ix i' (by omega)
     have x2:=A.ix (i' - 1) (by omega)
     have l1:=A.ld M2 d1 hM2 hd1 i' (by omega)
     have l2:=A.ld M2 d1 hM2 hd1 (i' - 1) (by omega)
     have wi:=w_add1 (x:=i') (by omega)
     have wm:=w_sub1 (x:=i') (by omega) (by omega)
     refine xt13 gy80 ei ej hij wm x1 x2 l1 l2 e0 e1 e2 ec ?_;try exact⟨⟩
     refine RD_gcall ?_ rfl ?_
     ·refine xt1 gy80 ?_;try exact⟨⟩
     refine xt1 gy80 ?_;try exact⟨⟩
     refine CD_sem (Csem.pure rfl rfl fun N=>f40 ρ N _ _ _) (by decide) ?_
     cases hq:ltI d1[i']! d1[i' - 1]! with
     | false =>
       have hc:=cmpI_f hq
       have c5:scanSorted ltI d1 b (i'+1)=scanSorted ltI d1 b i:=by rw[<-c4.eq,scanSorted_step (i:=i') (by omega) hq]
       have c5:=Is.mk c5
       refine xt9 gy80 ei ej hc wi e0 e1 e2 ec ?_;try exact⟨⟩
       exact⟨b - (i'+1),by omega,i'+1,rfl,hM2,ho2,by omega,by omega,by omega,rfl,c5.eq⟩
     | true =>
       have hc:=cmpI_t hq
       have c5:i'=i2:=by rw[hi2.eq,<-c4.eq,scanSorted_stop (.inr hq)]
       have c6:=Is.mk c5
       clear c5
       refine xt8 gy80 ei ej hc e0 e1 e2 ec ?_;try exact⟨⟩
       rw[c6.eq]
       exact⟨rfl,hM2,ho2,by omega⟩
    ·have c5:i'=i2:=by rw[hi2.eq,<-c4.eq,scanSorted_stop (.inl (by omega))]
     have c6:=Is.mk c5
     clear c5
     refine xt8 gy80 ei ej hij e0 e1 e2 ec ?_;try exact⟨⟩
     refine RD_gskip ?_ (by decide) ?_
     ·refine xt1 gy80 ?_;try exact⟨⟩
     refine xt8 gy80 ei ej hij e0 e1 e2 ec ?_;try exact⟨⟩
     rw[c6.eq]
     exact⟨rfl,hM2,ho2,by omega⟩
   ·clear ei ej e0 e1 e2 ec hM1 ho hn1
    rintro⟨env,M1,n1⟩ ⟨e0,e1,e2,ec,ei,ej,hM1,ho,hn1⟩
    simp only at ei ej e0 e1 e2 ec hM1 ho hn1
    by_cases hib:i2=b
    ·have hI2:=hI.eq
     rw[if_pos hib]at hI2
     subst hI2
     have hib2:(i2:Int)=(b:Int):=by omega
     clear hI hi2
     refine xt10 gy80 ei ej hib hib2 @ParI.eq_1 e0 e1 e2 ec ?_;try exact⟨⟩
     exact⟨⟨hM1,by omega⟩,ho,by omega⟩
    ·have hI2:=hI.eq
     rw[if_neg hib]at hI2
     have hib2:¬ (i2:Int)=(b:Int):=by omega
     have wba:=w_sub (x:=b) (y:=a) (by omega) (by omega)
     by_cases h50:((b - a:Nat):Int)<50
     ·rw[if_pos (by omega)]at hI2
      subst hI2
      clear hI hi2
      refine xt12 gy80 ei ej hib hib2 wba h50 @ParI.eq_1 e0 e1 e2 ec ?_;try exact⟨⟩
      exact⟨⟨hM1,by omega⟩,ho,by omega⟩
     ·rw[if_neg (by omega)]at hI2
      obtain⟨d3,hd3⟩:∃q,q=fixDown ltI a i2 (swp d1 i2 (i2 - 1)):=⟨_,rfl⟩
      rw[<-hd3]at hI2
      obtain⟨d4,hd4⟩:∃q,q=fixUp ltI b i2 d3:=⟨_,rfl⟩
      rw[<-hd4]at hI2
      have hI3:=Is.mk hI2
      have s3:d3.size=n:=by
       rw[hd3];unfold fixDown;split
       ·exact shiftDown_size _ _ _ (by rw[swp_size];exact hd1)
       ·rw[swp_size];exact hd1
      have s4:d4.size=n:=by
       rw[hd4];unfold fixUp;split
       ·exact shiftUp_size _ _ _ _ _ rfl s3
       ·exact s3
      unfold fixDown at hd3
      unfold fixUp at hd4
      clear hI hI2 hi2
      have wia:=w_sub (x:=i2) (y:=a) (by omega) (by omega)
      have wbi:=w_sub (x:=b) (y:=i2) (by omega) (by omega)
      have wi1:=w_sub1 (x:=i2) (by omega) (by omega)
      have wi2:=w_add1 (x:=i2) (by omega)
      have y1:=A.ix (i2) (by omega)
      have y2:=A.ix (i2 - 1) (by omega)
      have k1:=A.ld M1 d1 hM1 hd1 (i2) (by omega)
      have k2:=A.ld M1 d1 hM1 hd1 (i2 - 1) (by omega)
      have st1:=A.st M1 d1 hM1 hd1 (i2) (by omega) d1[i2 - 1]!
      have st2:=A.st (tset M1 k (rwI (d1.setIfInBounds (i2) d1[i2 - 1]!))) _ (by(repeat (first | rw[tget_tset,if_pos rfl] | rw[tget_tset,if_neg (by omega)] | rw[tget_tdel,if_neg (by omega)]));try (first | rfl | assumption)) (by simp;omega) (i2 - 1) (by omega) d1[i2]!
      by_cases q2:(2:Int)<=((i2 - a:Nat):Int)
      ·rw[if_pos (by omega)]at hd3
       have hd3:=Is.mk hd3
       by_cases q3:(2:Int)<=((b - i2:Nat):Int)
       ·rw[if_pos (by omega)]at hd4
        have hd4:=Is.mk hd4
        refine xt20 gy80 ei ej hib hib2 wba h50 wia q2 wi1 y1 y2 k1 k2 st1 st2 e0 e1 e2 ec ?_;try exact⟨⟩
        clear y1 y2 k1 k2 st1 st2
        refine W_loop_cut (fun m2 s=>∃(j':Nat) (d':Array Ins),tget s.env 0=some sv/\tget s.env 1=some (.int .i64 a)/\tget s.env 2=some (.int .i64 b)/\tget s.env 3=some (.fn (.func 40) [] [])/\tget s.env 9=some (.int .i64 i2)/\tget s.env 10=some (.int .i64 jj)/\tget s.env 11=some (.int .i64 j')/\tget s.M k=some (rwI d')/\Oth nx k M s.M/\nx<=s.nx/\ShD ltI n i2 d3 j' m2 d') (i2 - 1)
         (fun s=>tget s.env 0=some sv/\tget s.env 1=some (.int .i64 a)/\tget s.env 2=some (.int .i64 b)/\tget s.env 3=some (.fn (.func 40) [] [])/\tget s.env 9=some (.int .i64 i2)/\tget s.env 10=some (.int .i64 jj)/\tget s.M k=some (rwI d3)/\Oth nx k M s.M/\nx<=s.nx) ⟨i2 - 1,swp d1 i2 (i2 - 1),?_⟩ ?_ ?_
        ·refine xt7 gy80 ei ej e0 e1 e2 ec ?_;try exact⟨⟩
         have hd3':=hd3.eq.symm
         (repeat' (apply And.intro))<;>first | assumption | rfl | omega | exact Oth.refl _ _ _ | exact Oth.set (Oth.set ho _) _ | (rw[swp_size];assumption) | exact congrArg _ (by omega)
        ·clear ei ej e0 e1 e2 ec hM1 hn1
         rintro m2 ⟨env,M2,n2⟩ ⟨j',d2,e0,e1,e2,ec,ei,ej,e9,hM2,ho2,hn2,c1,c2,c3,c4⟩
         simp only at ei ej e9 e0 e1 e2 ec hM2 ho2 hn2
         by_cases hj1:(1:Int)<=j'
         ·obtain⟨j',rfl⟩:∃q,j'=q+1:=⟨j' - 1,by omega⟩
          have c4:=Is.mk c4
          have wj:=w_sub1' (x:=j') (by omega)
          have y1:=A.ix (j'+1) (by omega)
          have y2:=A.ix (j') (by omega)
          have k1:=A.ld M2 d2 hM2 c3 (j'+1) (by omega)
          have k2:=A.ld M2 d2 hM2 c3 (j') (by omega)
          have st1:=A.st M2 d2 hM2 c3 (j'+1) (by omega) d2[j']!
          have st2:=A.st (tset M2 k (rwI (d2.setIfInBounds (j'+1) d2[j']!))) _ (by(repeat (first | rw[tget_tset,if_pos rfl] | rw[tget_tset,if_neg (by omega)] | rw[tget_tdel,if_neg (by omega)]));try (first | rfl | assumption)) (by simp;omega) (j') (by omega) d2[j'+1]!
          refine xt14 gy80 ei ej e9 hj1 wj y1 y2 k1 k2 e0 e1 e2 ec ?_;try exact⟨⟩
          refine CD_sem (Csem.pure rfl rfl fun N=>f40 ρ N _ _ _) (by decide) ?_
          cases hq:ltI d2[j'+1]! d2[j']! with
          | true =>
            have hc:=cmpI_t hq
            have c5:shiftDown ltI j' (swp d2 (j'+1) j')=d3:=by rw[<-c4.eq,shiftDown,hq];rfl
            have c5:=Is.mk c5
            refine xt16 gy80 ei ej e9 hc wj y1 y2 k1 k2 st1 st2 e0 e1 e2 ec ?_;try exact⟨⟩
            exact⟨j',by omega,j',swp d2 (j'+1) j',rfl,rfl,((ho2.set _).set _),by omega,by omega,rfl,(by rw[swp_size];exact c3),c5.eq⟩
          | false =>
            have hc:=cmpI_f hq
            have c5:d2=d3:=by rw[<-c4.eq,shiftDown,hq];rfl
            have c5:=Is.mk c5
            clear c4
            refine xt9 gy80 ei ej e9 hc e0 e1 e2 ec ?_;try exact⟨⟩
            rw[<-c5.eq]
            exact⟨hM2,ho2,by omega⟩
         ·have c5:d2=d3:=by rw[<-c4,show j'=0 by omega];rfl
          have c5:=Is.mk c5
          clear c4
          refine xt9 gy80 ei ej e9 hj1 e0 e1 e2 ec ?_;try exact⟨⟩
          rw[<-c5.eq]
          exact⟨hM2,ho2,by omega⟩
        ·clear ei ej e0 e1 e2 ec hM1 ho hn1 hd1
         rintro⟨env,M1,n1⟩ ⟨e0,e1,e2,ec,ei,ej,hM1,ho,hn1⟩
         simp only at ei ej e0 e1 e2 ec hM1 ho hn1
         refine xt10 gy80 ei ej wbi q3 wi2 e0 e1 e2 ec ?_;try exact⟨⟩
         refine W_loop_cut (fun m2 s=>∃(j':Nat) (d':Array Ins),tget s.env 0=some sv/\tget s.env 1=some (.int .i64 a)/\tget s.env 2=some (.int .i64 b)/\tget s.env 3=some (.fn (.func 40) [] [])/\tget s.env 9=some (.int .i64 i2)/\tget s.env 10=some (.int .i64 jj)/\tget s.env 12=some (.int .i64 j')/\tget s.M k=some (rwI d')/\Oth nx k M s.M/\nx<=s.nx/\ShU ltI n b i2 d4 j' m2 d') (b - (i2+1))
          (fun s=>tget s.env 0=some sv/\tget s.env 1=some (.int .i64 a)/\tget s.env 2=some (.int .i64 b)/\tget s.env 3=some (.fn (.func 40) [] [])/\tget s.env 9=some (.int .i64 i2)/\tget s.env 10=some (.int .i64 jj)/\tget s.M k=some (rwI d4)/\Oth nx k M s.M/\nx<=s.nx) ⟨i2+1,d3,?_⟩ ?_ ?_
         ·refine xt7 gy80 ei ej e0 e1 e2 ec ?_;try exact⟨⟩
          have hd4':=hd4.eq.symm
          (repeat' (apply And.intro))<;>first | assumption | rfl | omega | exact Oth.refl _ _ _ | exact Oth.set (Oth.set ho _) _ | (rw[swp_size];assumption) | exact congrArg _ (by omega)
         ·clear ei ej e0 e1 e2 ec hM1 hn1
          rintro m2 ⟨env,M2,n2⟩ ⟨j',d2,e0,e1,e2,ec,ei,ej,e9,hM2,ho2,hn2,c0,c1,c2,c3,c4⟩
          simp only at ei ej e9 e0 e1 e2 ec hM2 ho2 hn2
          by_cases hj1:(j':Int)<b
          ·have c4:=Is.mk c4
           have wj:=w_sub1 (x:=j') (by omega) (by omega)
           have wj1:=w_add1 (x:=j') (by omega)
           have y1:=A.ix (j') (by omega)
           have y2:=A.ix (j' - 1) (by omega)
           have k1:=A.ld M2 d2 hM2 c3 (j') (by omega)
           have k2:=A.ld M2 d2 hM2 c3 (j' - 1) (by omega)
           have st1:=A.st M2 d2 hM2 c3 (j') (by omega) d2[j' - 1]!
           have st2:=A.st (tset M2 k (rwI (d2.setIfInBounds (j') d2[j' - 1]!))) _ (by(repeat (first | rw[tget_tset,if_pos rfl] | rw[tget_tset,if_neg (by omega)] | rw[tget_tdel,if_neg (by omega)]));try (first | rfl | assumption)) (by simp;omega) (j' - 1) (by omega) d2[j']!
           refine xt14 gy80 ei ej e9 hj1 wj y1 y2 k1 k2 e0 e1 e2 ec ?_;try exact⟨⟩
           refine CD_sem (Csem.pure rfl rfl fun N=>f40 ρ N _ _ _) (by decide) ?_
           cases hq:ltI d2[j']! d2[j' - 1]! with
           | true =>
             have hc:=cmpI_t hq
             have c5:shiftUp ltI b (j'+1) (swp d2 j' (j' - 1))=d4:=by rw[<-c4.eq,shiftUp_step (j:=j') (d:=d2) (by omega) hq]
             have c5:=Is.mk c5
             refine xt17 gy80 ei ej e9 hc wj wj1 y1 y2 k1 k2 st1 st2 e0 e1 e2 ec ?_;try exact⟨⟩
             exact⟨b - (j'+1),by omega,j'+1,swp d2 j' (j' - 1),rfl,rfl,((ho2.set _).set _),by omega,by omega,by omega,rfl,(by rw[swp_size];exact c3),c5.eq⟩
           | false =>
             have hc:=cmpI_f hq
             have c5:d2=d4:=by rw[<-c4.eq,shiftUp,if_pos (by omega),hq];rfl
             have c5:=Is.mk c5
             clear c4
             refine xt9 gy80 ei ej e9 hc e0 e1 e2 ec ?_;try exact⟨⟩
             rw[<-c5.eq]
             exact⟨hM2,ho2,by omega⟩
          ·have c5:d2=d4:=by rw[<-c4,shiftUp,if_neg (by omega)]
           have c5:=Is.mk c5
           clear c4
           refine xt9 gy80 ei ej e9 hj1 e0 e1 e2 ec ?_;try exact⟨⟩
           rw[<-c5.eq]
           exact⟨hM2,ho2,by omega⟩
         ·clear ei ej e0 e1 e2 ec hM1 ho hn1
          rintro⟨env,M1,n1⟩ ⟨e0,e1,e2,ec,ei,ej,hM1,ho,hn1⟩
          simp only at ei ej e0 e1 e2 ec hM1 ho hn1
          refine xt8 gy80 ei ej wjj e0 e1 e2 ec ?_;try exact⟨⟩
          exact⟨5 - (jj+1),by omega,jj+1,i2,d4,rfl,rfl,hM1,ho,by omega,by omega,by omega,by omega,rfl,s4,hI3.eq⟩
       ·rw[if_neg (by omega)]at hd4
        have hd4:=Is.mk hd4
        refine xt20 gy80 ei ej hib hib2 wba h50 wia q2 wi1 y1 y2 k1 k2 st1 st2 e0 e1 e2 ec ?_;try exact⟨⟩
        clear y1 y2 k1 k2 st1 st2
        refine W_loop_cut (fun m2 s=>∃(j':Nat) (d':Array Ins),tget s.env 0=some sv/\tget s.env 1=some (.int .i64 a)/\tget s.env 2=some (.int .i64 b)/\tget s.env 3=some (.fn (.func 40) [] [])/\tget s.env 9=some (.int .i64 i2)/\tget s.env 10=some (.int .i64 jj)/\tget s.env 11=some (.int .i64 j')/\tget s.M k=some (rwI d')/\Oth nx k M s.M/\nx<=s.nx/\ShD ltI n i2 d3 j' m2 d') (i2 - 1)
         (fun s=>tget s.env 0=some sv/\tget s.env 1=some (.int .i64 a)/\tget s.env 2=some (.int .i64 b)/\tget s.env 3=some (.fn (.func 40) [] [])/\tget s.env 9=some (.int .i64 i2)/\tget s.env 10=some (.int .i64 jj)/\tget s.M k=some (rwI d3)/\Oth nx k M s.M/\nx<=s.nx) ⟨i2 - 1,swp d1 i2 (i2 - 1),?_⟩ ?_ ?_
        ·refine xt7 gy80 ei ej e0 e1 e2 ec ?_;try exact⟨⟩
         have hd3':=hd3.eq.symm
         (repeat' (apply And.intro))<;>first | assumption | rfl | omega | exact Oth.refl _ _ _ | exact Oth.set (Oth.set ho _) _ | (rw[swp_size];assumption) | exact congrArg _ (by omega)
        ·clear ei ej e0 e1 e2 ec hM1 hn1
         rintro m2 ⟨env,M2,n2⟩ ⟨j',d2,e0,e1,e2,ec,ei,ej,e9,hM2,ho2,hn2,c1,c2,c3,c4⟩
         simp only at ei ej e9 e0 e1 e2 ec hM2 ho2 hn2
         by_cases hj1:(1:Int)<=j'
         ·obtain⟨j',rfl⟩:∃q,j'=q+1:=⟨j' - 1,by omega⟩
          have c4:=Is.mk c4
          have wj:=w_sub1' (x:=j') (by omega)
          have y1:=A.ix (j'+1) (by omega)
          have y2:=A.ix (j') (by omega)
          have k1:=A.ld M2 d2 hM2 c3 (j'+1) (by omega)
          have k2:=A.ld M2 d2 hM2 c3 (j') (by omega)
          have st1:=A.st M2 d2 hM2 c3 (j'+1) (by omega) d2[j']!
          have st2:=A.st (tset M2 k (rwI (d2.setIfInBounds (j'+1) d2[j']!))) _ (by(repeat (first | rw[tget_tset,if_pos rfl] | rw[tget_tset,if_neg (by omega)] | rw[tget_tdel,if_neg (by omega)]));try (first | rfl | assumption)) (by simp;omega) (j') (by omega) d2[j'+1]!
          refine xt14 gy80 ei ej e9 hj1 wj y1 y2 k1 k2 e0 e1 e2 ec ?_;try exact⟨⟩
          refine CD_sem (Csem.pure rfl rfl fun N=>f40 ρ N _ _ _) (by decide) ?_
          cases hq:ltI d2[j'+1]! d2[j']! with
          | true =>
            have hc:=cmpI_t hq
            have c5:shiftDown ltI j' (swp d2 (j'+1) j')=d3:=by rw[<-c4.eq,shiftDown,hq];rfl
            have c5:=Is.mk c5
            refine xt16 gy80 ei ej e9 hc wj y1 y2 k1 k2 st1 st2 e0 e1 e2 ec ?_;try exact⟨⟩
            exact⟨j',by omega,j',swp d2 (j'+1) j',rfl,rfl,((ho2.set _).set _),by omega,by omega,rfl,(by rw[swp_size];exact c3),c5.eq⟩
          | false =>
            have hc:=cmpI_f hq
            have c5:d2=d3:=by rw[<-c4.eq,shiftDown,hq];rfl
            have c5:=Is.mk c5
            clear c4
            refine xt9 gy80 ei ej e9 hc e0 e1 e2 ec ?_;try exact⟨⟩
            rw[<-c5.eq]
            exact⟨hM2,ho2,by omega⟩
         ·have c5:d2=d3:=by rw[<-c4,show j'=0 by omega];rfl
          have c5:=Is.mk c5
          clear c4
          refine xt9 gy80 ei ej e9 hj1 e0 e1 e2 ec ?_;try exact⟨⟩
          rw[<-c5.eq]
          exact⟨hM2,ho2,by omega⟩
        ·clear ei ej e0 e1 e2 ec hM1 ho hn1 hd1
         rintro⟨env,M1,n1⟩ ⟨e0,e1,e2,ec,ei,ej,hM1,ho,hn1⟩
         simp only at ei ej e0 e1 e2 ec hM1 ho hn1
         refine xt10 gy80 ei ej wbi q3 wjj e0 e1 e2 ec ?_;try exact⟨⟩
         exact⟨5 - (jj+1),by omega,jj+1,i2,d4,rfl,rfl,by rw[hd4.eq];exact hM1,ho,by omega,by omega,by omega,by omega,rfl,s4,hI3.eq⟩
      ·rw[if_neg (by omega)]at hd3
       have hd3:=Is.mk hd3
       by_cases q3:(2:Int)<=((b - i2:Nat):Int)
       ·rw[if_pos (by omega),hd3.eq]at hd4
        have hd4:=Is.mk hd4
        refine xt23 gy80 ei ej hib hib2 wba h50 wia q2 wi1 wbi q3 wi2 y1 y2 k1 k2 st1 st2 e0 e1 e2 ec ?_;try exact⟨⟩
        clear y1 y2 k1 k2 st1 st2
        refine W_loop_cut (fun m2 s=>∃(j':Nat) (d':Array Ins),tget s.env 0=some sv/\tget s.env 1=some (.int .i64 a)/\tget s.env 2=some (.int .i64 b)/\tget s.env 3=some (.fn (.func 40) [] [])/\tget s.env 9=some (.int .i64 i2)/\tget s.env 10=some (.int .i64 jj)/\tget s.env 12=some (.int .i64 j')/\tget s.M k=some (rwI d')/\Oth nx k M s.M/\nx<=s.nx/\ShU ltI n b i2 d4 j' m2 d') (b - (i2+1))
         (fun s=>tget s.env 0=some sv/\tget s.env 1=some (.int .i64 a)/\tget s.env 2=some (.int .i64 b)/\tget s.env 3=some (.fn (.func 40) [] [])/\tget s.env 9=some (.int .i64 i2)/\tget s.env 10=some (.int .i64 jj)/\tget s.M k=some (rwI d4)/\Oth nx k M s.M/\nx<=s.nx) ⟨i2+1,swp d1 i2 (i2 - 1),?_⟩ ?_ ?_
        ·refine xt7 gy80 ei ej e0 e1 e2 ec ?_;try exact⟨⟩
         have hd4':=hd4.eq.symm
         (repeat' (apply And.intro))<;>first | assumption | rfl | omega | exact Oth.refl _ _ _ | exact Oth.set (Oth.set ho _) _ | (rw[swp_size];assumption) | exact congrArg _ (by omega)
        ·clear ei ej e0 e1 e2 ec hM1 hn1
         rintro m2 ⟨env,M2,n2⟩ ⟨j',d2,e0,e1,e2,ec,ei,ej,e9,hM2,ho2,hn2,c0,c1,c2,c3,c4⟩
         simp only at ei ej e9 e0 e1 e2 ec hM2 ho2 hn2
         by_cases hj1:(j':Int)<b
         ·have c4:=Is.mk c4
          have wj:=w_sub1 (x:=j') (by omega) (by omega)
          have wj1:=w_add1 (x:=j') (by omega)
          have y1:=A.ix (j') (by omega)
          have y2:=A.ix (j' - 1) (by omega)
          have k1:=A.ld M2 d2 hM2 c3 (j') (by omega)
          have k2:=A.ld M2 d2 hM2 c3 (j' - 1) (by omega)
          have st1:=A.st M2 d2 hM2 c3 (j') (by omega) d2[j' - 1]!
          have st2:=A.st (tset M2 k (rwI (d2.setIfInBounds (j') d2[j' - 1]!))) _ (by(repeat (first | rw[tget_tset,if_pos rfl] | rw[tget_tset,if_neg (by omega)] | rw[tget_tdel,if_neg (by omega)]));try (first | rfl | assumption)) (by simp;omega) (j' - 1) (by omega) d2[j']!
          refine xt14 gy80 ei ej e9 hj1 wj y1 y2 k1 k2 e0 e1 e2 ec ?_;try exact⟨⟩
          refine CD_sem (Csem.pure rfl rfl fun N=>f40 ρ N _ _ _) (by decide) ?_
          cases hq:ltI d2[j']! d2[j' - 1]! with
          | true =>
            have hc:=cmpI_t hq
            have c5:shiftUp ltI b (j'+1) (swp d2 j' (j' - 1))=d4:=by rw[<-c4.eq,shiftUp_step (j:=j') (d:=d2) (by omega) hq]
            have c5:=Is.mk c5
            refine xt17 gy80 ei ej e9 hc wj wj1 y1 y2 k1 k2 st1 st2 e0 e1 e2 ec ?_;try exact⟨⟩
            exact⟨b - (j'+1),by omega,j'+1,swp d2 j' (j' - 1),rfl,rfl,((ho2.set _).set _),by omega,by omega,by omega,rfl,(by rw[swp_size];exact c3),c5.eq⟩
          | false =>
            have hc:=cmpI_f hq
            have c5:d2=d4:=by rw[<-c4.eq,shiftUp,if_pos (by omega),hq];rfl
            have c5:=Is.mk c5
            clear c4
            refine xt9 gy80 ei ej e9 hc e0 e1 e2 ec ?_;try exact⟨⟩
            rw[<-c5.eq]
            exact⟨hM2,ho2,by omega⟩
         ·have c5:d2=d4:=by rw[<-c4,shiftUp,if_neg (by omega)]
          have c5:=Is.mk c5
          clear c4
          refine xt9 gy80 ei ej e9 hj1 e0 e1 e2 ec ?_;try exact⟨⟩
          rw[<-c5.eq]
          exact⟨hM2,ho2,by omega⟩
        ·clear ei ej e0 e1 e2 ec hM1 ho hn1
         rintro⟨env,M1,n1⟩ ⟨e0,e1,e2,ec,ei,ej,hM1,ho,hn1⟩
         simp only at ei ej e0 e1 e2 ec hM1 ho hn1
         refine xt8 gy80 ei ej wjj e0 e1 e2 ec ?_;try exact⟨⟩
         exact⟨5 - (jj+1),by omega,jj+1,i2,d4,rfl,rfl,hM1,ho,by omega,by omega,by omega,by omega,rfl,s4,hI3.eq⟩
       ·rw[if_neg (by omega),hd3.eq]at hd4
        have hd4:=Is.mk hd4
        refine xt23 gy80 ei ej hib hib2 wba h50 wia q2 wi1 wbi q3 wjj y1 y2 k1 k2 st1 st2 e0 e1 e2 ec ?_;try exact⟨⟩
        exact⟨5 - (jj+1),by omega,jj+1,i2,d4,rfl,rfl,by rw[hd4.eq];rfl,(ho.set _).set _,by omega,by omega,by omega,by omega,rfl,s4,hI3.eq⟩
  ·rw[show 5 - jj=0 by omega]at hI
   have hI2:R=(d1,false):=hI.symm
   subst hI2
   clear hI
   refine xt9 gy80 ei ej h5 @ParI.eq_1 e0 e1 e2 ec ?_;try exact⟨⟩
   exact⟨⟨hM1,by omega⟩,ho,by omega⟩
end
end Go.Xs
namespace Go.Xs
noncomputable section
open Go.Proofs Go.Sort
set_option maxRecDepth 100000
set_option maxHeartbeats 8000000
def BrkPI (nx k n:Nat) (M:Hp) (a b:Nat) (d:Array Ins) (r:Out):Prop:=r.1 = .tup []/\(∃d':Array Ins,d'.size=n/\PermIn a b d d'/\tget r.2.1 k=some (rwI d'))/\Oth nx k M r.2.1/\nx<=r.2.2
def InsXI (a b n:Nat) (d:Array Ins) (i0 m i:Nat) (d':Array Ins):Prop:=i0<=i/\i<=i0+3/\m=i0+3 - i/\d'.size=n/\PermIn a b d d'
theorem f96 (ρ:Rho) {M:Hp} {nx k n:Nat} {sv:XV} {off:Nat->Nat} (A:ArrI k n sv off) {d:Array Ins} (hM:tget M k=some (rwI d)) (hd:d.size=n) (hk:k<nx) (hn:n<=1000) {a b:Nat} (hab:a<b) (hb:b<=n) :
 FOk Tryz.prog ρ 96 [sv,.int .i64 a,.int .i64 b,.fn (.func 40) [] []] M nx (BrkPI nx k n M a b d):=by
 obtain⟨l,hl⟩:∃q,q=b - a:=⟨_,rfl⟩
 have w1:IntKind.i64.wrap ((b:Int) - (a:Int))=(l:Int):=by rw[hl];exact w_sub (by omega) (by omega)
 refine FOk.walk (m:=67) (rs:=[]) follows Tryz.func96 (by kernel_rfl) rfl rfl rfl ?_
 conv in W _ _ _ _ _ _ _=>arg 4;whnf
 by_cases h8:(8:Int)<=l
 ·obtain⟨q,hq⟩:∃q,q=l / 4:=⟨_,rfl⟩
  obtain⟨i0,hi0⟩:∃i,i=a+2*q - 1:=⟨_,rfl⟩
  have w2:IntKind.i64.wrap ((l:Int).tdiv 4)=(q:Int):=by
   rw[show (l:Int).tdiv 4=(q:Int) by rw[Int.tdiv_eq_ediv_of_nonneg (by omega)];omega,wrap_i64 (by omega) (by omega)]
  have w4:IntKind.i64.wrap ((q:Int)*2)=((2*q:Nat):Int):=by rw[wrap_i64 (by omega) (by omega)];omega
  have w5:=w_add (x:=a) (y:=2*q) (by omega)
  have w6:IntKind.i64.wrap (((a+2*q:Nat):Int) - 1)=(i0:Int):=by rw[wrap_i64 (by omega) (by omega)];omega
  have w7:=w_add1 (x:=a+2*q) (by omega)
  have w8:IntKind.u64.wrap (l:Int)=(l:Int):=wrap_u64 (by omega) (by omega)
  refine xt4 gy81 w1 h8 w8 ?_;try exact⟨⟩
  generalize hM1:tset (tset M _ _) _ _=M1
  have o1:Oth nx k M M1:=by rw[<-hM1];exact((Oth.refl _ _ _).new (by omega) _).new (by omega) _
  have z1:tget M1 (nx+8)=some (.row [.int .u64 l]):=by rw[<-hM1];exact(by(repeat (first | rw[tget_tset,if_pos rfl] | rw[tget_tset,if_neg (by omega)] | rw[tget_tdel,if_neg (by omega)]));try (first | rfl | assumption))
  have z2:tget M1 k=some (rwI d):=by rw[<-hM1];exact(by(repeat (first | rw[tget_tset,if_pos rfl] | rw[tget_tset,if_neg (by omega)] | rw[tget_tdel,if_neg (by omega)]));try (first | rfl | assumption))
  clear hM1
  refine CN_fok (f139 ρ _ _ l (by omega)) ?_
  rintro⟨u,M2,n2⟩ ⟨g1,g2,g3⟩
  simp only at g1 g2 g3
  subst g1
  have o2:Oth nx k M M2:=o1.agr (g2.le (by omega)) (Nat.le_refl _)
  have z3:=(g2 (nx+8) (by omega)).trans z1
  have z4:=(g2 k (by omega)).trans z2
  have hpw:=bitsLen_pow l (by omega) (by omega)
  have hpp:1<=2 ^ bitsLen l:=Nat.one_le_two_pow
  generalize 2 ^ bitsLen l=md at hpw hpp
  have w9:IntKind.u64.wrap ((md:Int) - 1)=((md - 1:Nat):Int):=by rw[wrap_u64 (by omega) (by omega)];omega
  clear z1 z2 o1 g2
  refine xt7 gy81 w1 w2 w4 w5 w6 h8 ?_;try exact⟨⟩
  refine W_loop (fun m s=>∃(i:Nat) (d':Array Ins) (r:Int),tget s.env 0=some sv/\tget s.env 1=some (.int .i64 a)/\tget s.env 8=some (.int .i64 l)/\tget s.env 9=some (.mp (nx+8) 0)/\tget s.env 10=some (.int .u64 md)/\tget s.env 11=some (.int .i64 i)/\tget s.M k=some (rwI d')/\tget s.M (nx+8)=some (.row [.int .u64 r])/\Oth nx k M s.M/\nx+9<=s.nx/\InsXI a b n d i0 m i d')
   3 ⟨i0,d,l,?_⟩ ?_
  ·refine xt1 gy81 ?_;try exact⟨⟩
   exact⟨z4,z3,o2,by omega,by omega,by omega,by omega,hd,permIn_refl _ _ _⟩
  ·clear z3 z4 o2 hM hd
   rintro m ⟨env,M1,n1⟩ ⟨i,d1,r,e0,e1,e6,e7,e8,e9,hM1,hr,ho,hn1,h1,h2,h3,hd1,hP⟩
   simp only at e0 e1 e6 e7 e8 e9 hM1 hr ho hn1
   by_cases hlt:(i:Int)<=(a+(2*q+1):Nat)
   ·refine xt12 gy81 e0 e1 e6 e7 e8 e9 w2 w4 w5 w7 hlt ?_;try exact⟨⟩
    refine CN_fok (f140 ρ hr) ?_
    rintro⟨u,M2,n2⟩ ⟨r2,k1,k2,k3,k4⟩
    simp only at k1 k2 k3 k4
    subst k1
    obtain⟨o,hoe,hob⟩:=and_bd r2 (md - 1) (by omega)
    have s4:binInt .and .u64 r2 .u64 ((md - 1:Nat):Int)=some (.int .u64 (o:Int)):=by rw[<-hoe];rfl
    have w10:IntKind.i64.wrap (o:Int)=(o:Int):=wrap_i64 (by omega) (by omega)
    have hM2:tget M2 k=some (rwI d1):=k3.get (by omega) (by omega) hM1
    have ho2:Oth nx k M M2:=fun j hj hk'=>(k3 j (by omega) (by omega)).trans (ho j hj hk')
    have wi:=w_add1 (x:=i) (by omega)
    clear k3 hr
    by_cases hol:(l:Int)<=o
    ·have w11:=w_sub (x:=o) (y:=l) (by omega) (by omega)
     have w12:=w_add (x:=a) (y:=o - l) (by omega)
     have y1:=A.ix (i) (by omega)
     have y2:=A.ix (a+(o - l)) (by omega)
     have k1:=A.ld M2 d1 hM2 hd1 (i) (by omega)
     have k2:=A.ld M2 d1 hM2 hd1 (a+(o - l)) (by omega)
     have st1:=A.st M2 d1 hM2 hd1 (i) (by omega) d1[a+(o - l)]!
     have st2:=A.st (tset M2 k (rwI (d1.setIfInBounds (i) d1[a+(o - l)]!))) _ (by(repeat (first | rw[tget_tset,if_pos rfl] | rw[tget_tset,if_neg (by omega)] | rw[tget_tdel,if_neg (by omega)]));try (first | rfl | assumption)) (by simp;omega) (a+(o - l)) (by omega) d1[i]!
     refine xt20 gy81 e0 e1 e6 e7 e8 e9 w9 s4 w10 hol w11 w12 wi y1 y2 k1 k2 st1 st2 ?_;try exact⟨⟩
     exact⟨i0+3 - (i+1),by omega,i+1,swp d1 i (a+(o - l)),r2,rfl,rfl,(by(repeat (first | rw[tget_tset,if_pos rfl] | rw[tget_tset,if_neg (by omega)] | rw[tget_tdel,if_neg (by omega)]));try (first | rfl | assumption)),(ho2.set _).set _,by omega,by omega,by omega,rfl,(by rw[swp_size];exact hd1),permIn_trans _ _ _ _ _ hP (swp_permIn _ _ _ _ _ (by omega) (by omega) (by omega) (by omega) (by omega))⟩
    ·have w12:=w_add (x:=a) (y:=o) (by omega)
     have y1:=A.ix (i) (by omega)
     have y2:=A.ix (a+o) (by omega)
     have k1:=A.ld M2 d1 hM2 hd1 (i) (by omega)
     have k2:=A.ld M2 d1 hM2 hd1 (a+o) (by omega)
     have st1:=A.st M2 d1 hM2 hd1 (i) (by omega) d1[a+o]!
     have st2:=A.st (tset M2 k (rwI (d1.setIfInBounds (i) d1[a+o]!))) _ (by(repeat (first | rw[tget_tset,if_pos rfl] | rw[tget_tset,if_neg (by omega)] | rw[tget_tdel,if_neg (by omega)]));try (first | rfl | assumption)) (by simp;omega) (a+o) (by omega) d1[i]!
     refine xt19 gy81 e0 e1 e6 e7 e8 e9 w9 s4 w10 hol w12 wi y1 y2 k1 k2 st1 st2 ?_;try exact⟨⟩
     exact⟨i0+3 - (i+1),by omega,i+1,swp d1 i (a+o),r2,rfl,rfl,(by(repeat (first | rw[tget_tset,if_pos rfl] | rw[tget_tset,if_neg (by omega)] | rw[tget_tdel,if_neg (by omega)]));try (first | rfl | assumption)),(ho2.set _).set _,by omega,by omega,by omega,rfl,(by rw[swp_size];exact hd1),permIn_trans _ _ _ _ _ hP (swp_permIn _ _ _ _ _ (by omega) (by omega) (by omega) (by omega) (by omega))⟩
   ·refine xt13 gy81 e0 e1 e6 e7 e8 e9 w2 w4 w5 w7 hlt @BrkPI.eq_1 ?_;try exact⟨⟩
    exact⟨⟨d1,hd1,hP,hM1⟩,ho,by omega⟩
 ·refine xt4 gy81 w1 h8 @BrkPI.eq_1 ?_;try exact⟨⟩
  exact⟨⟨d,hd,permIn_refl _ _ _,hM⟩,Oth.refl _ _ _,by omega⟩
end
end Go.Xs
namespace Go.Xs
noncomputable section
open Go.Proofs Go.Sort
set_option maxRecDepth 100000
set_option maxHeartbeats 8000000
def PdqPI (nx k n:Nat) (M:Hp) (a b:Nat) (d:Array Ins) (r:Out):Prop:=r.1 = .tup []/\(∃d':Array Ins,d'.size=n/\(PermIn a b d d'/\SortedIn ltI a b d')/\tget r.2.1 k=some (rwI d'))/\Oth nx k M r.2.1/\nx<=r.2.2
theorem f68 (ρ:Rho):∀(sz:Nat) {M:Hp} {nx k n:Nat} {sv:XV} {off:Nat->Nat} (A:ArrI k n sv off) {d:Array Ins} (hM:tget M k=some (rwI d)) (hd:d.size=n) (hk:k<nx) (hn:n<=1000) {a b:Nat} (lim:Int) (hsz:b - a<=sz) (hab:a<=b) (hb:b<=n) (hB:Below ltI a b d),
 FOk Tryz.prog ρ 68 [sv,.int .i64 a,.int .i64 b,.int .i64 lim,.fn (.func 40) [] []] M nx (PdqPI nx k n M a b d):=by
 intro sz
 induction sz using Nat.strongRecOn with
 | _ sz ih =>
 intro M nx k n sv off A d hM hd hk hn a b lim hsz hab hb hB
 refine FOk.walk (m:=148) (rs:=[]) follows Tryz.func68 (by kernel_rfl) rfl rfl rfl ?_
 conv in W _ _ _ _ _ _ _=>arg 4;whnf
 refine xt1 gy82 ?_;try exact⟨⟩
 refine W_loop (fun m s=>∃(x y:Nat) (lim':Int) (wb wp:Bool) (d1:Array Ins),tget s.env 0=some sv/\tget s.env 1=some (.int .i64 (x:Nat))/\tget s.env 2=some (.int .i64 (y:Nat))/\tget s.env 3=some (.int .i64 lim')/\tget s.env 4=some (.fn (.func 40) [] [])/\tget s.env 10=some (.bool wb)/\tget s.env 11=some (.bool wp)/\tget s.M k=some (rwI d1)/\Oth nx k M s.M/\nx<=s.nx/\InsD ltI a b n d m x y d1)
  (b - a) ⟨a,b,lim,true,true,d,?_⟩ ?_
 ·refine xt1 gy82 ?_;try exact⟨⟩
  exact⟨hM,Oth.refl _ _ _,by omega,by omega,by omega,by omega,rfl,hd,hB,fun R h1 h2=>⟨h1,h2⟩⟩
 ·clear hM hd hB
  rintro m ⟨env,M1,n1⟩ ⟨x,y,lim',wb,wp,d1,e0,e1,e2,e3,ec,e8,e9,hM1,ho,hn1,h1,h2,h3,h4,hd1,hB,hG⟩
  simp only at e0 e1 e2 e3 ec e8 e9 hM1 ho hn1
  rw[W_block]
  have w1:=w_sub (x:=y) (y:=x) (by omega) (by omega)
  refine W_cut4 (fun s=>∃(lim2:Int) (d2:Array Ins),tget s.env 0=some sv/\tget s.env 1=some (.int .i64 (x:Nat))/\tget s.env 2=some (.int .i64 (y:Nat))/\tget s.env 3=some (.int .i64 lim2)/\tget s.env 4=some (.fn (.func 40) [] [])/\tget s.env 10=some (.bool wb)/\tget s.env 11=some (.bool wp)/\tget s.env 12=some (.int .i64 (y - x:Nat))/\tget s.M k=some (rwI d2)/\Oth nx k M s.M/\nx<=s.nx/\PmD n x y d1 d2) ?_ ?_
  ·by_cases h12:((y - x:Nat):Int)<=12
   ·refine xt10 gy82 w1 h12 e0 e1 e2 e3 ec e8 e9 ?_;try exact⟨⟩
    refine CN_fok (f94 ρ A hM1 hd1 (by omega) hn (a:=x) (b:=y) (by omega) (by omega)) ?_
    rintro⟨u,M2,n2⟩ ⟨k1,⟨k2,_⟩,k3,k4⟩
    simp only at k1 k2 k3 k4
    subst k1
    obtain⟨u1,u2⟩:=insertionSort_holds swoI d1 x y (by omega) (by omega)
    obtain⟨t1,t2⟩:=hG _ u1 u2
    have ts:(insertionSort ltI d1 x y).size=n:=u1.1.trans hd1
    refine xt5 gy82 @cutK_n @cutK_ret @cutK_exit @PdqPI.eq_1 ?_;try exact⟨⟩
    exact⟨⟨_,ts,⟨t1,t2⟩,k2⟩,ho.trans k3 (by omega),by omega⟩
   ·by_cases hl0:lim'=0
    ·refine xt11 gy82 w1 h12 hl0 e0 e1 e2 e3 ec e8 e9 ?_;try exact⟨⟩
     refine CN_fok (f95 ρ A hM1 hd1 (by omega) hn (a:=x) (b:=y) (by omega) (by omega)) ?_
     rintro⟨u,M2,n2⟩ ⟨k1,⟨k2,_⟩,k3,k4⟩
     simp only at k1 k2 k3 k4
     subst k1
     obtain⟨u1,u2⟩:=heapSort_holds swoI d1 x y (by omega) (by omega)
     obtain⟨t1,t2⟩:=hG _ u1 u2
     have ts:(heapSort ltI d1 x y).size=n:=u1.1.trans hd1
     refine xt5 gy82 @cutK_n @cutK_ret @cutK_exit @PdqPI.eq_1 ?_;try exact⟨⟩
     exact⟨⟨_,ts,⟨t1,t2⟩,k2⟩,ho.trans k3 (by omega),by omega⟩
    ·cases wb with
     | true =>
       refine xt14 gy82 w1 h12 hl0 @cutK_n @cutK_ret @cutK_exit e0 e1 e2 e3 ec e8 e9 ?_;try exact⟨⟩
       exact⟨lim',d1,rfl,hM1,ho,by omega,by omega,hd1,permIn_refl _ _ _⟩
     | false =>
       refine xt11 gy82 w1 h12 hl0 e0 e1 e2 e3 ec e8 e9 ?_;try exact⟨⟩
       refine CN_fok (f96 ρ A hM1 hd1 (by omega) hn (a:=x) (b:=y) (by omega) (by omega)) ?_
       rintro⟨u,M2,n2⟩ ⟨k1,⟨d2,k2,k5,k6⟩,k3,k4⟩
       simp only at k1 k6 k3 k4
       subst k1
       refine xt11 gy82 @cutK_n @cutK_ret @cutK_exit e0 e1 e2 e3 ec e8 e9 ?_;try exact⟨⟩
       exact⟨IntKind.i64.wrap (lim' - 1),d2,rfl,k6,ho.trans k3 (by omega),by omega,by omega,k2,k5⟩
  clear e0 e1 e2 e3 ec e8 e9 hM1 ho hn1
  rintro⟨env,M1,n1⟩ ⟨lim2,d2,e0,e1,e2,e3,ec,e8,e9,e10,hM1,ho,hn1,hl,hd2,hP⟩
  simp only at e0 e1 e2 e3 ec e8 e9 e10 hM1 ho hn1
  refine W_cut2 (fun s=>∃(p:Nat) (hh:Int) (d3:Array Ins),tget s.env 0=some sv/\tget s.env 1=some (.int .i64 (x:Nat))/\tget s.env 2=some (.int .i64 (y:Nat))/\tget s.env 3=some (.int .i64 lim2)/\tget s.env 4=some (.fn (.func 40) [] [])/\tget s.env 10=some (.bool wb)/\tget s.env 11=some (.bool wp)/\tget s.env 12=some (.int .i64 (y - x:Nat))/\tget s.env 13=some (.int .i64 p)/\tget s.env 14=some (.int .i64 hh)/\tget s.M k=some (rwI d3)/\Oth nx k M s.M/\nx<=s.nx/\PmE n x y p d1 d3) ?_ ?_
  ·refine xt9 gy82 e10 e0 e1 e2 e3 ec e8 e9 ?_;try exact⟨⟩
   refine CN_fok (f97 ρ A hM1 hd2 (by omega) hn (a:=x) (b:=y) (by omega) (by omega)) ?_
   rintro⟨u,M2,n2⟩ ⟨p,hh,k1,k2,k3,k4⟩
   simp only at k1 k3 k4
   subst k1
   have hM2:=(k3 k (by omega)).trans hM1
   have ho2:=ho.agr k3 (by omega)
   clear k3
   by_cases h2':hh=2
   ·have v1:=w_sub1 (x:=y) (by omega) (by omega)
    have v2:=w_sub (x:=p) (y:=x) (by omega) (by omega)
    have v3:=w_sub (x:=y - 1) (y:=p - x) (by omega) (by omega)
    refine xt10 gy82 e10 h2' e0 e1 e2 e3 ec e8 e9 ?_;try exact⟨⟩
    refine CN_fok (f98 ρ A hM2 hd2 (by omega) hn (a:=x) (b:=y) (by omega) (by omega)) ?_
    rintro⟨u,M3,n3⟩ ⟨j1,⟨j2,_⟩,j3,j4⟩
    simp only at j1 j2 j3 j4
    subst j1
    have hPr:=reverseRange_holds d2 x y (by omega) (by omega)
    refine xt15 gy82 @cutK_n @cutK_ret @cutK_exit e10 v1 v2 v3 e0 e1 e2 e3 ec e8 e9 ?_;try exact⟨⟩
    exact⟨y - 1 - (p - x),1,reverseRange d2 x y,rfl,rfl,j2,ho2.trans j3 (by omega),by omega,by omega,by omega,hPr.1.trans hd2,permIn_trans _ _ _ _ _ hP hPr⟩
   ·refine xt13 gy82 @cutK_n @cutK_ret @cutK_exit e10 h2' e0 e1 e2 e3 ec e8 e9 ?_;try exact⟨⟩
    exact⟨p,hh,d2,rfl,rfl,hM2,ho2,by omega,by omega,k2,hd2,hP⟩
  clear e0 e1 e2 e3 ec e8 e9 e10 hM1 ho hn1 hl hd2 hP d2
  rintro⟨env,M1,n1⟩ ⟨p,hh,d3,e0,e1,e2,e3,ec,e8,e9,e10,ep,eh,hM1,ho,hn1,hl,hp,hd3,hP⟩
  simp only at e0 e1 e2 e3 ec e8 e9 e10 ep eh hM1 ho hn1
  refine W_cut1 (fun s=>∃(d4:Array Ins),tget s.env 0=some sv/\tget s.env 1=some (.int .i64 (x:Nat))/\tget s.env 2=some (.int .i64 (y:Nat))/\tget s.env 3=some (.int .i64 lim2)/\tget s.env 4=some (.fn (.func 40) [] [])/\tget s.env 10=some (.bool wb)/\tget s.env 11=some (.bool wp)/\tget s.env 12=some (.int .i64 (y - x:Nat))/\tget s.env 13=some (.int .i64 p)/\tget s.M k=some (rwI d4)/\Oth nx k M s.M/\nx<=s.nx/\PmE n x y p d1 d4) ?_ ?_
  ·by_cases hc:wb=true/\wp=true/\hh=1
   ·obtain⟨c1,c2,c3⟩:=hc
    subst c1
    subst c2
    refine xt12 gy82 e10 ep eh c3 e0 e1 e2 e3 ec e8 e9 ?_;try exact⟨⟩
    refine CN_fok (f99 ρ A hM1 hd3 (by omega) hn (a:=x) (b:=y) (by omega) (by omega)) ?_
    rintro⟨u,M2,n2⟩ ⟨k1,⟨k2,_⟩,k3,k4⟩
    simp only at k1 k2 k3 k4
    subst k1
    obtain⟨u1,u2⟩:=partialInsertionSort_holds swoI d3 x y (by omega) (by omega) (hB.perm (by omega) hP)
    have ts:(partialInsertionSort ltI d3 x y).1.size=n:=u1.1.trans hd3
    cases hR:(partialInsertionSort ltI d3 x y).2 with
    | true =>
      obtain⟨t1,t2⟩:=hG _ (permIn_trans _ _ _ _ _ hP u1) (u2 hR)
      refine xt12 gy82 @cutK_n @cutK_ret @cutK_exit @PdqPI.eq_1 e0 e1 e2 e3 ec e8 e9 ?_;try exact⟨⟩
      exact⟨⟨_,ts,⟨t1,t2⟩,k2⟩,ho.trans k3 (by omega),by omega⟩
    | false =>
      refine xt14 gy82 @cutK_n @cutK_ret @cutK_exit e10 ep eh e0 e1 e2 e3 ec e8 e9 ?_;try exact⟨⟩
      exact⟨_,k2,ho.trans k3 (by omega),by omega,by omega,hp,ts,permIn_trans _ _ _ _ _ hP u1⟩
   ·cases wb with
    | false =>
      refine xt14 gy82 @cutK_n @cutK_ret @cutK_exit e10 ep eh e0 e1 e2 e3 ec e8 e9 ?_;try exact⟨⟩
      exact⟨d3,hM1,ho,by omega,by omega,hp,hd3,hP⟩
    | true =>
      cases wp with
      | false =>
        refine xt14 gy82 @cutK_n @cutK_ret @cutK_exit e10 ep eh e0 e1 e2 e3 ec e8 e9 ?_;try exact⟨⟩
        exact⟨d3,hM1,ho,by omega,by omega,hp,hd3,hP⟩
      | true =>
        have hh1:¬ hh=1:=fun q=>hc ⟨rfl,rfl,q⟩
        clear hc
        refine xt15 gy82 @cutK_n @cutK_ret @cutK_exit e10 ep eh hh1 e0 e1 e2 e3 ec e8 e9 ?_;try exact⟨⟩
        exact⟨d3,hM1,ho,by omega,by omega,hp,hd3,hP⟩
  clear e0 e1 e2 e3 ec e8 e9 e10 ep eh hM1 ho hn1 hl hp hd3 hP d3
  rintro⟨env,M1,n1⟩ ⟨d4,e0,e1,e2,e3,ec,e8,e9,e10,ep,hM1,ho,hn1,hl,hp,hd4,hP⟩
  simp only at e0 e1 e2 e3 ec e8 e9 e10 ep hM1 ho hn1
  by_cases hx0:(0:Int)<x
  ·have x1:=A.ix (x - 1) (by omega)
   have x2:=A.ix p (by omega)
   have l1:=A.ld M1 d4 hM1 hd4 (x - 1) (by omega)
   have l2:=A.ld M1 d4 hM1 hd4 p (by omega)
   have wx:=w_sub1 (x:=x) (by omega) (by omega)
   simp (maxSteps:=10000000) (disch:=first|assumption|decide|omega|(simp only[zde, *];done)|(simp only[zdf,big];first|done|assumption|omega)) only [zst,argsE,spl,resXs,resX,vI,vB,vX,oneOr_0,oneOr_1,oneOr_2,Nat.reduceLT,Nat.reduceEqDiff,Nat.reduceAdd,Nat.reduceMul,Nat.reduceSub,reduceIte,Int.reduceLT,Int.reduceLE,Int.reduceEq,Int.reduceNeg,Int.reduceToNat,gy82,e10,ep,hx0,wx,x1,x2,l1,l2,e0,e1,e2,e3,ec,e8,e9]
   refine RD_gcall ?_ rfl ?_
   ·refine xt1 gy82 ?_;try exact⟨⟩
   refine xt1 gy82 ?_;try exact⟨⟩
   refine CD_sem (Csem.pure rfl rfl fun N=>f40 ρ N _ _ _) (by decide) ?_
   cases hq:ltI d4[x - 1]! d4[p]! with
   | false =>
     have hc:=cmpI_f hq
     refine xt11 gy82 e10 ep hc e0 e1 e2 e3 ec e8 e9 ?_;try exact⟨⟩
     refine CN_fok (f100 ρ A hM1 hd4 (by omega) hn (a:=x) (b:=y) (pivot:=p) (by omega) (by omega) (by omega)) ?_
     rintro⟨u,M2,n2⟩ ⟨k1,⟨k2,_⟩,k3,k4⟩
     simp only at k1 k2 k3 k4
     subst k1
     obtain⟨mid,d5,hRe⟩:∃mid d5,partitionEqual ltI d4 x y p=(mid,d5):=⟨_,_,rfl⟩
     rw[hRe]at k2 ⊢
     simp only at k2 ⊢
     obtain⟨r1,r2,r3,r4,r5⟩:=round_eq swoI (partitionEqual_holds _) (d3:=d4) (by omega) hp.1 hp.2 (by rw[hd4];omega) (hB.perm (by rw[hd1];omega) hP) hq hRe
     refine xt10 gy82 e10 ep e0 e1 e2 e3 ec e8 e9 ?_;try exact⟨⟩
     exact⟨y - mid,by omega,mid,y,lim2,wb,wp,d5,rfl,rfl,rfl,rfl,rfl,k2,ho.trans k3 (by omega),by omega,by omega,by omega,by omega,rfl,r3.trans hd4,r4,fun R q1 q2=>let ⟨u1,u2⟩:=r5 R q1 q2;hG R (permIn_trans _ _ _ _ _ hP u1) u2⟩
   | true =>
     have hc:=cmpI_t hq
     refine xt11 gy82 e10 ep hc e0 e1 e2 e3 ec e8 e9 ?_;try exact⟨⟩
     refine CN_fok (f101 ρ A hM1 hd4 (by omega) hn (a:=x) (b:=y) (pivot:=p) (by omega) (by omega) (by omega)) ?_
     rintro⟨u,M2,n2⟩ ⟨k1,⟨k2,_⟩,k3,k4⟩
     simp only at k1 k2 k3 k4
     subst k1
     obtain⟨mid,al,d5,hRe⟩:∃mid al d5,partition ltI d4 x y p=(mid,al,d5):=⟨_,_,_,rfl⟩
     rw[hRe]at k2 ⊢
     simp only at k2 ⊢
     have hy4:y<=d4.size:=by rw[hd4];omega
     obtain⟨r1,r2,r3,r4,r5,r6,r7⟩:=round_part swoI (partition_holds _) (d3:=d4) hp.1 hp.2 hy4 (hB.perm (by rw[hd1];omega) hP) hRe
     have hd5:d5.size=n:=r3.trans hd4
     have ho2:=ho.trans k3 (by omega)
     have hM2:=k2
     clear k2 k3
     have v1:=w_sub (x:=mid) (y:=x) (by omega) (by omega)
     have v2:=w_sub (x:=y) (y:=mid) (by omega) (by omega)
     have v3:IntKind.i64.wrap (((y - x:Nat):Int).tdiv 8)=(((y - x) / 8:Nat):Int):=by
      rw[show ((y - x:Nat):Int).tdiv 8=(((y - x) / 8:Nat):Int) by rw[Int.tdiv_eq_ediv_of_nonneg (by omega)];omega,wrap_i64 (by omega) (by omega)]
     have v4:=w_add1 (x:=mid) (by omega)
     by_cases hlr:((mid - x:Nat):Int)<((y - mid:Nat):Int)
     ·refine xt15 gy82 e10 ep v1 v2 v3 v4 hlr e0 e1 e2 e3 ec e8 e9 ?_;try exact⟨⟩
      refine CN_fok (ih (mid - x) (by omega) A hM2 hd5 (by omega) hn (a:=x) (b:=mid) lim2 (by omega) (by omega) (by omega) r4) ?_
      rintro⟨u,M3,n3⟩ ⟨j1,⟨L,j2,⟨j3,j4⟩,j5⟩,j6,j7⟩
      simp only at j1 j5 j6 j7
      subst j1
      obtain⟨t1,t2⟩:=r6 L j3 j4
      refine xt11 gy82 e10 ep v4 e0 e1 e2 e3 ec e8 e9 ?_;try exact⟨⟩
      exact⟨y - (mid+1),by omega,mid+1,y,lim2,_,_,L,rfl,rfl,rfl,rfl,rfl,j5,ho2.trans j6 (by omega),by omega,by omega,by omega,by omega,rfl,j2,t1,fun R q1 q2=>let ⟨u1,u2⟩:=t2 R q1 q2;hG R (permIn_trans _ _ _ _ _ hP u1) u2⟩
     ·refine xt15 gy82 e10 ep v1 v2 v3 v4 hlr e0 e1 e2 e3 ec e8 e9 ?_;try exact⟨⟩
      refine CN_fok (ih (y - (mid+1)) (by omega) A hM2 hd5 (by omega) hn (a:=mid+1) (b:=y) lim2 (by omega) (by omega) (by omega) r5) ?_
      rintro⟨u,M3,n3⟩ ⟨j1,⟨L,j2,⟨j3,j4⟩,j5⟩,j6,j7⟩
      simp only at j1 j5 j6 j7
      subst j1
      obtain⟨t1,t2⟩:=r7 L j3 j4
      refine xt10 gy82 e10 ep e0 e1 e2 e3 ec e8 e9 ?_;try exact⟨⟩
      exact⟨mid - x,by omega,x,mid,lim2,_,_,L,rfl,rfl,rfl,rfl,rfl,j5,ho2.trans j6 (by omega),by omega,by omega,by omega,by omega,rfl,j2,t1,fun R q1 q2=>let ⟨u1,u2⟩:=t2 R q1 q2;hG R (permIn_trans _ _ _ _ _ hP u1) u2⟩
  ·refine xt11 gy82 e10 ep hx0 e0 e1 e2 e3 ec e8 e9 ?_;try exact⟨⟩
   refine RD_gskip ?_ (by decide) ?_
   ·refine xt1 gy82 ?_;try exact⟨⟩
   refine xt11 gy82 e10 ep hx0 e0 e1 e2 e3 ec e8 e9 ?_;try exact⟨⟩
   refine CN_fok (f101 ρ A hM1 hd4 (by omega) hn (a:=x) (b:=y) (pivot:=p) (by omega) (by omega) (by omega)) ?_
   rintro⟨u,M2,n2⟩ ⟨k1,⟨k2,_⟩,k3,k4⟩
   simp only at k1 k2 k3 k4
   subst k1
   obtain⟨mid,al,d5,hRe⟩:∃mid al d5,partition ltI d4 x y p=(mid,al,d5):=⟨_,_,_,rfl⟩
   rw[hRe]at k2 ⊢
   simp only at k2 ⊢
   have hy4:y<=d4.size:=by rw[hd4];omega
   obtain⟨r1,r2,r3,r4,r5,r6,r7⟩:=round_part swoI (partition_holds _) (d3:=d4) hp.1 hp.2 hy4 (hB.perm (by rw[hd1];omega) hP) hRe
   have hd5:d5.size=n:=r3.trans hd4
   have ho2:=ho.trans k3 (by omega)
   have hM2:=k2
   clear k2 k3
   have v1:=w_sub (x:=mid) (y:=x) (by omega) (by omega)
   have v2:=w_sub (x:=y) (y:=mid) (by omega) (by omega)
   have v3:IntKind.i64.wrap (((y - x:Nat):Int).tdiv 8)=(((y - x) / 8:Nat):Int):=by
    rw[show ((y - x:Nat):Int).tdiv 8=(((y - x) / 8:Nat):Int) by rw[Int.tdiv_eq_ediv_of_nonneg (by omega)];omega,wrap_i64 (by omega) (by omega)]
   have v4:=w_add1 (x:=mid) (by omega)
   by_cases hlr:((mid - x:Nat):Int)<((y - mid:Nat):Int)
   ·refine xt15 gy82 e10 ep v1 v2 v3 v4 hlr e0 e1 e2 e3 ec e8 e9 ?_;try exact⟨⟩
    refine CN_fok (ih (mid - x) (by omega) A hM2 hd5 (by omega) hn (a:=x) (b:=mid) lim2 (by omega) (by omega) (by omega) r4) ?_
    rintro⟨u,M3,n3⟩ ⟨j1,⟨L,j2,⟨j3,j4⟩,j5⟩,j6,j7⟩
    simp only at j1 j5 j6 j7
    subst j1
    obtain⟨t1,t2⟩:=r6 L j3 j4
    refine xt11 gy82 e10 ep v4 e0 e1 e2 e3 ec e8 e9 ?_;try exact⟨⟩
    exact⟨y - (mid+1),by omega,mid+1,y,lim2,_,_,L,rfl,rfl,rfl,rfl,rfl,j5,ho2.trans j6 (by omega),by omega,by omega,by omega,by omega,rfl,j2,t1,fun R q1 q2=>let ⟨u1,u2⟩:=t2 R q1 q2;hG R (permIn_trans _ _ _ _ _ hP u1) u2⟩
   ·refine xt15 gy82 e10 ep v1 v2 v3 v4 hlr e0 e1 e2 e3 ec e8 e9 ?_;try exact⟨⟩
    refine CN_fok (ih (y - (mid+1)) (by omega) A hM2 hd5 (by omega) hn (a:=mid+1) (b:=y) lim2 (by omega) (by omega) (by omega) r5) ?_
    rintro⟨u,M3,n3⟩ ⟨j1,⟨L,j2,⟨j3,j4⟩,j5⟩,j6,j7⟩
    simp only at j1 j5 j6 j7
    subst j1
    obtain⟨t1,t2⟩:=r7 L j3 j4
    refine xt10 gy82 e10 ep e0 e1 e2 e3 ec e8 e9 ?_;try exact⟨⟩
    exact⟨mid - x,by omega,x,mid,lim2,_,_,L,rfl,rfl,rfl,rfl,rfl,j5,ho2.trans j6 (by omega),by omega,by omega,by omega,by omega,rfl,j2,t1,fun R q1 q2=>let ⟨u1,u2⟩:=t2 R q1 q2;hG R (permIn_trans _ _ _ _ _ hP u1) u2⟩
end
end Go.Xs
namespace Go.Xs
noncomputable section
open Go.Proofs Go.Sort
set_option maxRecDepth 100000
set_option maxHeartbeats 8000000
theorem perm_list {α:Type} [Inhabited α] {l:List α} {d:Array α} {n:Nat} (hn:l.length=n) (hd:d.size=n) (h:PermIn 0 n l.toArray d):d.toList.Perm l:=by
 have h3:=h.2.2
 have e1:d.extract 0 n=d:=by rw[<-hd];exact Array.extract_size
 have e2:l.toArray.extract 0 n=l.toArray:=by rw[<-hn,<-List.size_toArray];exact Array.extract_size
 rw[e1,e2]at h3
 exact h3
theorem sorted_list {α:Type} [Inhabited α] {lt:α->α->Bool} {R:α->α->Prop} {d:Array α} {n:Nat} (hd:d.size=n) (h:SortedIn lt 0 n d) (hR:∀x y,lt y x=false->R x y):d.toList.Pairwise R:=by
 rw[List.pairwise_iff_getElem]
 intro i j hi hj hij
 have:=h i j (by omega) hij (by simpa [hd] using hj)
 rw[getElem!_pos d j (by simpa using hj),getElem!_pos d i (by simpa using hi)]at this
 exact hR _ _ this
theorem f144n (ρ:Rho) (M:Hp) (nx:Nat):FOk Tryz.prog ρ 144 [.nils,.int .i64 0,.int .i64 0] M nx (Ret nx M (.tup [])):=by
 refine FOk.walk (m:=49) (rs:=[]) follows Tryz.func144 (by kernel_rfl) rfl rfl rfl ?_
 conv in W _ _ _ _ _ _ _=>arg 4;whnf
 have w:IntKind.i64.wrap (0+1)=1:=by decide
 refine xt2 gy40 w ?_;try exact⟨⟩
 refine W_loop (fun m s=>tget s.env 6=some (.int .i64 1)/\tget s.env 2=some (.int .i64 0)/\Agr nx M s.M/\nx<=s.nx) 0 ?_ ?_
 ·refine xt1 gy40 ?_;try exact⟨⟩
  exact⟨Agr.refl _ _,by omega⟩
 ·rintro m ⟨env,M1,n1⟩ ⟨e6,e2,ha,hn⟩
  simp only at e6 e2 ha hn
  have z:¬ (1:Int)<0:=by decide
  refine xt5 gy40 e6 e2 z @Ret.eq_1 ?_;try exact⟨⟩
  exact⟨ha,by omega⟩
theorem f107n (ρ:Rho) (M:Hp) (nx:Nat) (lim:Int):FOk Tryz.prog ρ 107 [.nils,.int .i64 0,.int .i64 0,.int .i64 lim] M nx (Ret nx M (.tup [])):=by
 refine FOk.walk (m:=134) (rs:=[]) follows Tryz.func107 (by kernel_rfl) rfl rfl rfl ?_
 conv in W _ _ _ _ _ _ _=>arg 4;whnf
 have w:IntKind.i64.wrap (0 - 0)=0:=by decide
 have z:(0:Int)<=12:=by decide
 refine xt1 gy79 ?_;try exact⟨⟩
 refine W_loop (fun m s=>tget s.env 0=some .nils/\tget s.env 1=some (.int .i64 0)/\tget s.env 2=some (.int .i64 0)/\Agr nx M s.M/\nx<=s.nx) 0 ?_ ?_
 ·refine xt1 gy79 ?_;try exact⟨⟩
  exact⟨Agr.refl _ _,by omega⟩
 ·rintro m ⟨env,M1,n1⟩ ⟨e0,e1,e2,ha,hn⟩
  simp only at e0 e1 e2 ha hn
  refine xt6 gy79 e0 e1 e2 w z ?_;try exact⟨⟩
  refine CN_fok (f144n ρ _ _) ?_
  rintro⟨u,M2,n2⟩ ⟨k1,k2,k3⟩
  simp only at k1 k2 k3
  subst k1
  refine xt2 gy79 @Ret.eq_1 ?_;try exact⟨⟩
  exact⟨ha.trans (k2.le (by omega)),by omega⟩
theorem sortsN:SortsN:=fun ρ M nx=>by
 refine FOk.walk (m:=11) (rs:=[]) follows Tryz.func78 (by kernel_rfl) rfl rfl rfl ?_
 conv in W _ _ _ _ _ _ _=>arg 4;whnf
 have hu:IntKind.u64.wrap 0=((0:Nat):Int):=by decide
 refine xt2 gy83 hu ?_;try exact⟨⟩
 refine CN_fok (f69 ρ _ _ 0 (by omega)) ?_
 rintro⟨u,M1,n1⟩ ⟨g1,g2,g3⟩
 simp only at g1 g2 g3
 subst g1
 refine xt1 gy83 ?_;try exact⟨⟩
 refine CN_fok (f107n ρ _ _ _) ?_
 rintro⟨u,M2,n2⟩ ⟨k1,k2,k3⟩
 simp only at k1 k2 k3
 subst k1
 refine xt2 gy83 @Ret.eq_1 ?_;try exact⟨⟩
 exact⟨(g2.le (by omega)).trans (k2.le (by omega)),by omega⟩
theorem sortsU:SortsU:=fun ρ M nx k xs hx h0 hk hM=>by
 obtain⟨n,hn⟩:∃n,n=xs.length:=⟨_,rfl⟩
 rw[<-hn]
 have hu:IntKind.u64.wrap (n:Int)=(n:Int):=wrap_u64 (by omega) (by omega)
 have hM2:tget M k=some (rwU xs.toArray):=hM
 refine FOk.walk (m:=11) (rs:=[]) follows Tryz.func78 (by kernel_rfl) rfl rfl rfl ?_
 conv in W _ _ _ _ _ _ _=>arg 4;whnf
 refine xt2 gy83 hu ?_;try exact⟨⟩
 refine CN_fok (f69 ρ _ _ n (by omega)) ?_
 rintro⟨u,M1,n1⟩ ⟨g1,g2,g3⟩
 simp only at g1 g2 g3
 subst g1
 refine xt1 gy83 ?_;try exact⟨⟩
 refine CN_fok (f107 ρ n (arrU k n) (d:=xs.toArray) ((g2 k (by omega)).trans hM2) (by simp[hn]) (by omega) (by omega) (a:=0) (b:=n) _ (by omega) (by omega) (by omega) (Or.inl rfl)) ?_
 rintro⟨u,M2,n2⟩ ⟨k1,⟨d',k2,⟨k3,k4⟩,k5⟩,k6,k7⟩
 simp only at k1 k5 k6 k7
 subst k1
 refine xt1 gy83 ?_;try exact⟨⟩
 refine⟨⟨d'.toList,perm_list hn.symm k2 k3,sorted_list k2 k4 fun x y h=>?_,k5⟩,fun j hj hne=>(k6 j (by omega) hne).trans (g2 j (by omega)),by omega⟩
 simp only[ltInt,decide_eq_false_iff_not]at h
 omega
theorem sortsI:SortsI:=fun ρ M nx k xs hx h0 hk hM=>by
 obtain⟨n,hn⟩:∃n,n=xs.length:=⟨_,rfl⟩
 rw[<-hn]
 have hu:IntKind.u64.wrap (n:Int)=(n:Int):=wrap_u64 (by omega) (by omega)
 have hM2:tget M k=some (rwI xs.toArray):=hM
 refine FOk.walk (m:=14) (rs:=[]) follows Tryz.func39 (by kernel_rfl) rfl rfl rfl ?_
 conv in W _ _ _ _ _ _ _=>arg 4;whnf
 refine xt2 gy84 hu ?_;try exact⟨⟩
 refine CN_fok (f69 ρ _ _ n (by omega)) ?_
 rintro⟨u,M1,n1⟩ ⟨g1,g2,g3⟩
 simp only at g1 g2 g3
 subst g1
 refine xt1 gy84 ?_;try exact⟨⟩
 refine CN_fok (f68 ρ n (arrI k n) (d:=xs.toArray) ((g2 k (by omega)).trans hM2) (by simp[hn]) (by omega) (by omega) (a:=0) (b:=n) _ (by omega) (by omega) (by omega) (Or.inl rfl)) ?_
 rintro⟨u,M2,n2⟩ ⟨k1,⟨d',k2,⟨k3,k4⟩,k5⟩,k6,k7⟩
 simp only at k1 k5 k6 k7
 subst k1
 refine xt1 gy84 ?_;try exact⟨⟩
 refine⟨⟨d'.toList,perm_list hn.symm k2 k3,sorted_list k2 k4 fun x y h=>?_,k5⟩,fun j hj hne=>(k6 j (by omega) hne).trans (g2 j (by omega)),by omega⟩
 simp only[ltI,decide_eq_false_iff_not]at h
 omega
end
end Go.Xs
namespace Go.Xs
open Go.Proofs Go.RowKit
set_option maxRecDepth 100000
theorem names:(Tryz.prog.funcs.toList.all fun fn=>!(fn.name == "runtime.NumGoroutine"))=true:=by kernel_rfl
theorem cntF:Extern.findNext Tryz.f223=none/\Extern.find Tryz.f223=some Extern.BytealgCount.count:=⟨by kernel_rfl,by kernel_rfl⟩
theorem idxF:Extern.findNext Tryz.f299=none/\Extern.find Tryz.f299=some Extern.BytealgIndexByte.indexByte:=⟨by kernel_rfl,by kernel_rfl⟩
theorem byte_ext (ρ:Rho):ExtOk Tryz.prog ρ (extB 223 299) :=
 extB_ok ⟨_,Tryz.func223,by kernel_rfl,names_ok names _ _ Tryz.func223,cntF⟩ ⟨_,Tryz.func299,by kernel_rfl,names_ok names _ _ Tryz.func299,idxF⟩
theorem run_works:okB (runF Tryz.prog (fun _ _ _=>none) (extB 223 299) 100000 60 8 [] .nil 0)=true:=by kernel_rfl
theorem works (w:World):Calls Tryz.prog 8 #[] w fun e w'=>e = .returned (.bool true)/\Below w.heap.size w w' :=
 law_calls (args:=[]) (vs:=[]) (ρ:=⟨fun _=>0,fun _=>none,false⟩) (runF_ok follows (names_ok names) (fun _ _ _ _ _ h=>by cases h) (byte_ext _) (fuel:=100000) 60) (nx:=0) (ok_nil fun _ _ h=>by cases h) owned_nil (fun _ _=>rfl) run_works (by simp only[VRs]) Tryz.func8 (names_ok names _ _ Tryz.func8) (by kernel_rfl)
theorem f8w (ρ:Rho) (M:Hp) (n:Nat):FOk Tryz.prog ρ 8 [] M n fun r=>r.1 = .bool true/\Agr n M r.2.1:=by
 have h0:FOk0 Tryz.prog ρ 8 [] M n fun r=>r=(.bool true,M,n):=fun w σ vs hok hfree hargs o a K Q hK=>by
  obtain rfl:vs=[]:=by simpa only [VRs] using hargs
  exact calls_upon hok Tryz.func8 (names_ok names _ _ Tryz.func8) (by kernel_rfl) (works w) (show VR ρ σ (.bool true) (.bool true) from by simp only[VR]) fun u w' q1 q2 q3=>hK u w' ⟨_,rfl,σ,q1,q2,q3,Nat.le_refl _,fun k=>.inl rfl⟩
 exact⟨h0.mono fun r e=>by subst e;exact⟨rfl,Agr.refl _ _⟩,fun _ _=>⟨_,⟨rfl,Agr.refl _ _⟩,h0⟩⟩
end Go.Xs
namespace Go.Xs
open Go.Proofs Go.RowKit
set_option maxRecDepth 100000
open Go.ChangeShapes Go.WideShapes Go.ChangeAt
variable {H:Type} {enc:TypeId×Value->H}
theorem orderEnds_calls {W:World} {base:Nat} {v:Value} {d:DataW H} {p:List MemPlace} (hb0:∃(b:Nat) (us:Array Value) (t:TypeId) (fz:Nat×Nat),W.heap[b]?=some (.cells us t fz)) (hk:Value.okWide Tryz.prog W .any base 22 v) (h:DataW.Trod enc Tryz.prog W 0 (fun _=>true) true 22 v d p) :
 Calls Tryz.prog 5 #[v] W fun e w'=>e = .returned (.bool true)/\Below W.heap.size W w':=by
 obtain⟨a,len,cap,rfl⟩:=okWide_slice Tryz.underlying22 hk
 obtain⟨n,h⟩:=h
 obtain⟨σ,M,nx,xs,g,_,hv,ht,hl⟩:=trod_ty (ρ:=⟨fun _=>0,fun _=>none,false⟩) recTypes_ok hb0 n 22 [.slice a len cap] ⟨_,h⟩ noS .nil 0 (Good.start _ _ fun _=>rfl) (by decide)
 have hl:xs.length=1:=hl.trans (by kernel_rfl)
 obtain⟨x,rfl⟩:∃x,xs=[x]:=by
  match xs,hl with
  | [x],_=>exact⟨x,rfl⟩
 obtain⟨L,h1,h2⟩:=recs_of ht
 exact fok_calls (vs:=[.slice a len cap]) g (f5 sortsU sortsN sortsI _ rfl h1 (Nat.le_refl _) h2 fun M' n' _ _=>f8w _ M' n') (fun r h=>h.1) hv Tryz.func5 (by kernel_rfl) (by kernel_rfl)
end Go.Xs
