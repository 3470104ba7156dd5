/- A part: the walk. -/
import Derived.Test.YtlgnhkloikmhcaaGreatDoorXsQE
import Derived.Test.YtlgnhkloikmhcaaGreatDoorXsQF
set_option maxRecDepth 100000
set_option maxHeartbeats 8000000
set_option linter.all false
set_option linter.deprecated false
namespace Go.Xs
open List Nat Option
variable{M:Hp}{a b k lo n nx pivot:Nat}{off:Nat->Nat}{sv:XV}
noncomputable section
open Go.Proofs Go.Sort
theorem f180 (ρ:aK) {lt:aF->aF->Bool} {rwo:Array aF->bx} {enc:aF->XV} {c:aF->aF->Int} (A:AE ρ lt rwo enc c k n sv off) {d:Array aF} (hM:gG M k=some (rwo d)) (hd:d.size=n) (hk:k<nx) (hn:n<=4000) (qJ:a<=b) (hb:b<=n) :
 ar an ρ 180 [sv,.int .i64 a,.int .i64 b,.fn (.func 11) [] []] M nx (yh rwo nx k M (insertionSort lt d a b)):=by
 refine ar.wk 53 [] Tryz.func180 ?_
 let J0:=(fun(m:Nat) (s:XS)=>∃(i:Nat) (d':Array aF),gG s.env 0=some sv/\gG s.env 1=some (.int .i64 a)/\gG s.env 2=some (.int .i64 b)/\gG s.env 3=some (.fn (.func 11) [] [])/\gG s.env 8=some (.int .i64 i)/\gG s.M k=some (rwo d')/\bK nx k M s.M/\nx<=s.nx/\To lt a b n d m i d')
 let J1:=fun(i:Nat) (d1:Array aF)=>(fun(m2:Nat) (s:XS)=>∃(d':Array aF),m2<=i/\gG s.env 0=some sv/\gG s.env 1=some (.int .i64 a)/\gG s.env 2=some (.int .i64 b)/\gG s.env 3=some (.fn (.func 11) [] [])/\gG s.env 8=some (.int .i64 i)/\gG s.env 9=some (.int .i64 m2)/\gG s.M k=some (rwo d')/\d'.size=n/\bK nx k M s.M/\nx<=s.nx/\Is (insInner lt a m2 d') (insInner lt a i d1))
 have gz:=Wr.mk Oo;exact mc1
theorem f184 (ρ:aK) {lt:aF->aF->Bool} {rwo:Array aF->bx} {enc:aF->XV} {c:aF->aF->Int} (A:AE ρ lt rwo enc c k n sv off) {d:Array aF} (hM:gG M k=some (rwo d)) (hd:d.size=n) (hk:k<nx) (hn:n<=4000) (qJ:a<b) (hb:b<=n) :
 ar an ρ 184 [sv,.int .i64 a,.int .i64 b,.fn (.func 11) [] []] M nx (yh rwo nx k M (reverseRange d a b)):=by
 refine ar.wk 34 [] Tryz.func184 ?_
 let J0:=(fun(m:Nat) (s:XS)=>∃(i j:Nat) (d':Array aF),gG s.env 0=some sv/\gG s.env 8=some (.int .i64 i)/\gG s.env 9=some (.int .i64 j)/\gG s.M k=some (rwo d')/\bK nx k M s.M/\nx<=s.nx/\S3 a b n d m i j d')
 have gz:=Wr.mk Oo;exact mc0
theorem f261 (ρ:aK) {lt:aF->aF->Bool} {rwo:Array aF->bx} {enc:aF->XV} {c:aF->aF->Int} (A:AE ρ lt rwo enc c k n sv off) {d:Array aF} (hM:gG M k=some (rwo d)) (hd:d.size=n) (hk:k<nx) (hn:n<=4000) {root hi first:Nat} (hb:first+hi<=n) (hr:root<=4000) :
 ar an ρ 261 [sv,.int .i64 root,.int .i64 hi,.int .i64 first,.fn (.func 11) [] []] M nx (yh rwo nx k M (siftDown lt hi first root d)):=by
 refine ar.wk 82 [] Tryz.func261 ?_
 let J0:=(fun(m:Nat) (s:XS)=>∃(r:Nat) (d':Array aF),gG s.env 0=some sv/\gG s.env 2=some (.int .i64 hi)/\gG s.env 3=some (.int .i64 first)/\gG s.env 4=some (.fn (.func 11) [] [])/\gG s.env 10=some (.int .i64 r)/\gG s.M k=some (rwo d')/\bK nx k M s.M/\nx<=s.nx/\aaa lt hi first root n d m r d')
 have gz:=Wr.mk Jf;exact mc3
theorem f181 (ρ:aK) {lt:aF->aF->Bool} {rwo:Array aF->bx} {enc:aF->XV} {c:aF->aF->Int} (A:AE ρ lt rwo enc c k n sv off) {d:Array aF} (hM:gG M k=some (rwo d)) (hd:d.size=n) (hk:k<nx) (hn:n<=4000) (qJ:a<b) (hb:b<=n) :
 ar an ρ 181 [sv,.int .i64 a,.int .i64 b,.fn (.func 11) [] []] M nx (yh rwo nx k M (heapSort lt d a b)):=by
 refine ar.wk 60 [] Tryz.func181 ?_
 let J0:=(fun(m:Nat) (s:XS)=>∃(kk:Nat) (d':Array aF),gG s.env 0=some sv/\gG s.env 3=some (.fn (.func 11) [] [])/\gG s.env 8=some (.int .i64 a)/\gG s.env 9=some (.int .i64 0)/\gG s.env 10=some (.int .i64 (b - a:Nat))/\gG s.env 11=some (.int .i64 ((kk:Int) - 1))/\gG s.M k=some (rwo d')/\bK nx k M s.M/\nx<=s.nx/\aaf lt a b n d m kk d')
 let J1:=(fun(m:Nat) (s:XS)=>∃(kk:Nat) (d':Array aF),gG s.env 0=some sv/\gG s.env 3=some (.fn (.func 11) [] [])/\gG s.env 8=some (.int .i64 a)/\gG s.env 9=some (.int .i64 0)/\gG s.env 12=some (.int .i64 ((kk:Int) - 1))/\gG s.M k=some (rwo d')/\bK nx k M s.M/\nx<=s.nx/\aab lt a b n d m kk d')
 have gz:=Wr.mk Oo;have wsift:=Wr.mk @f261;exact mc2
theorem WM (ρ:aK) {lt:aF->aF->Bool} {rwo:Array aF->bx} {enc:aF->XV} {c:aF->aF->Int} (A:AE ρ lt rwo enc c k n sv off) {d:Array aF} (hM:gG M k=some (rwo d)) (hd:d.size=n) (hk:k<nx) (hn:n<=4000) {p up:Nat} {s:Int} (hp:gG M p=some (.row [.int .i64 s])) (vh:k<p) (Gp:p<nx) (ha:lo<=a/\a<up) (hb:lo<=b/\b<up) (hu:up<=n) :
 ar an ρ 326 [sv,.int .i64 a,.int .i64 b,.mp p 0,.fn (.func 11) [] []] M nx (O2 nx p M lo up):=by
 have x1:=A.ix a aa;have x2:=A.ix b aa;have l1:=A.ld M d hM hd a aa;have l2:=A.ld M d hM hd b aa;refine ar.wk 32 [.tmp 10,.tmp 11] Tryz.func326 ?_;have gz:=Wr.mk Oo;exact mc7
theorem f265 (ρ:aK) {lt:aF->aF->Bool} {rwo:Array aF->bx} {enc:aF->XV} {c:aF->aF->Int} (A:AE ρ lt rwo enc c k n sv off) {d:Array aF} (hM:gG M k=some (rwo d)) (hd:d.size=n) (hk:k<nx) (hn:n<=4000) {p up c:Nat} {s:Int} (hp:gG M p=some (.row [.int .i64 s])) (vh:k<p) (Gp:p<nx) (ha:lo<=a/\a<up) (hb:lo<=b/\b<up) (hc:lo<=c/\c<up) (hu:up<=n) :
 ar an ρ 265 [sv,.int .i64 a,.int .i64 b,.int .i64 c,.mp p 0,.fn (.func 11) [] []] M nx (O1 nx p M lo up):=by
 refine ar.wk 41 [.tmp 12] Tryz.func265 ?_;have jS:=Wr.mk @WM;exact mc6
theorem f264 (ρ:aK) {lt:aF->aF->Bool} {rwo:Array aF->bx} {enc:aF->XV} {c:aF->aF->Int} (A:AE ρ lt rwo enc c k n sv off) {d:Array aF} (hM:gG M k=some (rwo d)) (hd:d.size=n) (hk:k<nx) (hn:n<=4000) {p up:Nat} {s:Int} (hp:gG M p=some (.row [.int .i64 s])) (vh:k<p) (Gp:p<nx) (ha:lo+1<=a/\a+1<up) (hu:up<=n) :
 ar an ρ 264 [sv,.int .i64 a,.mp p 0,.fn (.func 11) [] []] M nx (O1 nx p M lo up):=by
 have w1:=cN (x:=a) aa aa;have w2:=bu (x:=a) aa;refine ar.wk 18 [.tmp 8] Tryz.func264 ?_;have gz:=Wr.mk lK;have wmed:=Wr.mk @f265;exact mc5
theorem f183 (ρ:aK) {lt:aF->aF->Bool} {rwo:Array aF->bx} {enc:aF->XV} {c:aF->aF->Int} (A:AE ρ lt rwo enc c k n sv off) {d:Array aF} (hM:gG M k=some (rwo d)) (hd:d.size=n) (hk:k<nx) (hn:n<=4000) (qJ:a<b) (hb:b<=n) :
 ar an ρ 183 [sv,.int .i64 a,.int .i64 b,.fn (.func 11) [] []] M nx (ot nx M a b):=by
 obtain⟨q,hq⟩:=aap ((b - a) / 4);have w1:=dO (x:=b) (y:=a) aa aa;have w2:IntKind.i64.wrap (((b - a:Nat):Int).tdiv 4)=(q:Int):=by rw[show ((b - a:Nat):Int).tdiv 4=(q:Int) by rw[Int.tdiv_eq_ediv_of_nonneg aa];omega,wrap_i64 aa aa]
 have w3:IntKind.i64.wrap ((q:Int)*1)=(q:Int):=by rw[wrap_i64 aa aa];omega
 have w4:IntKind.i64.wrap ((q:Int)*2)=((2*q:Nat):Int):=by rw[wrap_i64 aa aa];omega
 have w5:IntKind.i64.wrap ((q:Int)*3)=((3*q:Nat):Int):=by rw[wrap_i64 aa aa];omega
 have w6:=dK (x:=a) (y:=q) aa;have w7:=dK (x:=a) (y:=2*q) aa;have w8:=dK (x:=a) (y:=3*q) aa;refine ar.wk 63 [.tmp 8,.tmp 9] Tryz.func183 ?_;have gz:=Wr.mk lK;have wadj:=Wr.mk @f264;have wmed:=Wr.mk @f265;exact mc4
theorem f186 (ρ:aK) {lt:aF->aF->Bool} {rwo:Array aF->bx} {enc:aF->XV} {c:aF->aF->Int} (A:AE ρ lt rwo enc c k n sv off) {d:Array aF} (hM:gG M k=some (rwo d)) (hd:d.size=n) (hk:k<nx) (hn:n<=4000) (dX:a<=pivot) (JZ:pivot<b) (hb:b<=n) :
 ar an ρ 186 [sv,.int .i64 a,.int .i64 b,.int .i64 pivot,.fn (.func 11) [] []] M nx (LA rwo nx k M (.int .i64 ((partitionEqual lt d a b pivot).1:Nat)) (partitionEqual lt d a b pivot).2):=by
 obtain⟨R,hR⟩:=aap (partitionEqual lt d a b pivot);rw[<-hR];have w1:=bu (x:=a) aa;have w2:=cN (x:=b) aa aa;obtain⟨y1,y2,k1,k2,dg,dh⟩:=A.sw M d hM hd (i:=a) (j:=pivot) aa aa;refine ar.wk 90 [.tmp 10] Tryz.func186 ?_
 let J0:=(fun(m:Nat) (s:XS)=>∃(i j:Nat) (d1:Array aF),gG s.env 0=some sv/\gG s.env 1=some (.int .i64 a)/\gG s.env 4=some (.fn (.func 11) [] [])/\gG s.env 11=some (.int .i64 i)/\gG s.env 12=some (.int .i64 j)/\gG s.M k=some (rwo d1)/\bK nx k M s.M/\nx<=s.nx/\TH lt a b n R m i j d1)
 let J1:=fun(j:Nat) (d1:Array aF) (i:Nat)=>(fun(m2:Nat) (s:XS)=>∃i':Nat,gG s.env 0=some sv/\gG s.env 1=some (.int .i64 a)/\gG s.env 4=some (.fn (.func 11) [] [])/\gG s.env 11=some (.int .i64 i')/\gG s.env 12=some (.int .i64 j)/\gG s.M k=some (rwo d1)/\bK nx k M s.M/\nx<=s.nx/\Rq (fun x=>!lt d1[a]! x) d1 i j i' m2)
 let J2:=fun(i2:Nat) (j:Nat) (d1:Array aF)=>(fun(s:XS)=>gG s.env 0=some sv/\gG s.env 1=some (.int .i64 a)/\gG s.env 4=some (.fn (.func 11) [] [])/\gG s.env 11=some (.int .i64 i2)/\gG s.env 12=some (.int .i64 j)/\gG s.M k=some (rwo d1)/\bK nx k M s.M/\nx<=s.nx)
 let J3:=fun(i2:Nat) (d1:Array aF) (j:Nat)=>(fun(m2:Nat) (s:XS)=>∃j':Nat,gG s.env 0=some sv/\gG s.env 1=some (.int .i64 a)/\gG s.env 4=some (.fn (.func 11) [] [])/\gG s.env 11=some (.int .i64 i2)/\gG s.env 12=some (.int .i64 j')/\gG s.M k=some (rwo d1)/\bK nx k M s.M/\nx<=s.nx/\Rw (fun x=>lt d1[a]! x) d1 i2 j j' m2)
 let J4:=fun(i2:Nat) (j2:Nat) (d1:Array aF)=>(fun(s:XS)=>gG s.env 0=some sv/\gG s.env 1=some (.int .i64 a)/\gG s.env 4=some (.fn (.func 11) [] [])/\gG s.env 11=some (.int .i64 i2)/\gG s.env 12=some (.int .i64 j2)/\gG s.M k=some (rwo d1)/\bK nx k M s.M/\nx<=s.nx)
 have gz:=Wr.mk Jf;exact mc8
theorem f187 (ρ:aK) {lt:aF->aF->Bool} {rwo:Array aF->bx} {enc:aF->XV} {c:aF->aF->Int} (A:AE ρ lt rwo enc c k n sv off) {d:Array aF} (hM:gG M k=some (rwo d)) (hd:d.size=n) (hk:k<nx) (hn:n<=4000) (dX:a<=pivot) (JZ:pivot<b) (hb:b<=n) :
 ar an ρ 187 [sv,.int .i64 a,.int .i64 b,.int .i64 pivot,.fn (.func 11) [] []] M nx (LA rwo nx k M (.tup [.int .i64 ((partition lt d a b pivot).1:Nat),.bool (partition lt d a b pivot).2.1]) (partition lt d a b pivot).2.2):=by
 obtain⟨R,hR⟩:=aap (partition lt d a b pivot);rw[<-hR];obtain⟨d1,rB⟩:=aap (swp d a pivot);obtain⟨i,hi⟩:=aap (a+1);obtain⟨j,hj⟩:=aap (b - 1);obtain⟨i2,bD⟩:=aap (scanUp (fun x=>lt x d1[a]!) d1 j i);obtain⟨j2,f_⟩:=aap (scanDown (fun x=>!lt x d1[a]!) d1 i2 j);have bv:d1.size=n:=by rw[rB,swp_size];exact hd
 obtain⟨b1,b2,b3,b4,b5⟩:=Uj (fun x=>rfl) aa aa bD f_;have Gj:R=if i2>j2 then (j2,true,swp d1 j2 a) else ((partLoop lt a (i2+1) (j2 - 1) (swp d1 i2 j2)).1,false,swp (partLoop lt a (i2+1) (j2 - 1) (swp d1 i2 j2)).2 (partLoop lt a (i2+1) (j2 - 1) (swp d1 i2 j2)).1 a):=by subst f_;subst bD;subst rB;subst hi;subst hj;exact hR
 have Gj:=Is.mk Gj;have w1:IntKind.i64.wrap ((a:Int)+1)=(i:Int):=by rw[wrap_i64 aa aa];omega
 have w2:IntKind.i64.wrap ((b:Int) - 1)=(j:Int):=by rw[wrap_i64 aa aa];omega
 obtain⟨y1,y2,k1,k2,dg,dh⟩:=A.sw M d hM hd (i:=a) (j:=pivot) aa aa;have rz:rwo ((d.setIfInBounds a d[pivot]!).setIfInBounds pivot d[a]!)=rwo d1:=by rw[rB];rfl
 have bD:=Is.mk bD;have f_:=Is.mk f_;have hR:=Is.mk hR;have rB:=Is.mk rB;refine ar.wk 178 [.tmp 10,.tmp 11] Tryz.func187 ?_
 let J0:=fun(i:Nat) (j:Nat) (d1:Array aF)=>(fun(s:XS)=>gG s.env 0=some sv/\gG s.env 1=some (.int .i64 a)/\gG s.env 4=some (.fn (.func 11) [] [])/\gG s.env 12=some (.int .i64 i)/\gG s.env 13=some (.int .i64 j)/\gG s.M k=some (rwo d1)/\bK nx k M s.M/\nx<=s.nx)
 let J1:=fun(j:Nat) (d1:Array aF) (i:Nat)=>(fun(m2:Nat) (s:XS)=>∃i':Nat,gG s.env 0=some sv/\gG s.env 1=some (.int .i64 a)/\gG s.env 4=some (.fn (.func 11) [] [])/\gG s.env 12=some (.int .i64 i')/\gG s.env 13=some (.int .i64 j)/\gG s.M k=some (rwo d1)/\bK nx k M s.M/\nx<=s.nx/\Rq (fun x=>lt x d1[a]!) d1 i j i' m2)
 let J2:=fun(i2:Nat) (j:Nat) (d1:Array aF)=>(fun(s:XS)=>gG s.env 0=some sv/\gG s.env 1=some (.int .i64 a)/\gG s.env 4=some (.fn (.func 11) [] [])/\gG s.env 12=some (.int .i64 i2)/\gG s.env 13=some (.int .i64 j)/\gG s.M k=some (rwo d1)/\bK nx k M s.M/\nx<=s.nx)
 let J3:=fun(i2:Nat) (d1:Array aF) (j:Nat)=>(fun(m2:Nat) (s:XS)=>∃j':Nat,gG s.env 0=some sv/\gG s.env 1=some (.int .i64 a)/\gG s.env 4=some (.fn (.func 11) [] [])/\gG s.env 12=some (.int .i64 i2)/\gG s.env 13=some (.int .i64 j')/\gG s.M k=some (rwo d1)/\bK nx k M s.M/\nx<=s.nx/\Rw (fun x=>!lt x d1[a]!) d1 i2 j j' m2)
 let J4:=fun(i2:Nat) (j2:Nat) (d1:Array aF)=>(fun(s:XS)=>gG s.env 0=some sv/\gG s.env 1=some (.int .i64 a)/\gG s.env 4=some (.fn (.func 11) [] [])/\gG s.env 12=some (.int .i64 i2)/\gG s.env 13=some (.int .i64 j2)/\gG s.M k=some (rwo d1)/\bK nx k M s.M/\nx<=s.nx)
 let J5:=fun(Rr:Nat×Array aF)=>(fun(m:Nat) (s:XS)=>∃(i j:Nat) (d1:Array aF),gG s.env 0=some sv/\gG s.env 1=some (.int .i64 a)/\gG s.env 4=some (.fn (.func 11) [] [])/\gG s.env 12=some (.int .i64 i)/\gG s.env 13=some (.int .i64 j)/\gG s.M k=some (rwo d1)/\bK nx k M s.M/\nx<=s.nx/\aae lt a b n Rr m i j d1)
 let J6:=fun(j:Nat) (d1:Array aF) (i:Nat)=>(fun(m2:Nat) (s:XS)=>∃i':Nat,gG s.env 0=some sv/\gG s.env 1=some (.int .i64 a)/\gG s.env 4=some (.fn (.func 11) [] [])/\gG s.env 12=some (.int .i64 i')/\gG s.env 13=some (.int .i64 j)/\gG s.M k=some (rwo d1)/\bK nx k M s.M/\nx<=s.nx/\Rq (fun x=>lt x d1[a]!) d1 i j i' m2)
 let J7:=fun(i2:Nat) (j:Nat) (d1:Array aF)=>(fun(s:XS)=>gG s.env 0=some sv/\gG s.env 1=some (.int .i64 a)/\gG s.env 4=some (.fn (.func 11) [] [])/\gG s.env 12=some (.int .i64 i2)/\gG s.env 13=some (.int .i64 j)/\gG s.M k=some (rwo d1)/\bK nx k M s.M/\nx<=s.nx)
 let J8:=fun(i2:Nat) (d1:Array aF) (j:Nat)=>(fun(m2:Nat) (s:XS)=>∃j':Nat,gG s.env 0=some sv/\gG s.env 1=some (.int .i64 a)/\gG s.env 4=some (.fn (.func 11) [] [])/\gG s.env 12=some (.int .i64 i2)/\gG s.env 13=some (.int .i64 j')/\gG s.M k=some (rwo d1)/\bK nx k M s.M/\nx<=s.nx/\Rw (fun x=>!lt x d1[a]!) d1 i2 j j' m2)
 let J9:=fun(i2:Nat) (j2:Nat) (d1:Array aF)=>(fun(s:XS)=>gG s.env 0=some sv/\gG s.env 1=some (.int .i64 a)/\gG s.env 4=some (.fn (.func 11) [] [])/\gG s.env 12=some (.int .i64 i2)/\gG s.env 13=some (.int .i64 j2)/\gG s.M k=some (rwo d1)/\bK nx k M s.M/\nx<=s.nx)
 have gz:=Wr.mk Jf;exact mc9
theorem f185 (ρ:aK) {lt:aF->aF->Bool} {rwo:Array aF->bx} {enc:aF->XV} {c:aF->aF->Int} (A:AE ρ lt rwo enc c k n sv off) {d:Array aF} (hM:gG M k=some (rwo d)) (hd:d.size=n) (hk:k<nx) (hn:n<=4000) (qJ:a<b) (hb:b<=n) :
 ar an ρ 185 [sv,.int .i64 a,.int .i64 b,.fn (.func 11) [] []] M nx (LA rwo nx k M (.bool (partialInsertionSort lt d a b).2) (partialInsertionSort lt d a b).1):=by
 obtain⟨R,hR⟩:=aap (partialInsertionSort lt d a b);rw[<-hR];have hR:=Is.mk hR;have w1:=bu (x:=a) aa;refine ar.wk 141 [.tmp 8] Tryz.func185 ?_
 let J0:=(fun(m:Nat) (s:XS)=>∃(jj i:Nat) (d1:Array aF),gG s.env 0=some sv/\gG s.env 1=some (.int .i64 a)/\gG s.env 2=some (.int .i64 b)/\gG s.env 3=some (.fn (.func 11) [] [])/\gG s.env 9=some (.int .i64 i)/\gG s.env 10=some (.int .i64 jj)/\gG s.M k=some (rwo d1)/\bK nx k M s.M/\nx<=s.nx/\aad lt a b n R m jj i d1)
 let J1:=fun(jj:Nat) (d1:Array aF) (i:Nat)=>(fun(m2:Nat) (s:XS)=>∃i':Nat,gG s.env 0=some sv/\gG s.env 1=some (.int .i64 a)/\gG s.env 2=some (.int .i64 b)/\gG s.env 3=some (.fn (.func 11) [] [])/\gG s.env 9=some (.int .i64 i')/\gG s.env 10=some (.int .i64 jj)/\gG s.M k=some (rwo d1)/\bK nx k M s.M/\nx<=s.nx/\ScS lt d1 b i i' m2)
 let J2:=fun(i2:Nat) (jj:Nat) (d1:Array aF)=>(fun(s:XS)=>gG s.env 0=some sv/\gG s.env 1=some (.int .i64 a)/\gG s.env 2=some (.int .i64 b)/\gG s.env 3=some (.fn (.func 11) [] [])/\gG s.env 9=some (.int .i64 i2)/\gG s.env 10=some (.int .i64 jj)/\gG s.M k=some (rwo d1)/\bK nx k M s.M/\nx<=s.nx)
 let J3:=fun(i2:Nat) (jj:Nat) (d3:Array aF)=>(fun(m2:Nat) (s:XS)=>∃(j':Nat) (d':Array aF),gG s.env 0=some sv/\gG s.env 1=some (.int .i64 a)/\gG s.env 2=some (.int .i64 b)/\gG s.env 3=some (.fn (.func 11) [] [])/\gG s.env 9=some (.int .i64 i2)/\gG s.env 10=some (.int .i64 jj)/\gG s.env 11=some (.int .i64 j')/\gG s.M k=some (rwo d')/\bK nx k M s.M/\nx<=s.nx/\Vi lt n i2 d3 j' m2 d')
 let J4:=fun(i2:Nat) (jj:Nat) (d3:Array aF)=>(fun(s:XS)=>gG s.env 0=some sv/\gG s.env 1=some (.int .i64 a)/\gG s.env 2=some (.int .i64 b)/\gG s.env 3=some (.fn (.func 11) [] [])/\gG s.env 9=some (.int .i64 i2)/\gG s.env 10=some (.int .i64 jj)/\gG s.M k=some (rwo d3)/\bK nx k M s.M/\nx<=s.nx)
 let J5:=fun(i2:Nat) (jj:Nat) (d4:Array aF)=>(fun(m2:Nat) (s:XS)=>∃(j':Nat) (d':Array aF),gG s.env 0=some sv/\gG s.env 1=some (.int .i64 a)/\gG s.env 2=some (.int .i64 b)/\gG s.env 3=some (.fn (.func 11) [] [])/\gG s.env 9=some (.int .i64 i2)/\gG s.env 10=some (.int .i64 jj)/\gG s.env 12=some (.int .i64 j')/\gG s.M k=some (rwo d')/\bK nx k M s.M/\nx<=s.nx/\Vj lt n b i2 d4 j' m2 d')
 let J6:=fun(i2:Nat) (jj:Nat) (d4:Array aF)=>(fun(s:XS)=>gG s.env 0=some sv/\gG s.env 1=some (.int .i64 a)/\gG s.env 2=some (.int .i64 b)/\gG s.env 3=some (.fn (.func 11) [] [])/\gG s.env 9=some (.int .i64 i2)/\gG s.env 10=some (.int .i64 jj)/\gG s.M k=some (rwo d4)/\bK nx k M s.M/\nx<=s.nx)
 let J7:=fun(i2:Nat) (jj:Nat) (d3:Array aF)=>(fun(m2:Nat) (s:XS)=>∃(j':Nat) (d':Array aF),gG s.env 0=some sv/\gG s.env 1=some (.int .i64 a)/\gG s.env 2=some (.int .i64 b)/\gG s.env 3=some (.fn (.func 11) [] [])/\gG s.env 9=some (.int .i64 i2)/\gG s.env 10=some (.int .i64 jj)/\gG s.env 11=some (.int .i64 j')/\gG s.M k=some (rwo d')/\bK nx k M s.M/\nx<=s.nx/\Vi lt n i2 d3 j' m2 d')
 let J8:=fun(i2:Nat) (jj:Nat) (d3:Array aF)=>(fun(s:XS)=>gG s.env 0=some sv/\gG s.env 1=some (.int .i64 a)/\gG s.env 2=some (.int .i64 b)/\gG s.env 3=some (.fn (.func 11) [] [])/\gG s.env 9=some (.int .i64 i2)/\gG s.env 10=some (.int .i64 jj)/\gG s.M k=some (rwo d3)/\bK nx k M s.M/\nx<=s.nx)
 let J9:=fun(i2:Nat) (jj:Nat) (d4:Array aF)=>(fun(m2:Nat) (s:XS)=>∃(j':Nat) (d':Array aF),gG s.env 0=some sv/\gG s.env 1=some (.int .i64 a)/\gG s.env 2=some (.int .i64 b)/\gG s.env 3=some (.fn (.func 11) [] [])/\gG s.env 9=some (.int .i64 i2)/\gG s.env 10=some (.int .i64 jj)/\gG s.env 12=some (.int .i64 j')/\gG s.M k=some (rwo d')/\bK nx k M s.M/\nx<=s.nx/\Vj lt n b i2 d4 j' m2 d')
 let J10:=fun(i2:Nat) (jj:Nat) (d4:Array aF)=>(fun(s:XS)=>gG s.env 0=some sv/\gG s.env 1=some (.int .i64 a)/\gG s.env 2=some (.int .i64 b)/\gG s.env 3=some (.fn (.func 11) [] [])/\gG s.env 9=some (.int .i64 i2)/\gG s.env 10=some (.int .i64 jj)/\gG s.M k=some (rwo d4)/\bK nx k M s.M/\nx<=s.nx)
 have gz:=Wr.mk Jf;exact Tn
theorem W_ (ρ:aK) {lt:aF->aF->Bool} {rwo:Array aF->bx} {enc:aF->XV} {c:aF->aF->Int} (A:AE ρ lt rwo enc c k n sv off) {d:Array aF} (hM:gG M k=some (rwo d)) (hd:d.size=n) (hk:k<nx) (hn:n<=4000) (qJ:a<b) (hb:b<=n) :
 ar an ρ 182 [sv,.int .i64 a,.int .i64 b,.fn (.func 11) [] []] M nx (Sw rwo nx k n M a b d):=by
 obtain⟨l,hl⟩:=aap (b - a);have w1:IntKind.i64.wrap ((b:Int) - (a:Int))=(l:Int):=by rw[hl];exact dO aa aa
 refine ar.wk 67 [] Tryz.func182 ?_
 let J0:=fun(md:Nat) (i0:Nat)=>(fun(m:Nat) (s:XS)=>∃(i:Nat) (d':Array aF) (r:Int),gG s.env 0=some sv/\gG s.env 1=some (.int .i64 a)/\gG s.env 8=some (.int .i64 l)/\gG s.env 9=some (.mp (nx+8) 0)/\gG s.env 10=some (.int .u64 md)/\gG s.env 11=some (.int .i64 i)/\gG s.M k=some (rwo d')/\gG s.M (nx+8)=some (.row [.int .u64 r])/\bK nx k M s.M/\nx+9<=s.nx/\aag a b n d i0 m i d')
 have gz:=Wr.mk gP;exact aah
theorem Yf (ρ:aK):∀(sz:Nat) {M:Hp} {nx k n:Nat} {sv:XV} {off:Nat->Nat} {lt:aF->aF->Bool} {rwo:Array aF->bx} {enc:aF->XV} {c:aF->aF->Int} (A:AE ρ lt rwo enc c k n sv off) {d:Array aF} (hM:gG M k=some (rwo d)) (hd:d.size=n) (hk:k<nx) (hn:n<=4000) {a b:Nat} (lim:Int) (cJ:b - a<=sz) (qJ:a<=b) (hb:b<=n) (hB:Below lt a b d),
 ar an ρ 121 [sv,.int .i64 a,.int .i64 b,.int .i64 lim,.fn (.func 11) [] []] M nx (Mf lt rwo nx k n M a b d):=by
 intro sz
 induction sz using Nat.strongRecOn with
 | _ sz ih =>
 intro M nx k n sv off lt rwo enc c A d hM hd hk hn a b lim cJ qJ hb hB;refine ar.wk 148 [] Tryz.func121 ?_
 let J0:=(fun(m:Nat) (s:XS)=>∃(x y:Nat) (lim':Int) (wb wp:Bool) (d1:Array aF),gG s.env 0=some sv/\gG s.env 1=some (.int .i64 (x:Nat))/\gG s.env 2=some (.int .i64 (y:Nat))/\gG s.env 3=some (.int .i64 lim')/\gG s.env 4=some (.fn (.func 11) [] [])/\gG s.env 10=some (.bool wb)/\gG s.env 11=some (.bool wp)/\gG s.M k=some (rwo d1)/\bK nx k M s.M/\nx<=s.nx/\RZ lt a b n d m x y d1)
 let J1:=fun(x:Nat) (y:Nat) (wb:Bool) (wp:Bool) (d1:Array aF)=>(fun(s:XS)=>∃(iv:Int) (d2:Array aF),gG s.env 0=some sv/\gG s.env 1=some (.int .i64 (x:Nat))/\gG s.env 2=some (.int .i64 (y:Nat))/\gG s.env 3=some (.int .i64 iv)/\gG s.env 4=some (.fn (.func 11) [] [])/\gG s.env 10=some (.bool wb)/\gG s.env 11=some (.bool wp)/\gG s.env 12=some (.int .i64 (y - x:Nat))/\gG s.M k=some (rwo d2)/\bK nx k M s.M/\nx<=s.nx/\PmD n x y d1 d2)
 let J2:=fun(x:Nat) (y:Nat) (iv:Int) (wb:Bool) (wp:Bool) (d1:Array aF)=>(fun(s:XS)=>∃(p:Nat) (hh:Int) (d3:Array aF),gG s.env 0=some sv/\gG s.env 1=some (.int .i64 (x:Nat))/\gG s.env 2=some (.int .i64 (y:Nat))/\gG s.env 3=some (.int .i64 iv)/\gG s.env 4=some (.fn (.func 11) [] [])/\gG s.env 10=some (.bool wb)/\gG s.env 11=some (.bool wp)/\gG s.env 12=some (.int .i64 (y - x:Nat))/\gG s.env 13=some (.int .i64 p)/\gG s.env 14=some (.int .i64 hh)/\gG s.M k=some (rwo d3)/\bK nx k M s.M/\nx<=s.nx/\U6 n x y p d1 d3)
 let J3:=fun(x:Nat) (y:Nat) (iv:Int) (wb:Bool) (wp:Bool) (p:Nat) (d1:Array aF)=>(fun(s:XS)=>∃(d4:Array aF),gG s.env 0=some sv/\gG s.env 1=some (.int .i64 (x:Nat))/\gG s.env 2=some (.int .i64 (y:Nat))/\gG s.env 3=some (.int .i64 iv)/\gG s.env 4=some (.fn (.func 11) [] [])/\gG s.env 10=some (.bool wb)/\gG s.env 11=some (.bool wp)/\gG s.env 12=some (.int .i64 (y - x:Nat))/\gG s.env 13=some (.int .i64 p)/\gG s.M k=some (rwo d4)/\bK nx k M s.M/\nx<=s.nx/\U6 n x y p d1 d4)
 have gz:=Wr.mk vM;have wins:=Wr.mk @f180;have wheap:=Wr.mk @f181;have wbrk:=Wr.mk @W_;have wpiv:=Wr.mk @f183;have wrev:=Wr.mk @f184;have wpins:=Wr.mk @f185;have wpeq:=Wr.mk @f186;have wpart:=Wr.mk @f187;exact aac
end
end Go.Xs
