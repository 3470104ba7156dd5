/- A part of the proof: the layers and contracts it rests on. -/
import Derived.Test.YtcibleglaghhfaaGreatDoorXsPE
set_option maxRecDepth 100000
set_option maxHeartbeats 4000000
set_option linter.all false
set_option linter.deprecated false
namespace Go.Xs
open List Nat Option
variable{M:Hp}{v:XV}
open Go.Proofs
theorem di.one {α:Type} {lo hi sz:Nat} {enc:α->List XV} {l:List α} (h:di M lo hi v sz enc l) (hl:0<l.length):∃K,lo<=K/\K<hi/\gY M (fun q=>q=K) v sz enc l:=by
 obtain⟨h1,h2,⟨_,h3⟩ | ⟨k,rfl,⟨k1,k2⟩,h4⟩⟩:=h
 ·omega
 ·exact⟨k,k1,k2,h1,h2,.inr ⟨k,rfl,rfl,h4⟩⟩
theorem I1 (l:List bO):l.flatMap BG=l.map fun e=>.int .i64 e.wr:=by
 induction l with
 | nil=>rfl
 | cons a l ih=>simp only[flatMap_cons,map_cons,ih];rfl
theorem pM {P:Program} {ρ:aK} {n:Nat} {fs:List Fr} {Q:bg->XS->Prop} {s:XS} {a b c:Code}:W P ρ n (.seq a (.seq b c)) fs Q s=W P ρ n (.seq (.seq a b) c) fs Q s:=by
 show wx P ρ n a (fx (wx P ρ n b (fx (wx P ρ n c (pK P ρ n fs Q)) (pK P ρ n fs Q))) (pK P ρ n fs Q)) s=wx P ρ n a (fx (wx P ρ n b (fx (wx P ρ n c (pK P ρ n fs Q)) (pK P ρ n fs Q))) (fx (wx P ρ n c (pK P ρ n fs Q)) (pK P ρ n fs Q))) s;have:∀f g:XS->Prop,fx f (pK P ρ n fs Q)=fx f (fx g (pK P ρ n fs Q)):=fun f g=>by
  funext e s;cases e<;>rfl
 rw[<-this]
theorem HT (yc a:Bool):io am g0 4 .neq yc (.bool a) (.bool a)=some (.bool false):=by cases yc<;>cases a<;>kernel_rfl
theorem oF (ρ:aK) {L:List aR} {nx b o:Nat} {f:Int->Option (List bO)} (h:ey M b o f) (hL:cP M b v L) (hb:b<=nx) (hl:L.length<=10000) (x w n pos writer:Int) (bA:(f x).getD []=gX L x) (MK:∀e ∈ gX L x,0<=e.wr) :
 ar am ρ 16 [.mp o 0,v,.int .u64 x,.agg [.int .u64 w,.int .u64 n],.int .i64 pos,.int .i64 writer] M nx (fe nx M (.bool true)):=by
 refine ar.closed fun Za aX=>?_
 have ho:aO nx (.mp o 0)=true:=cq aX ae;have hv:aO nx v=true:=cq aX ae;clear Za aX;refine ar.wk 271 [.tmp 12] Tryz.func16 ?_;refine bR G9 ?_;generalize xu:ci M nx _=M1;have a1:aq nx M M1:=by rw[<-xu];exact O
 have z9:gG M1 nx=some (.row [.int .u64 w,.int .u64 n]):=by rw[<-xu];exact J
 clear xu;refine gQ (Ro ρ (hL.agr (a1.le hb)) Z Z x) ?_;rintro⟨Rh,M2,n2⟩ ⟨g1,g2,g3⟩;simp only at g1 g2 g3;have y9:=(g2 nx Z).trans z9;have a2:aq nx M M2:=a1.trans (g2.le Z);obtain⟨l,qz⟩:∃l,l=gX L x:=⟨_,rfl⟩;have NW:l.length<=10000:=by rw[qz];exact Nat.le_trans (nN L x) hl
 rw[<-qz]at g1 bA MK;refine mI G9 y9 ?_;refine lG (JR ρ w n M2 _) fun M3 n3 k2 k3=>?_
 refine bR G9 ?_;generalize Gi:ci (ci M3 _ _) _ _=M4;have a4:aq n2 M2 M4:=by rw[<-Gi];exact(by(repeat (refine aq.set ?_ Z _));exact k2.le Z)
 have z14:gG M4 n3=some (.row [.int .u64 w,.int .u64 n]):=by rw[<-Gi];exact J
 clear Gi;have x9:=(a4 nx Z).trans y9;have Yy:di M4 (nx+4) n3 Rh 4 aV l:=g1.up (fun q _ hq=>a4 q hq) Z;have iq:=fun N=>Yy.lp.len (P:=am) (t:=121) fP.2.2.2.2.2 N
 have aM4:aq nx M M4:=a2.trans (a4.le Z);clear g1 k2 y9 z9 a1 g2 a4 a2;refine aC (fun m' s=>∃(t:Nat),t<=2/\m'=2 - t/\gG s.env 0=some (.mp o 0)/\gG s.env 1=some v/\gG s.env 2=some (.int .u64 x)/\gG s.env 4=some (.int .i64 pos)/\gG s.env 5=some (.int .i64 writer)/\gG s.env 9=some (.mp nx 0)/\gG s.env 13=some Rh/\gG s.env 14=some (.mp n3 0)/\gG s.env 15=some (.int .i64 t)/\aq (n3+3) M4 s.M/\n3+3<=s.nx) 2 ⟨0,Z,Z,?_⟩ ?_
 ·refine bR G9 ?_
  exact⟨aq.refl _ _,Z⟩
 ·rintro m' ⟨env,M',nx'⟩ ⟨t,ht,ir,e0,e1,e2,e4,e5,e9,qI,pu,gW,ha,hn⟩
  simp only at e0 e1 e2 e4 e5 e9 qI pu gW ha hn;have bV:=eF t;have aM:aq nx M M':=aM4.trans (ha.le Z);by_cases aL:(t:Int)<2
  ·as_aux_lemma =>
   refine dw G9 e0 e1 e2 e4 e5 e9 qI pu gW aL ?_;refine gQ (SE ρ (h.agr (aM.le hb)) Z x (by rw[bA];omega)) ?_;rintro⟨u16,M5,n5⟩ ⟨g1,g2,g3⟩;simp only at g1 g2 g3;rw[bA]at g1;have Z9:=g1.sl;have CJ:=fun N=>Z9.len (P:=am) (t:=58) zp.2.2.2.2.2 N
   have a5:aq (n3+3) M4 M5:=ha.trans (g2.le Z);refine dp G9 e0 e1 e2 e4 e5 e9 qI pu gW ?_;refine gQ (KB ρ (h.agr ((aM4.trans (a5.le Z)).le hb)) Z x (by rw[bA];omega)) ?_;rintro⟨u49,M6,n6⟩ ⟨⟨K,rfl,K1,K2,K3⟩,k2,k3⟩;simp only at K2 K3 k2 k3;rw[bA]at K3;rw[bA];obtain⟨hwi1,Q8⟩:=Ll (l:=l) fun e he=>by have:=MK e he;omega
   rw[hwi1]at K3;have a6:aq n5 M5 M6:=k2.le Z;have hA6:gY M6 (fun q=>q=K) (.sl K 2 0 (l.length+1) (l.length+1)) 2 fA (oD l (-1)):=⟨by rw[Q8];omega,fg nW _,.inr ⟨K,by rw[Q8],rfl,K3⟩⟩;refine dp G9 e0 e1 e2 e4 e5 e9 qI pu gW ?_;refine gQ (f50 ρ (hL.agr (((aM4.trans (a5.le Z)).trans (a6.le Z)).le hb)) Z Z x (-1)) ?_;rintro⟨u52,M7,n7⟩ ⟨j1,j2,j3⟩;simp only at j1 j2 j3;rw[<-qz]at j1;have hA7:gY M7 (fun q=>q=K) (.sl K 2 0 (l.length+1) (l.length+1)) 2 fA (oD l (-1)):=dG.keep hA6 fun q hq=>by
    have hq:q=K:=hq;exact⟨j2 q Z,hq⟩
   have TX:gY M7 (fun q=>q≠K/\q<n7) u52 2 fA (oD l (-1)):=dG.keep j1 fun q hq=>by
    have VO:n6+2<=q:=hq.1;exact⟨rfl,Z,hq.2⟩
   refine dp G9 e0 e1 e2 e4 e5 e9 qI pu gW ?_;refine gQ (f49 ρ hA7 Z TX (by rw[Q8];omega)) ?_;rintro⟨u53,M8,n8⟩ ⟨m1,m2,m3⟩;simp only at m1 m2 m3;rw[decide_eq_true trivial]at m1;subst m1;have a8:aq n5 M5 M8:=fun q hq=>(m2 q Z Z).trans ((j2 q Z).trans (k2 q Z))
   clear hA6 hA7 TX j1 j2 m2 K3 a6 k2;refine ii G9 e0 e1 e2 e4 e5 e9 qI pu gW CJ iq ?_;refine gQ (P3 ρ (h.agr ((aM4.trans ((a5.trans (a8.le Z)).le Z)).le hb)) Z x writer (by rw[bA];omega)) ?_;rintro⟨u66,M9,n9⟩ ⟨q1,q2,q3⟩;simp only at q1 q2 q3;rw[bA]at q1;obtain⟨K',p1,p2,hA9⟩:=di.one q1 (by simp only[oD,length_cons];omega);refine dp G9 e0 e1 e2 e4 e5 e9 qI pu gW ?_;refine gQ (f50 ρ (hL.agr (((aM4.trans (a5.le Z)).trans ((a8.trans (q2.le Z)).le Z)).le hb)) Z Z x writer) ?_;rintro⟨u70,Ma,na⟩ ⟨r1,r2,r3⟩;simp only at r1 r2 r3;rw[<-qz]at r1;have hAa:gY Ma (fun q=>q=K') u66 2 fA (oD l writer):=dG.keep hA9 fun q hq=>by
    have hq:q=K':=hq;exact⟨r2 q Z,hq⟩
   have hBa:gY Ma (fun q=>q≠K'/\q<na) u70 2 fA (oD l writer):=dG.keep r1 fun q hq=>by
    have VO:n9+3<=q:=hq.1;exact⟨rfl,Z,hq.2⟩
   refine dp G9 e0 e1 e2 e4 e5 e9 qI pu gW ?_;refine gQ (f49 ρ hAa Z hBa (by have:=dS (yV writer) l 0;simp only[oD,length_cons];omega)) ?_;rintro⟨u71,Mb,nb⟩ ⟨m1,m2,m4⟩;simp only at m1 m2 m4;rw[decide_eq_true trivial]at m1;subst m1;have ab:aq n5 M5 Mb:=fun q hq=>(m2 q Z Z).trans ((r2 q Z).trans ((q2 q Z).trans (a8 q hq)))
   clear hA9 hAa hBa r1 r2 m2 q1 q2 a8;generalize hB:Code.block 2 _=B;refine dp G9 e0 e1 e2 e4 e5 e9 qI pu gW ?_;subst hB;rw[l9];refine aC (fun m' s=>∃(k:Nat) (cw:List XV),k<=l.length/\m'=l.length - k/\gG s.env 0=some (.mp o 0)/\gG s.env 1=some v/\gG s.env 2=some (.int .u64 x)/\gG s.env 4=some (.int .i64 pos)/\gG s.env 5=some (.int .i64 writer)/\gG s.env 9=some (.mp nx 0)/\gG s.env 13=some Rh/\gG s.env 14=some (.mp n3 0)/\gG s.env 15=some (.int .i64 t) /\
    gG s.env 16=some u16/\gG s.env 17=some (.int .i64 k)/\(∀K,u16 = .sl K 1 0 l.length l.length->gG s.M K=some (.row cw))/\cw.length=l.length/\(∀j e,k<=j->l[j]?=some e->cw[j]?=some (.int .i64 e.wr))/\aq (n3+3) M4 s.M/\n5<=s.nx) l.length ⟨0,l.map fun e=>.int .i64 e.wr,Z,Z,?_⟩ ?_
   ·refine dp G9 e0 e1 e2 e4 e5 e9 qI pu gW ?_
    refine⟨fun K hK=>?_,ae,fun j e _ hj=>by rw[getElem?_map,hj];rfl,a5.trans (ab.le Z),Z⟩
    ·obtain⟨_,_,⟨rfl,_⟩ | ⟨_,K0,rfl,K1,K2,_,K3⟩⟩:=g1
     ·cases hK
     ·cases hK
      rw[<-I1];exact(ab K Z).trans K3
   ·rintro m'' ⟨env,Mc,nc⟩ ⟨k,cw,hk,ZN,e0,e1,e2,e4,e5,e9,qI,pu,gW,pE,CB,NU,cF,Ue,ha,hn⟩
    simp only at e0 e1 e2 e4 e5 e9 qI pu gW pE CB NU ha hn;by_cases aL:(k:Int)<l.length
    ·have aP:k<l.length:=Z
     have F_:=eF k;obtain⟨e,he⟩:∃e,l[k]?=some e:=⟨l[k]' Z,getElem?_eq_getElem Z⟩;obtain⟨K,rfl⟩:∃K,u16 = .sl K 1 0 l.length l.length:=by
      obtain⟨_,_,⟨_,_⟩ | ⟨_,K0,rfl,_⟩⟩:=g1
      ·omega
      ·exact⟨K0,rfl⟩
     have hKl:n3+3<=K/\K<n5:=by
      obtain⟨_,_,⟨_,_⟩ | ⟨_,K0,hK,K1,K2,_⟩⟩:=g1
      ·omega
      ·cases hK;omega
     have hK:=NU K rfl;have bC:∀kk,br am 58 (.sl K 1 0 l.length l.length) (.int kk (k:Int))=some (.mp K k):=fun kk=>by
      rw[cy,zp.2.2.2.1,ev _ _ _ _ _ Z Z];simp
     have aU:b_ am Mc 3 (.mp K k)=some ⟨.int .i64 e.wr,[K],[]⟩:=dB (by unfold vR;rw[hK]) dA.1 (Ue k e (Nat.le_refl _) he);obtain⟨n',hu,⟨bT,fq⟩,_,iN,_,dJ⟩:=Yy.lp.elem jK he (P:=am) (t:=121) fP.2.2.2.1;have ZF:=dJ Mc (ha n' Z) 2 (.int .i64 e.wr) rfl 3 _ dA.1;clear hu;refine ii G9 e0 e1 e2 e4 e5 e9 qI pu gW pE (aI CB (aI aL (aI CJ (aI bC (aI iN (aI aU (aI ZF (aI F_ hK)))))))) ?_;have gE:k+[XV.int .i64 77].length<=cw.length:=by simp only[length_cons,length_nil];omega
     refine⟨l.length - (k+1),Z,k+1,_,Z,rfl,rfl,fun K1 Gg=>?_,by rw[ib _ _ _ gE];exact cF,fun j e' hj D1=>?_,fun q hq=>?_,Z⟩
     ·cases Gg
      exact if_pos rfl
     ·have:=congrArg (·[j - (k+1)]?) (iH cw k (k+1) [XV.int .i64 77] gE (Nat.le_refl _))
      simp only[getElem?_drop]at this;rw[show k+1+(j - (k+1))=j by omega]at this;rw[this];exact Ue j e' Z D1
     ·rw[ao,if_neg (fun e=>by have e:K=q:=e;omega)]
      exact ha q hq
    ·refine ii G9 e0 e1 e2 e4 e5 e9 qI pu gW pE (aI CB (aI aL (aI CJ bV))) ?_
     exact⟨2 - (t+1),Z,t+1,Z,Z,rfl,ha,Z⟩
  ·obtain⟨p,pl,b1,b2,s,g,it,a1,c1,a2,c2,na,nc,nw,ne,aa,ac,iw,hP,gE,hI1,bt,hN,hA,hS,Uz,VB,u_,HV⟩:=KZ l w n
   have w1:IntKind.i64.wrap ((p:Int)+1)=(p:Int)+1:=wrap_i64 Z Z;have w2:IntKind.i64.wrap ((p:Int) - 1)=(p:Int) - 1:=wrap_i64 Z Z;have ld9:=(ha nx Z).trans x9;have UW:=(ha n3 Z).trans z14;refine ii G9 e0 e1 e2 e4 e5 e9 qI pu gW aL (aI ld9 UW) ?_;refine gQ (f51 ρ (hL.agr (aM.le hb)) Z Z x w n) ?_;rintro⟨u93,N1,m1⟩ ⟨k1,k2,k3⟩;simp only at k1 k2 k3;rw[<-qz,hP]at k1;simp only at k1;subst k1;have A1:aq (n3+3) M4 N1:=ha.trans (k2.le Z);have y9:=(A1 nx Z).trans x9;clear k2 ld9 UW;refine dw G9 e0 e1 e2 e4 e5 e9 qI pu gW y9 ?_;refine gQ (DN ρ (h.agr ((aM4.trans (A1.le Z)).le hb)) Z x w n) ?_;rintro⟨u100,N2,m2⟩ ⟨k1,k2,k3⟩;simp only at k1 k2 k3;rw[bA,hP]at k1;simp only at k1;subst k1;have A2:aq (n3+3) M4 N2:=A1.trans (k2.le Z);clear k2 y9;refine dw G9 e0 e1 e2 e4 e5 e9 qI pu gW w1 ?_;refine gQ (Wn ρ (hL.agr ((aM4.trans (A2.le Z)).le hb)) Z Z x ((p:Int)+1) Z) ?_;rintro⟨u107,N3,m3⟩ ⟨k1,k2,k3⟩;simp only at k1 k2 k3;rw[<-qz,hI1]at k1;simp only at k1;subst k1;have A3:aq (n3+3) M4 N3:=A2.trans (k2.le Z);clear k2;refine dw G9 e0 e1 e2 e4 e5 e9 qI pu gW w2 ?_;generalize YO:ci (ci N3 _ _) _ _=N4;have A4:aq (n3+3) M4 N4:=by rw[<-YO];exact(by(repeat (refine aq.set ?_ Z _));exact A3.le Z)
   have JO:gG N4 (m3+3)=some (.row [.int .u64 a1,.int .u64 c1]):=by rw[<-YO];exact J
   clear YO;refine gQ (Wn ρ (hL.agr ((aM4.trans (A4.le Z)).le hb)) Z Z x ((p:Int) - 1) Z) ?_;rintro⟨u115,N5,m5⟩ ⟨k1,k2,k3⟩;simp only at k1 k2 k3;rw[<-qz,bt]at k1;simp only at k1;subst k1;have A5:aq (n3+3) M4 N5:=A4.trans (k2.le Z);have Gb:=(k2 (m3+3) Z).trans JO;have y9:=(A5 nx Z).trans x9;clear k2 JO;refine dw G9 e0 e1 e2 e4 e5 e9 qI pu gW y9 ?_;generalize YP:ci (ci N5 _ _) _ _=N6;have a6:aq m5 N5 N6:=by rw[<-YP];exact O
   have A6:aq (n3+3) M4 N6:=A5.trans (a6.le Z);have Ol:gG N6 (m5+3)=some (.row [.int .u64 a2,.int .u64 c2]):=by rw[<-YP];exact J
   have JO:=(a6 (m3+3) Z).trans Gb;clear YP a6 Gb y9;refine gQ (qH ρ (h.agr ((aM4.trans (A6.le Z)).le hb)) Z x w n) ?_;rintro⟨u123,N7,m7⟩ ⟨k1,k2,k3⟩;simp only at k1 k2 k3;rw[bA,hN]at k1;simp only at k1;subst k1;have A7:aq (n3+3) M4 N7:=A6.trans (k2.le Z);have Gb:=(k2 (m3+3) Z).trans JO;have Sf:=(k2 (m5+3) Z).trans Ol;have y9:=(A7 nx Z).trans x9;clear k2 JO Ol;refine dw G9 e0 e1 e2 e4 e5 e9 qI pu gW y9 ?_;generalize YQ:ci (ci N7 _ _) _ _=N8;have a8:aq m7 N7 N8:=by rw[<-YQ];exact O
   have A8:aq (n3+3) M4 N8:=A7.trans (a8.le Z);have U1:gG N8 (m7+4)=some (.row [.int .u64 na,.int .u64 nc]):=by rw[<-YQ];exact J
   have JO:=(a8 (m3+3) Z).trans Gb;have Ol:=(a8 (m5+3) Z).trans Sf;clear YQ a8 Gb Sf y9;refine gQ (sY ρ (h.agr ((aM4.trans (A8.le Z)).le hb)) Z x w n) ?_;rintro⟨u131,N9,m9⟩ ⟨k1,k2,k3⟩;simp only at k1 k2 k3;rw[bA,hA]at k1;simp only at k1;subst k1;have A9:aq (n3+3) M4 N9:=A8.trans (k2.le Z);have Gb:=(k2 (m3+3) Z).trans JO;have Sf:=(k2 (m5+3) Z).trans Ol;have Rm:=(k2 (m7+4) Z).trans U1;have y9:=(A9 nx Z).trans x9;clear k2 JO Ol U1;refine dw G9 e0 e1 e2 e4 e5 e9 qI pu gW y9 ?_;generalize YR:ci (ci N9 _ _) _ _=Na;have aa':aq m9 N9 Na:=by rw[<-YR];exact O
   have Aa:aq (n3+3) M4 Na:=A9.trans (aa'.le Z);have z29:gG Na (m9+3)=some (.row [.int .u64 aa,.int .u64 ac]):=by rw[<-YR];exact J
   have JO:=(aa' (m3+3) Z).trans Gb;have Ol:=(aa' (m5+3) Z).trans Sf;have U1:=(aa' (m7+4) Z).trans Rm;clear YR aa' Gb Sf Rm y9;refine gQ (yU ρ (h.agr ((aM4.trans (Aa.le Z)).le hb)) Z x w n) ?_;rintro⟨u138,Nb,mb⟩ ⟨k1,k2,k3⟩;simp only at k1 k2 k3;rw[bA,hS]at k1;simp only at k1;subst k1;have Ab:aq (n3+3) M4 Nb:=Aa.trans (k2.le Z);have Gb:=(k2 (m3+3) Z).trans JO;have Sf:=(k2 (m5+3) Z).trans Ol;have Rm:=(k2 (m7+4) Z).trans U1;have Wi:=(k2 (m9+3) Z).trans z29;clear k2 JO Ol U1 z29;have QM:(0<(p:Int))=(it=true):=propext u_;have bft:(false=true)=False:=ae;obtain⟨n',fF⟩:=Yy.lp.elems jK (P:=am) (t:=121) fP.2.2.2.1;have Vu:s=true->∀kk,br am 121 Rh (.int kk (p:Int))=some (.mp n' (p*4)):=fun hs=>(fF p _ (Uz hs)).2.1
   have T1:s=true->∀N,gG N n'=gG Nb n'->b_ am N 3 (.mp n' (p*4+2))=some ⟨.int .i64 nw,[n'],[]⟩:=fun hs N hq=>(fF p _ (Uz hs)).2.2 N (hq.trans (Ab n' (by have:=(fF p _ (Uz hs)).1;omega))) 2 _ rfl 3 _ dA.1
   have xu:s=true->∀r,b_ am (ci Nb (m5+3) r) 3 (.mp n' (p*4+2))=some ⟨.int .i64 nw,[n'],[]⟩:=fun hs r=>T1 hs _ (by rw[ao,if_neg (by have:=(fF p _ (Uz hs)).1;omega)])
   have Mm:s=true->b_ am Nb 3 (.mp n' (p*4+2))=some ⟨.int .i64 nw,[n'],[]⟩:=fun hs=>T1 hs _ rfl
   have Vv:it=true->∀kk,br am 121 Rh (.int kk ((p:Int) - 1))=some (.mp n' ((p - 1)*4)):=fun hs kk=>by
    obtain⟨h1,e',h2,h3⟩:=VB hs;have:=(fF (p - 1) _ h2).2.1 kk
    rwa [show ((p - 1:Nat):Int)=(p:Int) - 1 by omega]at this
   have T2:it=true->∀N,gG N n'=gG Nb n'->b_ am N 3 (.mp n' ((p - 1)*4+2))=some ⟨.int .i64 iw,[n'],[]⟩:=fun hs N hq=>by
    obtain⟨h1,e',h2,h3⟩:=VB hs;rw[<-h3];exact(fF (p - 1) _ h2).2.2 N (hq.trans (Ab n' (by have:=(fF (p - 1) _ h2).1;omega))) 2 _ rfl 3 _ dA.1
   have aW:it=true->∀r,b_ am (ci Nb (m3+3) r) 3 (.mp n' ((p - 1)*4+2))=some ⟨.int .i64 iw,[n'],[]⟩:=fun hs r=>T2 hs _ (by
    obtain⟨h1,e',h2,h3⟩:=VB hs;rw[ao,if_neg (by have:=(fF (p - 1) _ h2).1;omega)])
   have Mn:it=true->b_ am Nb 3 (.mp n' ((p - 1)*4+2))=some ⟨.int .i64 iw,[n'],[]⟩:=fun hs=>T2 hs _ rfl
   clear T1 T2 fF Uz VB u_ hP hI1 bt hN hA hS;generalize hB:Code.region 22 _ _=B;refine dp G9 e0 e1 e2 e4 e5 e9 qI pu gW ?_;subst hB;generalize hE:ci _ _ _=E;have t0:gG E 0=some (.mp o 0):=by rw[<-hE];exact J
   have t1:gG E 1=some (v):=by rw[<-hE];exact J
   have t2:gG E 2=some (.int .u64 x):=by rw[<-hE];exact J
   have t4:gG E 4=some (.int .i64 pos):=by rw[<-hE];exact J
   have y_:gG E 13=some (Rh):=by rw[<-hE];exact J
   have V3:gG E 18=some (.int .i64 p):=by rw[<-hE];exact J
   have V4:gG E 19=some (.bool pl):=by rw[<-hE];exact J
   have V5:gG E 20=some (.int .i64 p):=by rw[<-hE];exact J
   have V6:gG E 21=some (.bool pl):=by rw[<-hE];exact J
   have V7:gG E 22=some (.mp (m3+3) 0):=by rw[<-hE];exact J
   have V8:gG E 23=some (.bool b1):=by rw[<-hE];exact J
   have V9:gG E 24=some (.mp (m5+3) 0):=by rw[<-hE];exact J
   have V_:gG E 25=some (.bool b2):=by rw[<-hE];exact J
   have Wa:gG E 26=some (.mp (m7+4) 0):=by rw[<-hE];exact J
   have Wb:gG E 27=some (.int .i64 nw):=by rw[<-hE];exact J
   have Wc:gG E 28=some (.bool s):=by rw[<-hE];exact J
   have Wd:gG E 29=some (.mp (m9+3) 0):=by rw[<-hE];exact J
   have We:gG E 30=some (.bool g):=by rw[<-hE];exact J
   have Wg:gG E 31=some (.int .i64 iw):=by rw[<-hE];exact J
   have Wh:gG E 32=some (.bool it):=by rw[<-hE];exact J
   clear hE e0 e1 e2 e4 e5 e9 qI pu gW;have VI:n3+3<=mb:=Z;rw[<-ND,pM,pM,pM,pM,pM];refine yo (fun s=>gG s.env 0=some (.mp o 0)/\gG s.env 1=some v/\gG s.env 2=some (.int .u64 x)/\gG s.env 4=some (.int .i64 pos)/\gG s.env 13=some Rh/\aq (n3+3) M4 s.M/\n3+3<=s.nx) ?_ ?_
   ·rcases HV with ⟨rfl,rfl,rfl,rfl,rfl,rfl,rfl,rfl,rfl,rfl,rfl,rfl⟩ | ⟨rfl,rfl,rfl,rfl,rfl,rfl,rfl,rfl,rfl,rfl,rfl,rfl⟩ | ⟨rfl,rfl,rfl,rfl,rfl,rfl,rfl,rfl,rfl,rfl,rfl⟩ | ⟨rfl,rfl,rfl,rfl,rfl,rfl,rfl,rfl,rfl,rfl⟩ | ⟨rfl,rfl,rfl,rfl,rfl,rfl,rfl,rfl,rfl,rfl,rfl,rfl⟩ | ⟨rfl,rfl,rfl,rfl,rfl,rfl,rfl,rfl,rfl,rfl,rfl⟩
    all_goals
     as_aux_lemma =>
      refine ii G9 t0 t1 t2 t4 y_ V3 V4 V5 V6 V7 (aI V8 (aI V9 (aI V_ (aI Wa (aI Wb (aI Wc (aI Wd (aI We (aI Wg (aI Wh (aI Gb (aI Sf (aI Rm (aI Wi (aI QM (aI bft (aI w2 (aI Vu (aI Vv (aI xu (aI aW (aI Mm (aI Mn @HT))))))))))))))))))))))) ?_;refine bF (by(refine bR G9 ?_;try exact⟨⟩)) rfl ?_;refine bR G9 ?_;refine aT (bN.pure rfl rfl fun N=>JR ρ _ _ N _) af ?_;refine ii G9 t0 t1 t2 t4 y_ V3 V4 V5 V6 V7 (aI V8 (aI V9 (aI V_ (aI Wa (aI Wb (aI Wc (aI Wd (aI We (aI Wg (aI Wh (aI Gb (aI Sf (aI Rm (aI Wi (aI QM (aI bft (aI w2 (aI Vu (aI Vv (aI xu (aI aW (aI Mm (aI Mn @HT))))))))))))))))))))))) ?_;refine bF (by(refine bR G9 ?_;try exact⟨⟩)) rfl ?_;refine bR G9 ?_;refine aT (bN.pure rfl rfl fun N=>JR ρ _ _ N _) af ?_;refine ii G9 t0 t1 t2 t4 y_ V3 V4 V5 V6 V7 (aI V8 (aI V9 (aI V_ (aI Wa (aI Wb (aI Wc (aI Wd (aI We (aI Wg (aI Wh (aI Gb (aI Sf (aI Rm (aI Wi (aI QM (aI bft (aI w2 (aI Vu (aI Vv (aI xu (aI aW (aI Mm (aI Mn (aI @HT @bU)))))))))))))))))))))))) ?_;exact⟨(by(repeat (refine aq.set ?_ Z _));exact Ab),Z⟩
   ·as_aux_lemma =>
    rintro⟨E',N',m'⟩ ⟨t0,t1,t2,t4,y_,A',ir⟩;simp only at t0 t1 t2 t4 y_ A' ir;clear Gb Sf Rm Wi Vu Vv xu aW Mm Mn V3 V4 V5 V6 V7 V8 V9 V_ Wa Wb Wc Wd We Wg Wh;refine gw G9 t0 t1 t2 t4 y_ iq ?_;refine gQ (Wn ρ (hL.agr ((aM4.trans (A'.le Z)).le hb)) Z Z x l.length Z).out ?_;rintro⟨u242,N2',MO⟩ ⟨⟨k1,k2,k3⟩,cF,_⟩;simp only at k1 k2 k3 cF;rw[<-qz,qW l (Nat.le_refl _)]at k1;simp only at k1;subst k1;have A2':aq (n3+3) M4 N2':=A'.trans (k2.le Z);clear k2;refine iC G9 t0 t1 t2 t4 y_ ?_;generalize AP:ci (ci N2' _ _) _ _=N3';have lH:Cl (MO+8) N3':=by rw[<-AP];exact((cF.le Z).set Z rfl).set Z rfl
    have aB:aq nx M N3':=by rw[<-AP];exact(by(repeat (refine aq.set ?_ Z _));exact(aM4.trans (A2'.le Z)))
    have JP:gG N3' (MO+3)=some (.row [.int .u64 (jM l l.length).1,.int .u64 (jM l l.length).2]):=by rw[<-AP];exact J
    clear AP cF;have iP:∀q,nx<=q->aO q (.mp o 0)=true:=fun q hq=>aO.le hq ho
    have oP:∀q,nx<=q->aO q v=true:=fun q hq=>aO.le hq hv
    refine aT (bN.read (v:=.int .i64 l.length) (lH.le Z) (by simp only[aE];rw[iP _ Z];rfl) rfl fun N hN=>by have:=Rp (nx:=MO+8) ρ (h.agr ((aB.trans (hN.le Z)).le hb)) Z x;rw[bA]at this;exact this) af ?_;refine CU G9 t0 t1 t2 t4 y_ iq @aA JP ?_;refine bF (by(refine mI G9 @aA ?_;try exact⟨⟩)) rfl ?_;refine CU G9 t0 t1 t2 t4 y_ iq @aA JP ?_;refine aT (bN.read (v:=.agg [.int .u64 (jM l l.length).1,.int .u64 (jM l l.length).2]) (lH.le Z) (by simp only[aE];rw[iP _ Z];rfl) rfl fun N hN=>by have:=XG (nx:=MO+14) ρ (h.agr ((aB.trans (hN.le Z)).le hb)) Z x;rw[bA]at this;exact this) af ?_;refine CU G9 t0 t1 t2 t4 y_ iq @aA JP ?_;refine bF (by(refine mI G9 @aA ?_;try exact⟨⟩)) rfl ?_;refine CU G9 t0 t1 t2 t4 y_ iq @aA JP ?_;refine aT (bN.pure rfl rfl fun N=>JR ρ _ _ N _) af ?_;refine CU G9 t0 t1 t2 t4 y_ iq @aA JP ?_;refine bF (by(refine mI G9 @aA ?_;try exact⟨⟩)) rfl ?_;refine CU G9 t0 t1 t2 t4 y_ iq @aA JP ?_;refine aT (bN.read (v:=.agg [.int .u64 (oi l pos (0,0)).1,.int .u64 (oi l pos (0,0)).2]) (lH.le Z) (by simp only[aE];rw[iP _ Z];rfl) rfl fun N hN=>by have:=Sk (nx:=MO+21) ρ (h.agr ((aB.trans (hN.le Z)).le hb)) Z x pos;rw[bA]at this;exact this) af ?_;refine CU G9 t0 t1 t2 t4 y_ iq @aA JP ?_;refine bF (by(refine mI G9 @aA ?_;try exact⟨⟩)) rfl ?_
    refine CU G9 t0 t1 t2 t4 y_ iq @aA JP ?_;refine aT (bN.pure rfl rfl fun N=>JR ρ _ _ N _) af ?_;refine CU G9 t0 t1 t2 t4 y_ iq @aA JP ?_;refine bF (by(refine mI G9 @aA ?_;try exact⟨⟩)) rfl ?_;refine CU G9 t0 t1 t2 t4 y_ iq @aA JP ?_;refine aT (bN.read (v:=.agg [.int .u64 (oi l pos (0,0)).1,.int .u64 (oi l pos (0,0)).2]) (lH.le Z) (by simp only[aE];rw[oP _ Z];rfl) rfl fun N hN=>by have:=f53 (nx:=MO+24) ρ (hL.agr ((aB.trans (hN.le Z)).le hb)) Z Z x pos;rw[<-qz]at this;exact this) af ?_;refine dp G9 t0 t1 t2 t4 y_ iq @aA JP @fe.eq_1 ?_;exact⟨aB,Z⟩
end Go.Xs
