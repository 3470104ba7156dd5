/- A part of the proof: the layers and contracts it rests on. -/
import Derived.Test.YtcibleglaghhfaaGreatDoorXsPC
set_option linter.all false
set_option linter.deprecated false
namespace Go.Xs
open Go.Proofs
set_option maxRecDepth 100000
set_option maxHeartbeats 4000000
def CloneR (M:Hp) (nx:Nat) (v:XV) (sz len:Nat) (row:List XV) (r:Out):Prop :=
 Agr nx M r.2.1/\nx<=r.2.2/\((v = .nils/\r.1 = .nils)\/v ≠ .nils/\∃K,r.1 = .sl K sz 0 len len/\nx<=K/\K<r.2.2/\tget r.2.1 K=some (.row row))
theorem f93 (ρ:Rho) {M:Hp} {nx b len:Nat} {v:XV} {row:List XV} (h:SlAt M b v 4 len row) (hb:b<=nx) (few:len<=100000) (hpl:row.all plain1=true):FOk Tryz.prog ρ 93 [v] M nx fun r=>CloneR M nx v 4 len row r:=by
 obtain⟨rds,hr1,hr2⟩:=h.el2
 have hrl:=h.row_len
 have hv:v = .nils\/∃n off cap,v = .sl n 4 off len cap:=by
  rcases h.2 with ⟨e,_⟩ | ⟨n,off,cap,_,e,_⟩
  ·exact .inl e
  ·exact .inr ⟨n,off,cap,e⟩
 rcases hv with rfl | ⟨n,off,cap,hv⟩
 ·refine FOk.walk (m:=8) (rs:=[.tmp 2]) follows Tryz.func93 (by kernel_rfl) rfl rfl rfl ?_
  conv in W _ _ _ _ _ _ _=>arg 4;whnf
  refine xs2 gy32 @CloneR.eq_1 ?_;try exact⟨⟩
  exact⟨Agr.refl _ _,by simp⟩
 ·have hel:∀k o,el2 (tset M (nx+k) o) v (some 4)=some (row,len,rds):=fun k o=>hr2 _ (((Agr.refl nx M).set (by omega) o).le hb)
  have hne:∀yc,binX Tryz.prog g0 38 .eql yc v .nils=some (.bool false):=fun yc=>by rw[hv,nil_sl,ty38.2.2.2.2.2];rfl
  have hnn:v ≠ .nils:=by rw[hv];simp
  clear hv
  have hrd:∀k,nx+k ∉ rds:=fun k hk=>by have:=hr1 _ hk;omega
  by_cases h0:len=0
  ·subst h0
   have:row=[]:=List.length_eq_zero_iff.1 (by omega)
   subst this
   have hap:∀key k,apC Tryz.prog (tset M (nx+k) (.row [])) key 38 (.sl (nx+k) 4 0 0 0) v (some (4,48,[.int .i64 0,.int .u64 0,.int .u64 0,.nils])) (some ([],0,rds))=some ⟨.sl (nx+k) 4 0 0 0,(nx+k)::rds,[(nx+k,some (.row []))]⟩:=fun key k=>apC_zero _ _ _ _ _ _ _ (by omega) (by omega) rfl (by rw[tget_tset,if_pos rfl])
   refine FOk.walk (m:=8) (rs:=[.tmp 2]) follows Tryz.func93 (by kernel_rfl) rfl rfl rfl ?_
   conv in W _ _ _ _ _ _ _=>arg 4;whnf
   refine xs5 gy32 hne hel hap @CloneR.eq_1 ?_;try exact⟨⟩
   exact⟨(by(repeat (refine Agr.set ?_ (by omega) _));exact Agr.refl _ _),by omega,.inr ⟨hnn,_,rfl,by omega,by omega,if_pos (show KEq _ _ from rfl)⟩⟩
  ·have hap:∀key k,apC Tryz.prog (tset M (nx+k) (.row [])) key 38 (.sl (nx+k) 4 0 0 0) v (some (4,48,[.int .i64 0,.int .u64 0,.int .u64 0,.nils])) (some (row,len,rds))=some ⟨.sl key 4 0 len len,(nx+k)::rds,[(nx+k,none),(key,some (.row row))]⟩:=fun key k=>apC_all _ _ _ _ _ _ _ _ _ (by omega) (by omega) rfl (by omega) (by simp only[big];omega) hpl (by rw[tget_tset,if_pos rfl]) (hrd k)
   refine FOk.walk (m:=8) (rs:=[.tmp 2]) follows Tryz.func93 (by kernel_rfl) rfl rfl rfl ?_
   conv in W _ _ _ _ _ _ _=>arg 4;whnf
   refine xs5 gy32 hne hel hap @CloneR.eq_1 ?_;try exact⟨⟩
   exact⟨fun j hj=>(by(repeat (first | rw[tget_tset,if_pos rfl] | rw[tget_tset,if_neg (by omega)] | rw[tget_tdel,if_neg (by omega)]));try (first | rfl | assumption)),by omega,.inr ⟨hnn,_,rfl,by omega,by omega,if_pos (show KEq _ _ from rfl)⟩⟩
theorem f65 (ρ:Rho) {M:Hp} {nx b len:Nat} {v:XV} {row:List XV} (h:SlAt M b v 4 len row) (hb:b<=nx) (few:len<=100000) (hpl:row.all plain1=true):FOk Tryz.prog ρ 65 [v] M nx fun r=>CloneR M nx v 4 len row r:=by
 obtain⟨rds,hr1,hr2⟩:=h.el2
 have hrl:=h.row_len
 have hv:v = .nils\/∃n off cap,v = .sl n 4 off len cap:=by
  rcases h.2 with ⟨e,_⟩ | ⟨n,off,cap,_,e,_⟩
  ·exact .inl e
  ·exact .inr ⟨n,off,cap,e⟩
 rcases hv with rfl | ⟨n,off,cap,hv⟩
 ·refine FOk.walk (m:=8) (rs:=[.tmp 2]) follows Tryz.func65 (by kernel_rfl) rfl rfl rfl ?_
  conv in W _ _ _ _ _ _ _=>arg 4;whnf
  refine xs2 gy33 @CloneR.eq_1 ?_;try exact⟨⟩
  exact⟨Agr.refl _ _,by simp⟩
 ·have hel:∀k o,el2 (tset M (nx+k) o) v (some 4)=some (row,len,rds):=fun k o=>hr2 _ (((Agr.refl nx M).set (by omega) o).le hb)
  have hne:∀yc,binX Tryz.prog g0 41 .eql yc v .nils=some (.bool false):=fun yc=>by rw[hv,nil_sl,ty41.2.2.2.2.2];rfl
  have hnn:v ≠ .nils:=by rw[hv];simp
  clear hv
  have hrd:∀k,nx+k ∉ rds:=fun k hk=>by have:=hr1 _ hk;omega
  by_cases h0:len=0
  ·subst h0
   have:row=[]:=List.length_eq_zero_iff.1 (by omega)
   subst this
   have hap:∀key k,apC Tryz.prog (tset M (nx+k) (.row [])) key 41 (.sl (nx+k) 4 0 0 0) v (some (4,32,[.int .u64 0,.int .u64 0,.int .u64 0,.bool false])) (some ([],0,rds))=some ⟨.sl (nx+k) 4 0 0 0,(nx+k)::rds,[(nx+k,some (.row []))]⟩:=fun key k=>apC_zero _ _ _ _ _ _ _ (by omega) (by omega) rfl (by rw[tget_tset,if_pos rfl])
   refine FOk.walk (m:=8) (rs:=[.tmp 2]) follows Tryz.func65 (by kernel_rfl) rfl rfl rfl ?_
   conv in W _ _ _ _ _ _ _=>arg 4;whnf
   refine xs5 gy33 hne hel hap @CloneR.eq_1 ?_;try exact⟨⟩
   exact⟨(by(repeat (refine Agr.set ?_ (by omega) _));exact Agr.refl _ _),by omega,.inr ⟨hnn,_,rfl,by omega,by omega,if_pos (show KEq _ _ from rfl)⟩⟩
  ·have hap:∀key k,apC Tryz.prog (tset M (nx+k) (.row [])) key 41 (.sl (nx+k) 4 0 0 0) v (some (4,32,[.int .u64 0,.int .u64 0,.int .u64 0,.bool false])) (some (row,len,rds))=some ⟨.sl key 4 0 len len,(nx+k)::rds,[(nx+k,none),(key,some (.row row))]⟩:=fun key k=>apC_all _ _ _ _ _ _ _ _ _ (by omega) (by omega) rfl (by omega) (by simp only[big];omega) hpl (by rw[tget_tset,if_pos rfl]) (hrd k)
   refine FOk.walk (m:=8) (rs:=[.tmp 2]) follows Tryz.func65 (by kernel_rfl) rfl rfl rfl ?_
   conv in W _ _ _ _ _ _ _=>arg 4;whnf
   refine xs5 gy33 hne hel hap @CloneR.eq_1 ?_;try exact⟨⟩
   exact⟨fun j hj=>(by(repeat (first | rw[tget_tset,if_pos rfl] | rw[tget_tset,if_neg (by omega)] | rw[tget_tdel,if_neg (by omega)]));try (first | rfl | assumption)),by omega,.inr ⟨hnn,_,rfl,by omega,by omega,if_pos (show KEq _ _ from rfl)⟩⟩
theorem f57 (ρ:Rho) {M:Hp} {nx b len:Nat} {v:XV} {row:List XV} (h:SlAt M b v 8 len row) (hb:b<=nx) (few:len<=100000) (hpl:row.all plain1=true):FOk Tryz.prog ρ 57 [v] M nx fun r=>CloneR M nx v 8 len row r:=by
 obtain⟨rds,hr1,hr2⟩:=h.el2
 have hrl:=h.row_len
 have hv:v = .nils\/∃n off cap,v = .sl n 8 off len cap:=by
  rcases h.2 with ⟨e,_⟩ | ⟨n,off,cap,_,e,_⟩
  ·exact .inl e
  ·exact .inr ⟨n,off,cap,e⟩
 rcases hv with rfl | ⟨n,off,cap,hv⟩
 ·refine FOk.walk (m:=8) (rs:=[.tmp 2]) follows Tryz.func57 (by kernel_rfl) rfl rfl rfl ?_
  conv in W _ _ _ _ _ _ _=>arg 4;whnf
  refine xs2 gy34 @CloneR.eq_1 ?_;try exact⟨⟩
  exact⟨Agr.refl _ _,by simp⟩
 ·have hel:∀k o,el2 (tset M (nx+k) o) v (some 8)=some (row,len,rds):=fun k o=>hr2 _ (((Agr.refl nx M).set (by omega) o).le hb)
  have hne:∀yc,binX Tryz.prog g0 64 .eql yc v .nils=some (.bool false):=fun yc=>by rw[hv,nil_sl,ty64.2.2.2.2.2];rfl
  have hnn:v ≠ .nils:=by rw[hv];simp
  clear hv
  have hrd:∀k,nx+k ∉ rds:=fun k hk=>by have:=hr1 _ hk;omega
  by_cases h0:len=0
  ·subst h0
   have:row=[]:=List.length_eq_zero_iff.1 (by omega)
   subst this
   have hap:∀key k,apC Tryz.prog (tset M (nx+k) (.row [])) key 64 (.sl (nx+k) 8 0 0 0) v (some (8,56,[.int .i64 0,.int .u64 0,.int .u64 0,.int .u64 0,.int .u64 0,.int .u64 0,.bool false,.bool false])) (some ([],0,rds))=some ⟨.sl (nx+k) 8 0 0 0,(nx+k)::rds,[(nx+k,some (.row []))]⟩:=fun key k=>apC_zero _ _ _ _ _ _ _ (by omega) (by omega) rfl (by rw[tget_tset,if_pos rfl])
   refine FOk.walk (m:=8) (rs:=[.tmp 2]) follows Tryz.func57 (by kernel_rfl) rfl rfl rfl ?_
   conv in W _ _ _ _ _ _ _=>arg 4;whnf
   refine xs5 gy34 hne hel hap @CloneR.eq_1 ?_;try exact⟨⟩
   exact⟨(by(repeat (refine Agr.set ?_ (by omega) _));exact Agr.refl _ _),by omega,.inr ⟨hnn,_,rfl,by omega,by omega,if_pos (show KEq _ _ from rfl)⟩⟩
  ·have hap:∀key k,apC Tryz.prog (tset M (nx+k) (.row [])) key 64 (.sl (nx+k) 8 0 0 0) v (some (8,56,[.int .i64 0,.int .u64 0,.int .u64 0,.int .u64 0,.int .u64 0,.int .u64 0,.bool false,.bool false])) (some (row,len,rds))=some ⟨.sl key 8 0 len len,(nx+k)::rds,[(nx+k,none),(key,some (.row row))]⟩:=fun key k=>apC_all _ _ _ _ _ _ _ _ _ (by omega) (by omega) rfl (by omega) (by simp only[big];omega) hpl (by rw[tget_tset,if_pos rfl]) (hrd k)
   refine FOk.walk (m:=8) (rs:=[.tmp 2]) follows Tryz.func57 (by kernel_rfl) rfl rfl rfl ?_
   conv in W _ _ _ _ _ _ _=>arg 4;whnf
   refine xs5 gy34 hne hel hap @CloneR.eq_1 ?_;try exact⟨⟩
   exact⟨fun j hj=>(by(repeat (first | rw[tget_tset,if_pos rfl] | rw[tget_tset,if_neg (by omega)] | rw[tget_tdel,if_neg (by omega)]));try (first | rfl | assumption)),by omega,.inr ⟨hnn,_,rfl,by omega,by omega,if_pos (show KEq _ _ from rfl)⟩⟩
end Go.Xs
namespace Go.Xs
open Go.Proofs
set_option maxRecDepth 100000
set_option maxHeartbeats 4000000
def PK (b nx n':Nat):Nat->Prop:=fun k=>(k<b\/nx<=k)/\k<n'
theorem kltVs_mem {n:Nat}:∀{cs:List XV} {x:XV},kltVs n cs=true->x ∈ cs->kltV n x=true
 | [],_,_,h=>by cases h
 | c::cs,x,h,hx=>by
   unfold kltVs at h
   split at h<;>(try (cases h;done))
   rename_i h0
   rcases List.mem_cons.1 hx with rfl | hx
   ·exact h0
   ·exact kltVs_mem h hx
theorem kltVs_of {n:Nat}:∀{cs:List XV},(∀x ∈ cs,kltV n x=true)->kltVs n cs=true
 | [],_=>by simp only[kltVs]
 | c::cs,h=>by
   unfold kltVs
   rw[h c List.mem_cons_self]
   exact kltVs_of fun x hx=>h x (List.mem_cons_of_mem _ hx)
def CloneE (b nx:Nat) (e:Ex) (r:Out):Prop:=∃cs,r.1 = .agg cs/\ExAtP r.2.1 (PK b nx r.2.2) e cs
theorem logOf_range' {i k:Nat} {v:XV} {us:List (Nat×Option XObj)} {l:Log} (h:0<k):logOf i ⟨v,List.range k,us⟩ l=(i,List.range k,ukeys us)::l:=by
 obtain⟨a,t,e⟩:∃a t,List.range k=a::t:=by
  cases hr:List.range k with
  | nil=>have:=congrArg List.length hr;simp at this;omega
  | cons a t=>exact⟨a,t,rfl⟩
 unfold logOf
 simp only[e]
theorem exsN_len:∀(ps:List Ex),ps.length<=exsN ps
 | []=>by simp[exsN]
 | e::es=>by
   have:=exsN_len es
   obtain⟨k,x,y,ps⟩:=e
   simp only[exsN,exN,List.length_cons]
   omega
theorem f64:∀(sz:Nat) (ρ:Rho) (e:Ex) (M:Hp) (nx b:Nat) (cs:List XV),exN e<sz->ExAt M b e cs->b<=nx->exN e<=100000->FOk Tryz.prog ρ 64 [.agg cs] M nx fun r=>CloneE b nx e r/\Agr nx M r.2.1/\nx<=r.2.2:=by
 intro sz
 induction sz with
 | zero=>intro ρ e M nx b cs h;omega
 | succ sz ih =>
 intro ρ e M nx b cs hsz he hb hfew
 refine FOk.closed fun hcl hargs=>?_
 obtain⟨k,x,y,ps⟩:=e
 simp only[ExAt]at he
 obtain⟨v,row,rfl,hsl,hps⟩:=he
 have hv:=hsl.cell
 have hkv:kltV nx v=true:=by
  simp only[kltVs,kltV]at hargs
  split at hargs
  ·rename_i q;split at q
   ·rename_i q2;exact q2
   ·cases q
  ·cases hargs
 have hpl:row.all plain1=true:=ExsAtP.plain (ExsAt.pp.1 hps) hsl.row_len
 have hlenf:ps.length<=100000:=by
  have:=exsN_len ps
  simp only[exN]at hfew
  omega
 have hlen:=fun N=>hsl.len (P:=Tryz.prog) (t:=38) ty38.2.2.2.2.2 N
 refine FOk.walk (m:=25) (rs:=[.cell 2 40]) follows Tryz.func64 (by kernel_rfl) rfl rfl rfl ?_
 conv in W _ _ _ _ _ _ _=>arg 4;whnf
 refine xs3 gy0 hv.1 hv.2 ?_;try exact⟨⟩
 generalize hM1:tset (tset M _ _) _ _=M1
 have a1:Agr nx M M1:=by rw[<-hM1];exact(by(repeat (refine Agr.set ?_ (by omega) _));exact Agr.refl _ _)
 have m1:tget M1 nx=some (.row [.int .i64 k,.int .u64 x,.int .u64 y,v]):=by rw[<-hM1];exact(by(repeat (first | rw[tget_tset,if_pos rfl] | rw[tget_tset,if_neg (by omega)] | rw[tget_tdel,if_neg (by omega)]));try (first | rfl | assumption))
 have m2:tget M1 (nx+1)=some (.row [.int .i64 0,.int .u64 0,.int .u64 0,.nils]):=by rw[<-hM1];exact(by(repeat (first | rw[tget_tset,if_pos rfl] | rw[tget_tset,if_neg (by omega)] | rw[tget_tdel,if_neg (by omega)]));try (first | rfl | assumption))
 clear hM1
 refine CN_fok (f93 ρ (hsl.agr (a1.le hb)) (by omega) hlenf hpl).out ?_
 rintro⟨u,M2,n2⟩ ⟨⟨g1,g2,g3⟩,g4,g5⟩
 simp only at g1 g2 g3 g4 g5
 have y1:=(g1 nx (by omega)).trans m1
 have y2:=(g1 (nx+1) (by omega)).trans m2
 have a2:Agr nx M M2:=a1.trans (g1.le (by omega))
 rcases g3 with ⟨rfl,rfl⟩ | ⟨hvn,K,rfl,K1,K2,K3⟩
 ·have hl0:ps.length=0:=by
   rcases hsl.2 with ⟨_,q,_⟩ | ⟨_,_,_,_,q,_⟩
   ·exact q
   ·cases q
  have hp0:ps=[]:=List.length_eq_zero_iff.1 hl0
  refine xs3 gy0 y1 y2 ?_;try exact⟨⟩
  refine W_loop (fun m' s=>tget s.env 1=some (.mp nx 0)/\tget s.env 2=some (.mp (nx+1) 0)/\tget s.env 11=some (.int .i64 0)/\tget s.env 12=some (.int .i64 0)/\tget s.M nx=some (.row [.int .i64 k,.int .u64 x,.int .u64 y,.nils])/\tget s.M (nx+1)=some (.row [.int .i64 0,.int .u64 0,.int .u64 0,.nils])/\Agr nx M s.M/\n2<=s.nx) 0 ?_ ?_
  ·refine xs3 gy0 y1 y2 ?_;try exact⟨⟩
   exact⟨(by(repeat (refine Agr.set ?_ (by omega) _));exact a2),by omega⟩
  ·rintro m' ⟨env,M',nx'⟩ ⟨e1,e2,e11,e12,z1,z2,ha,hn⟩
   simp only at e1 e2 e11 e12 z1 z2 ha hn
   refine xs7 gy0 e1 e2 e11 e12 z1 z2 ?_;try exact⟨⟩
   refine⟨⟨_,rfl,?_⟩,(by(repeat (refine Agr.set ?_ (by omega) _));exact ha),by omega⟩
   simp only[ExAtP,hp0,ExsAtP]
   exact⟨_,[],rfl,⟨by simp,.inl ⟨rfl,rfl,rfl⟩⟩,trivial⟩
 ·have hrw:=hsl.row_len
  refine xs3 gy0 y1 y2 ?_;try exact⟨⟩
  refine W_loop (fun m' s=>∃(i:Nat) (rw:List XV),i<=ps.length/\m'=ps.length - i/\tget s.env 1=some (.mp nx 0)/\tget s.env 2=some (.mp (nx+1) 0)/\tget s.env 10=some (.sl K 4 0 ps.length ps.length)/\tget s.env 11=some (.int .i64 ps.length)/\tget s.env 12=some (.int .i64 i) /\
   tget s.M nx=some (.row [.int .i64 k,.int .u64 x,.int .u64 y,.sl K 4 0 ps.length ps.length])/\tget s.M (nx+1)=some (.row [.int .i64 0,.int .u64 0,.int .u64 0,.nils])/\tget s.M K=some (.row rw)/\rw.length=ps.length*4 /\
   (∀j e,ps[j]?=some e->ExAtP s.M (fun q=>(q<b\/(K<q/\j<i))/\q<s.nx) e ((rw.drop (j*4)).take 4))/\Agr nx M s.M/\n2<=s.nx/\Cl s.nx s.M)
   ps.length ⟨0,row,by omega,by omega,?_⟩ ?_
  ·simp (maxSteps:=10000000) (disch:=first|assumption|decide|omega|(simp only[zde, *];done)|(simp only[zdf,big];first|done|assumption|omega)) only [zst,argsE,spl,resXs,resX,vI,vB,vX,oneOr,Nat.reduceLT,Nat.reduceEqDiff,Nat.reduceAdd,Nat.reduceMul,Nat.reduceSub,reduceIte,Int.reduceLT,Int.reduceLE,Int.reduceEq,Int.reduceNeg,Int.reduceToNat,gy0,y1,y2,K3]
   refine⟨hrw,fun j e he=>?_,(by(repeat (refine Agr.set ?_ (by omega) _));exact a2),by omega,?_⟩
   ·have:=ExsAtP.get (ExsAt.pp.1 (hps.agr (a2.le hb))) he
    exact this.keep fun q hq=>⟨(by(repeat (first | rw[tget_tset,if_pos rfl] | rw[tget_tset,if_neg (by omega)] | rw[tget_tdel,if_neg (by omega)]));try (first | rfl | assumption)),.inl hq,by omega⟩
   ·refine(g4.le (by omega)).set (by omega) ?_
    have hbl:∀c,Nat.blt K (n2+c)=true:=fun c=>by rw[Nat.blt_eq];omega
    simp only[kltO,kltVs,kltV,hbl]
  ·rintro m' ⟨env,M',nx'⟩ ⟨i,rw',hi,hm',e1,e2,e10,e11,e12,z1,z2,z3,hrl,hel,ha,hn,hcl'⟩
   simp only at e1 e2 e10 e11 e12 z1 z2 z3 hel ha hn hcl'
   by_cases hlt:(i:Int)<ps.length
   ·have hlt':i<ps.length:=by omega
    obtain⟨c,hc⟩:∃c,ps[i]?=some c:=⟨ps[i],by simp[hlt']⟩
    have hw2:IntKind.i64.wrap ((i:Int)+1)=((i+1:Nat):Int):=by rw[wrap_i64 (by omega) (by omega)];omega
    have hE:=hel i c hc
    have hE0:=hE
    obtain⟨k',x',y',ps'⟩:=c
    simp only[ExAtP]at hE0
    obtain⟨v',row',hcs,hsl',_⟩:=hE0
    have hv':=hsl'.cell
    have hix:∀kk,indexAddrX Tryz.prog 38 (.sl K 4 0 ps.length ps.length) (.int kk (i:Int))=some (.mp K (i*4)):=fun kk=>by
     rw[indexAddr_eq,ty38.2.2.2.1,iaC_some _ _ _ _ _ (by omega) (by omega)]
     simp
    have hib:(i+1)*4<=ps.length*4:=Nat.mul_le_mul_right _ hlt'
    have hld:loadX Tryz.prog M' 40 (.mp K (i*4))=some ⟨.agg [.int .i64 k',.int .u64 x',.int .u64 y',v'],[K],[]⟩:=by
     rw[load_hrd (by unfold hrd;rw[z3]) ty40.1 (by omega),hcs]
    have hEb:ExAt M' b (.mk k' x' y' ps') [.int .i64 k',.int .u64 x',.int .u64 y',v']:=by
     rw[hcs]at hE
     exact ExAt.pp.2 (hE.keep fun q hq=>⟨rfl,by rcases hq.1 with h | h;exact h;omega⟩)
    have hkv':kltV nx' v'=true:=by
     have h1:=(hcl' K _ z3).2
     simp only[kltO]at h1
     exact kltVs_mem h1 (List.mem_of_mem_drop (List.mem_of_mem_take (show v' ∈ List.take 4 (List.drop (i*4) rw') by rw[hcs];simp)))
    have hcN:exN (.mk k' x' y' ps')<sz/\exN (.mk k' x' y' ps')<=100000:=by
     have:=exsN_mem (List.mem_of_getElem? hc)
     simp only[exN]at hsz hfew this ⊢
     omega
    refine xs12 gy0 e1 e2 e10 e11 e12 hlt hix hld hv'.1 hv'.2 z1 ?_;try exact⟨⟩
    generalize hM3:tset (tset M' _ _) _ _=M3
    have a3:Agr nx' M' M3:=by rw[<-hM3];exact(by(repeat (refine Agr.set ?_ (by omega) _));exact Agr.refl _ _)
    have hcl3:Cl (nx'+11) M3:=by
     rw[<-hM3]
     refine((hcl'.le (by omega)).set (by omega) rfl).set (by omega) ?_
     simp only[kltO,kltVs,kltV]
     rw[kltV.le (by omega) hkv']
    clear hM3
    obtain⟨v1,N,hi2,hC,⟨cs1,hcs1,hE1⟩,hAg,hle,hclN,hkv1⟩:=Csem.made (P:=Tryz.prog) (ρ:=ρ) (g:=64) (args:=[.agg [.int .i64 k',.int .u64 x',.int .u64 y',v']]) (M:=M3) (nx:=nx'+11) (Q:=CloneE b (nx'+11) (.mk k' x' y' ps')) hcl3
     (by simp only[kltVs,kltV];rw[kltV.le (by omega) hkv']) (fun N hN=>ih { ρ with det:=true } _ N (nx'+11) b _ hcN.1 (hEb.agr ((a3.trans (hN.le (by omega))).le (by omega))) (by omega) hcN.2)
     (.agg [.int .i64 k',.int .u64 x',.int .u64 y',v']) (by simp only[kltV,kltVs];rw[kltV.le (by omega) hkv'])
     (fun N hN=>⟨_,rfl,(ExAt.pp.1 (hEb.agr ((a3.trans (hN.le (by omega))).le (by omega)))).keep fun q hq=>⟨rfl,show (q<b\/nx'+11<=q)/\q<nx'+11 from ⟨.inl hq,by have:q<b:=hq;omega⟩⟩⟩)
    simp only at hcs1 hE1
    subst hcs1
    have hE2:=hE1
    simp only[ExAtP]at hE2
    obtain⟨w',rw2,hw',hw2',_⟩:=hE2
    subst hw'
    have hwc:=hw2'.cell
    have hold:∀q,q<nx'->tget (happ M3 (newU N (nx'+11) hi2)) q=tget M' q:=fun q hq=>by rw[newU_get,if_neg (by omega)];exact a3 q hq
    have hK:=(hold K (by omega)).trans z3
    have hkeys:=newU_keys N (nx'+11) hi2
    refine CD_sem hC (by decide) ?_
    refine xs12 gy0 hix hK hwc.1 hwc.2 @logOf_range' hw2 e1 e2 e10 e11 e12 ?_;try exact⟨⟩
    have hlen4:i*4+[XV.int IntKind.i64 k',XV.int IntKind.u64 x',XV.int IntKind.u64 y',w'].length<=rw'.length:=by simp only[List.length_cons,List.length_nil];omega
    have hkw:kltV hi2 w'=true:=by
     simp only[kltV,kltVs]at hkv1
     cases hq:kltV hi2 w' with
     | true=>rfl
     | false=>rw[hq]at hkv1;cases hkv1
    refine⟨okP2_ap _ _ _ _ _ _ (fun q hq=>by have:=hkeys q hq;simp only[List.mem_singleton];omega) (fun q hq=>by simp) (fun q hq=>by simp at hq),ps.length - (i+1),by omega,i+1,_,by omega,rfl,rfl,(hold nx (by omega)).trans z1,(hold (nx+1) (by omega)).trans z2,rfl,by rw[putAt_len _ _ _ hlen4];exact hrl,fun j e hj=>?_,fun q hq=>?_,by omega,?_⟩
    ·have hjl:j<ps.length:=(List.getElem?_eq_some_iff.1 hj).1
     rw[putAt_blk rw' 4 i j ps.length _ rfl hrl hlt' hjl]
     split
     ·rename_i hji
      subst hji
      rw[hc]at hj
      cases hj
      refine hE1.keep fun q hq=>?_
      obtain⟨q1,q2⟩:(q<b\/nx'+11<=q)/\q<hi2:=hq
      refine⟨?_,?_,by omega⟩
      ·rw[tget_tset,if_neg (by omega),newU_get]
       split
       ·rfl
       ·exact(hAg q (by omega)).symm
      ·rcases q1 with h | h
       ·exact .inl h
       ·exact .inr ⟨by omega,by omega⟩
     ·refine(hel j e hj).keep fun q hq=>?_
      obtain⟨q1,q2⟩:=hq
      refine⟨?_,?_,by omega⟩
      ·rw[tget_tset,if_neg (by omega)]
       exact hold q q2
      ·rcases q1 with h | ⟨h,h'⟩
       ·exact .inl h
       ·exact .inr ⟨h,by omega⟩
    ·rw[tget_tset,if_neg (by omega),hold q (by omega)]
     exact ha q hq
    ·have hcH:Cl hi2 (happ M3 (newU N (nx'+11) hi2)):=fun q o ho=>by
      rw[newU_get]at ho
      split at ho
      ·exact hclN q o ho
      ·exact hcl3.le hle q o ho
     refine(hcH.le (by omega)).set (by omega) ?_
     simp only[kltO]
     refine kltVs_of fun z hz=>?_
     rw[putAt_eq _ _ _ hlen4]at hz
     have h1:=(hcl' K _ z3).2
     simp only[kltO]at h1
     rcases List.mem_append.1 hz with hz | hz
     ·exact kltV.le (by omega) (kltVs_mem h1 (List.mem_of_mem_take hz))
     ·rcases List.mem_append.1 hz with hz | hz
      ·simp only[List.mem_cons,List.not_mem_nil,or_false]at hz
       rcases hz with rfl | rfl | rfl | rfl
       ·rfl
       ·rfl
       ·rfl
       ·exact kltV.le (by omega) hkw
      ·exact kltV.le (by omega) (kltVs_mem h1 (List.mem_of_mem_drop hz))
   ·have hie:i=ps.length:=by omega
    refine xs9 gy0 e1 e2 e10 e11 e12 hlt z1 z2 ?_;try exact⟨⟩
    refine⟨⟨_,rfl,?_⟩,(by(repeat (refine Agr.set ?_ (by omega) _));exact ha),by omega⟩
    simp only[ExAtP]
    refine⟨_,rw',rfl,⟨by omega,.inr ⟨K,0,ps.length,rw',rfl,⟨.inr (by omega),by omega⟩,by unfold hrd;rw[tget_tset,if_neg (by omega),z3],by omega,by rw[List.drop_zero,List.take_of_length_le (by omega)]⟩⟩,ExsAtP.of fun j c hc=>?_⟩
    exact(hel j c hc).keep fun q hq=>by
     have:=hq.2
     refine⟨?_,?_,by omega⟩
     ·rw[tget_tset,if_neg (by omega)]
     ·rcases hq.1 with h | h
      ·exact .inl h
      ·exact .inr (by omega)
end Go.Xs
namespace Go.Xs
open Go.Proofs
set_option maxRecDepth 100000
set_option maxHeartbeats 4000000
theorem ens_plain:∀(es:List En),(es.flatMap encEn).all plain1=true
 | []=>rfl
 | e::es=>by
   rw[List.flatMap_cons,List.all_append,ens_plain es]
   rfl
theorem ExAtP.shape {M:Hp} {p:Nat->Prop} {e:Ex} {cs:List XV} (h:ExAtP M p e cs):∃k x y v,cs=[.int .i64 k,.int .u64 x,.int .u64 y,v]/\cellsOf v=[v]/\plain1 v=true:=by
 obtain⟨k,x,y,ps⟩:=e
 simp only[ExAtP]at h
 obtain⟨v,row,rfl,h2,_⟩:=h
 exact⟨k,x,y,v,rfl,h2.cell⟩
def RecAtP (M:Hp) (p:Nat->Prop) (r:Rec) (cs:List XV):Prop :=
 ∃pc ve,cs=[.int .i64 r.kind,.int .u64 r.t,.int .u64 r.x,.int .u64 r.w,.int .u64 r.n,.int .u64 r.v]++pc++[ve]/\ExAtP M p r.p pc/\SlAtP M p ve 4 r.es.length (r.es.flatMap encEn)
theorem RecAtP.keep {M M':Hp} {p q:Nat->Prop} {r:Rec} {cs:List XV} (h:RecAtP M p r cs) (hk:∀k,p k->tget M' k=tget M k/\q k):RecAtP M' q r cs:=by
 obtain⟨pc,ve,h1,h2,h3⟩:=h
 exact⟨pc,ve,h1,h2.keep hk,h3.keep hk⟩
theorem RecAt.pp {M:Hp} {b:Nat} {r:Rec} {cs:List XV}:RecAt M b r cs ↔ RecAtP M (· < b) r cs:=by
 unfold RecAt RecAtP EnsAt
 exact⟨fun⟨pc,ve,h1,h2,h3⟩=>⟨pc,ve,h1,ExAt.pp.1 h2,h3⟩,fun⟨pc,ve,h1,h2,h3⟩=>⟨pc,ve,h1,ExAt.pp.2 h2,h3⟩⟩
theorem RecAtP.lt {M:Hp} {p:Nat->Prop} {b:Nat} {r:Rec} {cs:List XV} (h:RecAtP M p r cs) (hp:∀k,p k->k<b):RecAt M b r cs:=RecAt.pp.2 (h.keep fun k hk=>⟨rfl,hp k hk⟩)
theorem f37 (ρ:Rho) {r:Rec} {M:Hp} {nx b:Nat} {cs:List XV} (hr:RecAt M b r cs) (hb:b<=nx) (hc:exN r.p<=100000) (he:r.es.length<=100000):FOk Tryz.prog ρ 37 [.agg cs] M nx fun o=>(∃cs',o.1 = .agg cs'/\RecAtP o.2.1 (PK b nx o.2.2) r cs')/\Agr nx M o.2.1/\nx<=o.2.2:=by
 refine FOk.closed fun hcl hargs=>?_
 obtain⟨pk,pa,pb,pv,ve,rfl,⟨p1,p2⟩,⟨q1,q2⟩,hes,hp⟩:=hr.cells
 unfold EnsAt at hes
 simp only[kltVs]at hargs
 have hcells:kltVs nx [.int .i64 r.kind,.int .u64 r.t,.int .u64 r.x,.int .u64 r.w,.int .u64 r.n,.int .u64 r.v,.int .i64 pk,.int .u64 pa,.int .u64 pb,pv,ve]=true:=by
  cases hh:kltVs nx [.int .i64 r.kind,.int .u64 r.t,.int .u64 r.x,.int .u64 r.w,.int .u64 r.n,.int .u64 r.v,.int .i64 pk,.int .u64 pa,.int .u64 pb,pv,ve] with
  | true=>rfl
  | false=>simp only[kltV,hh]at hargs;cases hargs
 have hkp:kltV nx pv=true:=kltVs_mem hcells (by simp)
 have hke:kltV nx ve=true:=kltVs_mem hcells (by simp)
 refine FOk.walk (m:=12) (rs:=[.cell 2 43]) follows Tryz.func37 (by kernel_rfl) rfl rfl rfl ?_
 conv in W _ _ _ _ _ _ _=>arg 4;whnf
 refine xs5 gy1 p1 p2 q1 q2 ?_;try exact⟨⟩
 generalize hM1:tset (tset M _ _) _ _=M1
 have a1:Agr nx M M1:=by rw[<-hM1];exact(by(repeat (refine Agr.set ?_ (by omega) _));exact Agr.refl _ _)
 have m1:tget M1 nx=some (.row [.int .i64 r.kind,.int .u64 r.t,.int .u64 r.x,.int .u64 r.w,.int .u64 r.n,.int .u64 r.v,.int .i64 pk,.int .u64 pa,.int .u64 pb,pv,ve]):=by rw[<-hM1];exact(by(repeat (first | rw[tget_tset,if_pos rfl] | rw[tget_tset,if_neg (by omega)] | rw[tget_tdel,if_neg (by omega)]));try (first | rfl | assumption))
 have m2:tget M1 (nx+1)=some (.row [.int .i64 0,.int .u64 0,.int .u64 0,.int .u64 0,.int .u64 0,.int .u64 0,.int .i64 0,.int .u64 0,.int .u64 0,.nils,.nils]):=by rw[<-hM1];exact(by(repeat (first | rw[tget_tset,if_pos rfl] | rw[tget_tset,if_neg (by omega)] | rw[tget_tdel,if_neg (by omega)]));try (first | rfl | assumption))
 have hcl1:Cl (nx+2) M1:=by
  rw[<-hM1]
  exact((hcl.le (by omega)).set (by omega) (by simp only[kltO];exact kltVs.le (by omega) hcells)).set (by omega) rfl
 clear hM1
 obtain⟨v1,N1,h1,hC1,⟨cs1,hcs1,hE1⟩,hA1,hle1,hclN1,hkv1⟩:=Csem.made (P:=Tryz.prog) (ρ:=ρ) (g:=64) (args:=[.agg [.int .i64 pk,.int .u64 pa,.int .u64 pb,pv]]) (M:=M1) (nx:=nx+4) (Q:=CloneE b (nx+4) r.p) (hcl1.le (by omega))
  (by simp only[kltVs,kltV];rw[kltV.le (by omega) hkp]) (fun N hN=>f64 _ { ρ with det:=true } r.p N (nx+4) b _ (Nat.lt_succ_self _) (hp.agr ((a1.trans (hN.le (by omega))).le hb)) (by omega) hc)
  (.agg [.int .i64 pk,.int .u64 pa,.int .u64 pb,pv]) (by simp only[kltV,kltVs];rw[kltV.le (by omega) hkp])
  (fun N hN=>⟨_,rfl,(ExAt.pp.1 (hp.agr ((a1.trans (hN.le (by omega))).le hb))).keep fun q hq=>⟨rfl,show (q<b\/nx+4<=q)/\q<nx+4 from ⟨.inl hq,by have:q<b:=hq;omega⟩⟩⟩)
 simp only at hcs1 hE1
 subst hcs1
 obtain⟨k1,x1,y1,w1,rfl,w1c,w1p⟩:=hE1.shape
 have hkeys1:=newU_keys N1 (nx+4) h1
 have hold1:∀q,q<nx+4->tget (happ M1 (newU N1 (nx+4) h1)) q=tget M1 q:=fun q hq=>by rw[newU_get,if_neg (by omega)]
 have z1:=(hold1 nx (by omega)).trans m1
 refine CD_sem hC1 (by decide) ?_
 refine xs3 gy1 z1 @logOf_range' ?_;try exact⟨⟩
 have hA1':Agr (nx+4) M1 (happ M1 (newU N1 (nx+4) h1)):=hold1
 have hcl2:Cl h1 (happ M1 (newU N1 (nx+4) h1)):=fun q o ho=>by
  rw[newU_get]at ho
  split at ho
  ·exact hclN1 q o ho
  ·exact hcl1.le (by omega) q o ho
 have hE1':ExAtP (happ M1 (newU N1 (nx+4) h1)) (PK b (nx+4) h1) r.p [.int .i64 k1,.int .u64 x1,.int .u64 y1,w1]:=hE1.keep fun q hq=>by
  refine⟨?_,hq⟩
  obtain⟨r1,r2⟩:(q<b\/nx+4<=q)/\q<h1:=hq
  rw[newU_get]
  split
  ·rfl
  ·exact(hA1 q (by omega)).symm
 generalize hM2:happ M1 (newU N1 (nx+4) h1)=M2 at hA1' hcl2 hE1' z1
 have hes2:SlAt M2 b ve 4 r.es.length (r.es.flatMap encEn):=hes.agr ((a1.trans (hA1'.le (by omega))).le hb)
 have z2:=(hA1' (nx+1) (by omega)).trans m2
 obtain⟨v2,N2,h2,hC2,hQ2,hA2,hle2,hclN2,hkv2⟩:=Csem.made (P:=Tryz.prog) (ρ:=ρ) (g:=65) (args:=[ve]) (M:=M2) (nx:=h1+2) (Q:=fun o=>SlAtP o.2.1 (PK b (h1+2) o.2.2) o.1 4 r.es.length (r.es.flatMap encEn)) (hcl2.le (by omega))
  (by simp only[kltVs];rw[kltV.le (by omega) hke]) (fun N hN=>(f65 { ρ with det:=true } (hes2.agr (hN.le (by omega))) (by omega) he (ens_plain _)).mono fun o ho=>by
    obtain⟨o1,o2,o3⟩:=ho
    refine⟨?_,o1,o2⟩
    have hrl:=hes.row_len
    rcases o3 with ⟨e1,e2⟩ | ⟨_,K,e1,e2,e3,e4⟩
    ·rw[e2]
     subst e1
     rcases hes.2 with ⟨_,g1,g2⟩ | ⟨_,_,_,_,g1,_⟩
     ·exact⟨hes.1,.inl ⟨rfl,g1,g2⟩⟩
     ·cases g1
    ·rw[e1]
     exact⟨hes.1,.inr ⟨K,0,r.es.length,_,rfl,⟨.inr e2,e3⟩,by unfold hrd;rw[e4],by omega,by rw[List.drop_zero,List.take_of_length_le (by omega)]⟩⟩)
  ve (kltV.le (by omega) hke) (fun N hN=>(hes2.agr (hN.le (by omega))).pp.keep fun q hq=>⟨rfl,show (q<b\/h1+2<=q)/\q<h1+2 from ⟨.inl hq,by have:q<b:=hq;omega⟩⟩)
 simp only at hQ2
 have hv2:=hQ2.cell
 have hkeys2:=newU_keys N2 (h1+2) h2
 have hold2:∀q,q<h1+2->tget (happ M2 (newU N2 (h1+2) h2)) q=tget M2 q:=fun q hq=>by rw[newU_get,if_neg (by omega)]
 have z3:=(hold2 nx (by omega)).trans z1
 have z4:=(hold2 (nx+1) (by omega)).trans z2
 refine CD_sem hC2 (by decide) ?_
 refine xs8 gy1 z3 z4 @logOf_range' hv2.1 hv2.2 w1c w1p ?_;try exact⟨⟩
 refine⟨okP2_ap _ _ _ _ _ _ (fun q hq=>by simp at hq) (fun q hq=>by simp at hq) (fun q hq=>by have:=hkeys1 q hq;simp only[List.mem_singleton];omega),⟨_,rfl,[.int .i64 k1,.int .u64 x1,.int .u64 y1,w1],v2,rfl,?_,?_⟩,fun q hq=>?_,by omega⟩
 ·refine hE1'.keep fun q hq=>?_
  obtain⟨r1,r2⟩:(q<b\/nx+4<=q)/\q<h1:=hq
  refine⟨?_,show (q<b\/nx<=q)/\q<h2+6 by omega⟩
  have:=hold2 q (by omega)
  exact(by(repeat (first | rw[tget_tset,if_pos rfl] | rw[tget_tset,if_neg (by omega)] | rw[tget_tdel,if_neg (by omega)]));try (first | rfl | assumption))
 ·refine hQ2.keep fun q hq=>?_
  obtain⟨r1,r2⟩:(q<b\/h1+2<=q)/\q<h2:=hq
  refine⟨?_,show (q<b\/nx<=q)/\q<h2+6 by omega⟩
  have e:tget (happ M2 (newU N2 (h1+2) h2)) q=tget N2 q:=by
   rw[newU_get]
   split
   ·rfl
   ·exact(hA2 q (by omega)).symm
  exact(by(repeat (first | rw[tget_tset,if_pos rfl] | rw[tget_tset,if_neg (by omega)] | rw[tget_tdel,if_neg (by omega)]));try (first | rfl | assumption))
 ·have e:tget (happ M2 (newU N2 (h1+2) h2)) q=tget M q:=((hold2 q (by omega)).trans (hA1' q (by omega))).trans (a1 q hq)
  exact(by(repeat (first | rw[tget_tset,if_pos rfl] | rw[tget_tset,if_neg (by omega)] | rw[tget_tdel,if_neg (by omega)]));try (first | rfl | assumption))
end Go.Xs
namespace Go.Xs
open Go.Proofs
set_option maxRecDepth 100000
set_option maxHeartbeats 4000000
def lookE (i:Int) (r:Rec) (n:Nat) (e:En):LookS:=⟨i,(n:Int),r.t,e.x,e.w,e.n,true,e.m⟩
def HS.preds (S:HS) (i:Int) (r:Rec):Nat->HS
 | 0=>S
 | n+1=>match r.es[n]? with | some e=>(S.preds i r n).look (lookE i r n e) | none=>S.preds i r n
theorem preds_bound {S:HS} {i:Int} {r:Rec}:∀(n:Nat),(S.preds i r n).looks.length<=S.looks.length+n/\∀x,(0<=(S.obj x).getD 0->0<=((S.preds i r n).obj x).getD 0)/\((S.preds i r n).obj x).getD 0<=max ((S.obj x).getD 0) 0+n
 | 0=>⟨by simp[HS.preds],fun x=>⟨fun h=>h,by simp only[HS.preds];omega⟩⟩
 | n+1=>by
   obtain⟨h1,h2⟩:=preds_bound (S:=S) (i:=i) (r:=r) n
   unfold HS.preds
   cases he:r.es[n]? with
   | some e =>
     have hl:∀x,((S.preds i r n).look (lookE i r n e)).obj x=if x=(lookE i r n e).x then some (((S.preds i r n).obj (lookE i r n e).x).getD 0+1) else (S.preds i r n).obj x:=fun x=>rfl
     refine⟨by simp[HS.look];omega,fun x=>?_⟩
     have:=h2 x
     show (0<=(S.obj x).getD 0->0<=(((S.preds i r n).look (lookE i r n e)).obj x).getD 0)/\(((S.preds i r n).look (lookE i r n e)).obj x).getD 0<=max ((S.obj x).getD 0) 0+((n+1:Nat):Int)
     rw[hl]
     by_cases hx:x=(lookE i r n e).x
     ·rw[if_pos hx,Option.getD_some,<-hx]
      omega
     ·rw[if_neg hx]
      omega
   | none=>exact⟨by simp only;omega,fun x=>by have:=h2 x;simp only;omega⟩
theorem f66h (ρ:Rho) {M N:Hp} {nx lo h:Nat} {S:HS} (H:HF M nx N lo h S) (few:S.looks.length<=100000) (a:LookS) (cnt:0<=(S.obj a.x).getD 0/\(S.obj a.x).getD 0<=1000000000) :
 FOk Tryz.prog ρ 66 [.mp h 0,.agg (encLook a)] M nx (HStep M nx N lo h (S.look a) (.tup [])):=FOk.hist H fun _ hh hH=>f66 ρ hH hh few a cnt
def OutOf (nx:Nat) (N:Hp) (k:Nat):Prop:=k<nx/\tget N k=none
theorem SlAtP.some {M:Hp} {p:Nat->Prop} {v:XV} {sz len:Nat} {row:List XV} (h:SlAtP M p v sz len row):SlAtP M (fun k=>p k/\∃x,tget M k = .some x) v sz len row:=by
 refine⟨h.1,?_⟩
 rcases h.2 with h | ⟨n,off,cap,cs,h1,h2,h3,h4⟩
 ·exact .inl h
 ·refine .inr ⟨n,off,cap,cs,h1,⟨h2,?_⟩,h3,h4⟩
  unfold hrd at h3
  cases hm:tget M n with
  | none=>rw[hm]at h3;cases h3
  | some x=>exact⟨x,rfl⟩
mutual
theorem ExAtP.some {M:Hp} {p:Nat->Prop}:∀{e:Ex} {cs:List XV},ExAtP M p e cs->ExAtP M (fun k=>p k/\∃x,tget M k = .some x) e cs
 | .mk k x y ps,cs,h=>by
   simp only[ExAtP]at h ⊢
   obtain⟨v,row,h1,h2,h3⟩:=h
   exact⟨v,row,h1,h2.some,ExsAtP.some h3⟩
theorem ExsAtP.some {M:Hp} {p:Nat->Prop}:∀{es:List Ex} {row:List XV},ExsAtP M p es row->ExsAtP M (fun k=>p k/\∃x,tget M k = .some x) es row
 | [],_,_=>by simp only[ExsAtP]
 | e::es,row,h=>by
   simp only[ExsAtP]at h ⊢
   exact⟨ExAtP.some h.1,ExsAtP.some h.2⟩
end
theorem SlAtP.aside {nx:Nat} {M N M' N':Hp} {v:XV} {sz len:Nat} {row:List XV} (h:SlAtP M (OutOf nx N) v sz len row) (hA:Aside nx N M N' M') {q:Nat->Prop} (hq:∀k,OutOf nx N' k->q k):SlAtP M' q v sz len row :=
 h.some.keep fun k ⟨⟨h1,h2⟩,x,h3⟩=>⟨by rw[(hA k x h1 h2 h3).1,h3],hq k ⟨h1,(hA k x h1 h2 h3).2⟩⟩
theorem RecAtP.aside {nx:Nat} {M N M' N':Hp} {r:Rec} {cs:List XV} (h:RecAtP M (OutOf nx N) r cs) (hA:Aside nx N M N' M') {q:Nat->Prop} (hq:∀k,OutOf nx N' k->q k):RecAtP M' q r cs:=by
 obtain⟨pc,ve,h1,h2,h3⟩:=h
 exact⟨pc,ve,h1,h2.some.keep fun k ⟨⟨h1,h2⟩,x,h3⟩=>⟨by rw[(hA k x h1 h2 h3).1,h3],hq k ⟨h1,(hA k x h1 h2 h3).2⟩⟩,h3.aside hA hq⟩
theorem f38pred (ρ:Rho) {M N:Hp} {nx lo h:Nat} {S:HS} {r:Rec} {cs:List XV} (hr:RecAtP M (OutOf nx N) r cs) (H:HF M nx N lo h S) (k5:r.kind=5) (few:S.looks.length+r.es.length<=100000) (cnt:∀x,0<=(S.obj x).getD 0/\(S.obj x).getD 0<=100000000) (i:Int) :
 FOk Tryz.prog ρ 38 [.mp h 0,.int .i64 i,.agg cs] M nx (HStep M nx N lo h (S.preds i r r.es.length) (.tup [])):=by
 obtain⟨pk,pa,pb,pv,ve,rfl,⟨p1,p2⟩,⟨q1,q2⟩,_,_⟩:=(hr.lt fun k hk=>hk.1).cells
 have hesP:SlAtP M (OutOf nx N) ve 4 r.es.length (r.es.flatMap encEn):=by
  obtain⟨pc,ve',h1,h2,h3⟩:=hr
  obtain⟨a1,a2,a3,a4,rfl,_,_⟩:=h2.shape
  simp only[List.cons_append,List.nil_append,List.cons.injEq,and_true,true_and]at h1
  rw[h1.2.2.2.2];exact h3
 have hes:SlAt M nx ve 4 r.es.length (r.es.flatMap encEn):=SlAtP.lt (hesP.keep fun k hk=>⟨rfl,hk.1⟩)
 have hlen:=fun N=>hes.len (P:=Tryz.prog) (t:=41) ty41.2.2.2.2.2 N
 have hNnx:=H.out (Nat.le_refl nx)
 have hlo:lo<=nx:=by obtain⟨hi,q1,q2⟩:=H.at';have:=q2.lo_lt;omega
 have hbig:r.es.length<=100000:=by omega
 clear hr
 rw[k5]
 refine FOk.walk (m:=134) (rs:=[]) follows Tryz.func38 (by kernel_rfl) rfl rfl rfl ?_
 conv in W _ _ _ _ _ _ _=>arg 4;whnf
 rw[endK_nil]
 refine xs6 gy29 p1 p2 q1 q2 hlen ?_;try exact⟨⟩
 refine W_loop (fun m' s=>∃(j:Nat) (N':Hp),j<=r.es.length/\m'=r.es.length - j/\tget s.env 0=some (.mp h 0)/\tget s.env 1=some (.int .i64 i)/\tget s.env 5=some (.mp nx 0)/\tget s.env 63=some ve/\tget s.env 64=some (.int .i64 r.es.length)/\tget s.env 65=some (.int .i64 j) /\
  tget s.M nx=some (.row [.int .i64 5,.int .u64 r.t,.int .u64 r.x,.int .u64 r.w,.int .u64 r.n,.int .u64 r.v,.int .i64 pk,.int .u64 pa,.int .u64 pb,pv,ve])/\tget N' nx=none/\HF s.M s.nx N' lo h (S.preds i r j)/\nx+1<=s.nx/\Aside nx N M N' s.M/\Agr lo M s.M)
  r.es.length ⟨0,N,by omega,by omega,?_⟩ ?_
 ·refine xs1 gy29 ?_;try exact⟨⟩
  exact⟨hNnx,H.agr (by(repeat (refine Agr.set ?_ (by omega) _));exact Agr.refl _ _) (by omega),by omega,fun k x k1 k2 k3=>⟨(by(repeat (first | rw[tget_tset,if_pos rfl] | rw[tget_tset,if_neg (by omega)] | rw[tget_tdel,if_neg (by omega)]));try (first | rfl | assumption)),k2⟩,(by(repeat (refine Agr.set ?_ (by omega) _));exact Agr.refl _ _)⟩
 ·rintro m' ⟨env,M',nx'⟩ ⟨j,N',hj,hm',e0,e1,e5,e63,e64,e65,hbox,hN0,hF,hn,hA,hG⟩
  simp only at e0 e1 e5 e63 e64 e65 hbox hF hn hA hG
  have hes':SlAt M' nx ve 4 r.es.length (r.es.flatMap encEn):=SlAtP.lt (hesP.aside hA fun k hk=>hk.1)
  clear hes hesP hlen H
  by_cases hlt:(j:Int)<r.es.length
  ·have hlt':j<r.es.length:=by omega
   obtain⟨e,hje⟩:∃e,r.es[j]?=some e:=⟨r.es[j],by simp[hlt']⟩
   obtain⟨n,o,hnb,hix,hld⟩:=hes'.elem (P:=Tryz.prog) hlt' (t:=41) (t':=120) ty41.2.2.2.1 ty120.1
   have hld:=hld M' (Agr.refl _ _)
   rw[ens_row _ _ _ hje]at hld
   simp only[encEn]at hld
   have hw2:IntKind.i64.wrap ((j:Int)+1)=((j+1:Nat):Int):=by rw[wrap_i64 (by omega) (by omega)];omega
   have hpb:=preds_bound (S:=S) (i:=i) (r:=r) j
   have hcx:=hpb.2 e.x
   have hc0:=cnt e.x
   have hcall:=fun(M1:Hp) (n1:Nat) (ha:Agr nx' M' M1) (hn1:nx'<=n1)=>f66h ρ (hF.agr ha hn1) (show (S.preds i r j).looks.length<=100000 by have:=hpb.1;omega) (lookE i r j e) (by simp only[lookE];omega)
   simp only[lookE,encLook]at hcall
   have hSn:S.preds i r (j+1)=(S.preds i r j).look (lookE i r j e):=by
    conv=>lhs;unfold HS.preds
    rw[hje]
   clear hpb hcx hc0 cnt few
   refine xs11 gy29 e0 e1 e5 e63 e64 e65 hlt hix hld hbox ?_;try exact⟨⟩
   generalize hM1:tset (tset M' _ _) _ _=M1
   have a1:Agr nx' M' M1:=by rw[<-hM1];exact(by(repeat (refine Agr.set ?_ (by omega) _));exact Agr.refl _ _)
   clear hM1
   refine CN_fok (hcall M1 _ a1 (by omega)) ?_
   rintro⟨u,M2,n2⟩ ⟨k1,k2,N2,k3,k4,k5⟩
   simp only at k1 k2 k3 k4 k5
   subst k1
   have hA1:Aside nx' N' M' N2 M2:=fun k x h1 h2 h3=>k4 k x (by omega) h2 (by rw[a1 k h1];exact h3)
   obtain⟨c1,c2⟩:=hA1 nx _ (by omega) hN0 hbox
   refine xs8 gy29 e0 e1 e5 e63 e64 e65 hw2 ?_;try exact⟨⟩
   refine⟨r.es.length - (j+1),by omega,j+1,N2,by omega,rfl,rfl,c1,c2,by rw[hSn];exact k3.agr (Agr.refl _ _) (by omega),by omega,hA.trans hA1 (by omega),(hG.trans (a1.le (by omega))).trans k5⟩
  ·clear cnt few
   refine xs9 gy29 e0 e1 e5 e63 e64 e65 hlt @endN_n ?_;try exact⟨⟩
   have hie:j=r.es.length:=by omega
   rw[hie]at hF
   exact⟨rfl,by simp only;omega,N',hF.agr (Agr.refl _ _) (by simp only;omega),hA,hG⟩
def HS.take (S:HS) (i:Nat) (r:Rec):HS :=
 if r.kind=1 then S.begin i r
 else if r.kind=2 then S.look ⟨i,0,r.t,r.x,r.w,r.n,false,false⟩
 else if r.kind=3\/r.kind=4 then S.modify i r ((S.num r.t).getD 0).toNat
 else if r.kind=5 then S.preds i r r.es.length
 else if r.kind=6 then match S.txs[((S.num r.t).getD 0).toNat]? with | some a=>S.endTx ((S.num r.t).getD 0).toNat ⟨r.t,a.b,i,1,(S.com.length:Int)⟩ (S.com++[r.t]) | none=>S
 else match S.txs[((S.num r.t).getD 0).toNat]? with | some a=>S.endTx ((S.num r.t).getD 0).toNat ⟨r.t,a.b,i,2,a.n⟩ S.com | none=>S
structure TakeOk (S:HS) (r:Rec):Prop where
 kind:1<=r.kind/\r.kind<=7
 tx:r.kind≠1->∃(k:Nat) (a:TxS),S.num r.t=some (k:Int)/\S.txs[k]?=some a/\a.t=r.t/\(S.places k r.x).length<=100000
 txs:S.txs.length<=100000
 mods:S.mods.length<=100000
 com:S.com.length<=100000
 looks:S.looks.length+r.es.length+1<=100000
 cnt:∀x,0<=(S.obj x).getD 0/\(S.obj x).getD 0<=100000000
theorem f38 (ρ:Rho) {M N:Hp} {nx lo h:Nat} {S:HS} {r:Rec} {cs:List XV} (hr:RecAtP M (OutOf nx N) r cs) (H:HF M nx N lo h S) (i:Nat) (ok:TakeOk S r) :
 FOk Tryz.prog ρ 38 [.mp h 0,.int .i64 i,.agg cs] M nx (HStep M nx N lo h (S.take i r) (.tup [])):=by
 have hrc:=(hr.lt fun k hk=>hk.1).c
 have hc:=ok.cnt r.x
 obtain⟨k1,k2⟩:=ok.kind
 have hlk:=ok.looks
 by_cases e1:r.kind=1
 ·simp only[HS.take,e1,if_true]
  exact FOk.hist H fun hi hh hH=>f38begin ρ hrc hH hh e1 ok.txs i
 by_cases e5:r.kind=5
 ·have:S.take i r=S.preds i r r.es.length:=by simp[HS.take,e5]
  rw[this]
  exact f38pred ρ hr H e5 (by omega) ok.cnt i
 by_cases e2:r.kind=2
 ·have:S.take i r=S.look ⟨i,0,r.t,r.x,r.w,r.n,false,false⟩:=by simp[HS.take,e2]
  rw[this]
  exact FOk.hist H fun hi hh hH=>f38read ρ hrc hH hh e2 (by omega) (by omega) i
 obtain⟨k,a,q1,q2,q3,q4⟩:=ok.tx e1
 have hk:((S.num r.t).getD 0).toNat=k:=by rw[q1];rfl
 by_cases e34:r.kind=3\/r.kind=4
 ·have:S.take i r=S.modify i r k:=by simp only[HS.take,if_neg e1,if_neg e2,if_pos e34,hk]
  rw[this]
  exact FOk.hist H fun hi hh hH=>f38mod ρ hrc hH hh e34 ok.mods q1 q2 q3 q4 i (by omega)
 by_cases e6:r.kind=6
 ·have:S.take i r=S.endTx k ⟨r.t,a.b,i,1,(S.com.length:Int)⟩ (S.com++[r.t]):=by simp only[HS.take,if_neg e1,if_neg e2,if_neg e34,if_neg e5,if_pos e6,hk,q2]
  rw[this]
  exact FOk.hist H fun hi hh hH=>f38commit ρ hrc hH hh e6 q1 q2 q3 ok.com i
 ·have:S.take i r=S.endTx k ⟨r.t,a.b,i,2,a.n⟩ S.com:=by simp only[HS.take,if_neg e1,if_neg e2,if_neg e34,if_neg e5,if_neg e6,hk,q2]
  rw[this]
  exact FOk.hist H fun hi hh hH=>f38abort ρ hrc hH hh (by omega) q1 q2 q3 i
end Go.Xs
namespace Go.Xs
noncomputable section
variable {M M' N N':Hp} {nx nx' lo hi hi' h:Nat} {S S':HS}
def HS0:HS:=⟨0,[],[],fun _ _=>[],fun _=>none,[],[],fun _ _ _=>none,[],fun _=>none⟩
def HS.addr (S:HS) (cs:List XV):HS:={ S with nrec:=S.nrec+1,crec:=S.crec++cs }
theorem hist_new {a b c:Nat} (ha:a<hi) (hb:b<hi) (hc:c<hi) (hh:h<hi) (ab:a≠b) (ac:a≠c) (ah:a≠h) (bc:b≠c) (bh:b≠h) (ch:c≠h) (la:lo<=a) (lb:lo<=b) (lc:lo<=c) (lh:lo<=h)
 (ga:tget M a=some (.map [] 0)) (gb:tget M b=some (.map [] 0)) (gc:tget M c=some (.map [] 0)) (gh:tget M h=some (.row [.nils,.nils,.mm a,.nils,.nils,.mm b,.nils,.mm c])):HistAt M lo hi h HS0:=by
 refine⟨fun k=>if k=a then .num else if k=b then .ver else if k=c then .obj else .hist,.nils,.nils,.nils,.nils,.nils,a,b,c,0,0,0,[],[],[],[],?_⟩
 have nn:∀tg:Hg,OwnSl M lo hi (fun k=>if k=a then Hg.num else if k=b then .ver else if k=c then .obj else .hist) tg .nils 11 0 []:=fun tg=>⟨by omega,rfl,.inl ⟨rfl,rfl⟩⟩
 exact {
  lo_h:=lh,h_hi:=hh,tg:=by rw[if_neg ah.symm,if_neg bh.symm,if_neg ch.symm],row:=gh
  recs:=⟨by decide,rfl,.inl ⟨rfl,rfl⟩⟩,txs:=⟨by decide,rfl,.inl ⟨rfl,rfl⟩⟩
  known:=fun i x hx=>by simp[HS0]at hx
  nlo:=la,nhi:=ha,ntg:=if_pos rfl,num:=ga,numS:=fun t=>rfl
  com:=⟨by decide,rfl,.inl ⟨rfl,rfl⟩⟩,mods:=⟨by decide,rfl,.inl ⟨rfl,rfl⟩⟩
  vlo:=lb,vhi:=hb,vtg:=by rw[if_neg ab.symm,if_pos rfl],ver:=gb,vrow:=by intro e he;cases he
  verS:=fun _ _ _=>rfl,looks:=⟨by decide,rfl,.inl ⟨rfl,rfl⟩⟩
  olo:=lc,ohi:=hc,otg:=by rw[if_neg ac.symm,if_neg bc.symm,if_pos rfl],obj:=gc,objS:=fun _=>rfl }
theorem hf_new {a b c:Nat} (ha:a<nx) (hb:b<nx) (hc:c<nx) (hh:h<nx) (ab:a≠b) (ac:a≠c) (ah:a≠h) (bc:b≠c) (bh:b≠h) (ch:c≠h) (la:lo<=a) (lb:lo<=b) (lc:lo<=c) (lh:lo<=h)
 (ga:tget M a=some (.map [] 0)) (gb:tget M b=some (.map [] 0)) (gc:tget M c=some (.map [] 0)) (gh:tget M h=some (.row [.nils,.nils,.mm a,.nils,.nils,.mm b,.nils,.mm c])) :
 ∃N,HF M nx N lo h HS0/\∀k,k≠a->k≠b->k≠c->k≠h->tget N k=none:=by
 obtain⟨N,hN⟩:=tr_of (fun k=>if k=a\/k=b\/k=c\/k=h then tget M k else none) nx
 have g:∀k,k<nx->(k=a\/k=b\/k=c\/k=h)->tget N k=tget M k:=fun k h1 h2=>by rw[hN,if_pos h1];exact if_pos h2
 refine⟨N,⟨fun k o ho=>?_,fun k x hx=>?_,fun k x hx=>?_,nx,Nat.le_refl _,hist_new ha hb hc hh ab ac ah bc bh ch la lb lc lh ((g a ha (.inl rfl)).trans ga) ((g b hb (.inr (.inl rfl))).trans gb) ((g c hc (.inr (.inr (.inl rfl)))).trans gc) ((g h hh (.inr (.inr (.inr rfl)))).trans gh)⟩,fun k h1 h2 h3 h4=>?_⟩
 ·rw[hN]at ho
  split at ho<;>(try (cases ho;done))
  skip
  split at ho<;>(try (cases ho;done))
  rename_i hk
  refine⟨ho,?_⟩
  rcases hk with rfl | rfl | rfl | rfl
  ·rw[ga]at ho;cases ho;rfl
  ·rw[gb]at ho;cases ho;rfl
  ·rw[gc]at ho;cases ho;rfl
  ·rw[gh]at ho;cases ho;rfl
 ·rw[hN]at hx
  split at hx
  ·assumption
  ·cases hx
 ·rw[hN]at hx
  split at hx
  ·split at hx
   ·omega
   ·cases hx
  ·cases hx
 ·rw[hN]
  split
  ·exact if_neg (by omega)
  ·rfl
section
variable {tag tag':Nat->Hg} {vrec vtxs vcom vmods vlook:XV} {nk vk ok cn cv co:Nat} {ptrs:List XV} {lnum:List (Nat×Int×Int)} {lver:List (Nat×List Int×Int)} {lobj:List (Nat×Int×Int)}
theorem Hist.addr {vrec':XV} {cs:List XV} (H:Hist M lo hi h S tag vrec vtxs vcom vmods vlook nk vk ok cn cv co ptrs lnum lver lobj)
 (keep:∀q,q<hi->¬ (fun g=>g=Hg.hist\/g = .recs) (tag q)->tget M' q=tget M q) (htag:∀q,q<hi->tag' q=tag q) (hh:hi<=hi')
 (row:tget M' h=some (.row [vrec',vtxs,.mm nk,vcom,vmods,.mm vk,vlook,.mm ok])) (recs:OwnSl M' lo hi' tag' .recs vrec' 11 (S.nrec+1) (S.crec++cs)) :
 Hist M' lo hi' h (S.addr cs) tag' vrec' vtxs vcom vmods vlook nk vk ok cn cv co ptrs lnum lver lobj:=by
 have kk:=fun tg hc=>keepT (M:=M) (M':=M') (C:=fun g=>g=Hg.hist\/g = .recs) keep htag tg hc
 exact {
  lo_h:=H.lo_h,h_hi:=Nat.lt_of_lt_of_le H.h_hi hh,tg:=by rw[htag h H.h_hi];exact H.tg,row:=row
  recs:=recs,txs:=H.txs.keep (kk _ (by simp)) hh
  known:=fun i b hb=>by
   obtain⟨v,h1,h2⟩:=H.known i b hb
   exact⟨v,h1,h2.keep (fun k hk hg=>⟨keep k hk (by rcases hg with q | q | ⟨x,q⟩<;>rw[q]<;>simp),htag k hk⟩) hh⟩
  nlo:=H.nlo,nhi:=Nat.lt_of_lt_of_le H.nhi hh,ntg:=by rw[htag nk H.nhi];exact H.ntg,num:=by rw[(kk _ (by simp) nk H.nhi H.ntg).1];exact H.num,numS:=H.numS
  com:=H.com.keep (kk _ (by simp)) hh,mods:=H.mods.keep (kk _ (by simp)) hh
  vlo:=H.vlo,vhi:=Nat.lt_of_lt_of_le H.vhi hh,vtg:=by rw[htag vk H.vhi];exact H.vtg,ver:=by rw[(kk _ (by simp) vk H.vhi H.vtg).1];exact H.ver,vrow:=H.vrow,verS:=H.verS
  looks:=H.looks.keep (kk _ (by simp)) hh
  olo:=H.olo,ohi:=Nat.lt_of_lt_of_le H.ohi hh,otg:=by rw[htag ok H.ohi];exact H.otg,obj:=by rw[(kk _ (by simp) ok H.ohi H.otg).1];exact H.obj,objS:=H.objS }
end
theorem part_upd {knew:Nat} {old:List Nat} {x y:XObj} (hM:Mu N M) (hlt:∀k o,tget N k=some o->k<nx) (hx:muts x=true) (hy:muts y=true) (hk:nx<=knew) (hk':knew<nx') (hh:h<nx) (hne:h ∉ old) (gone:∀j,j<nx->j≠h->j ∉ old->tget M' j=tget M j)
 (e1:tget M' h=some x) (e2:tget M' knew=some y) (hN:tget N h≠none) (hold:∀j ∈ old,tget N j≠none):∃N',Mu N' M'/\(∀k o,tget N' k=some o->k<nx'/\(k=knew\/tget N k≠none))/\Aside nx N M N' M'/\(∀k,k<nx->k≠h->k ∉ old->tget N' k=tget N k)/\tget N' h=some x/\tget N' knew=some y:=by
 obtain⟨N',hN'⟩:=tr_of (fun k=>if k=knew then some y else if k=h then some x else if k ∈ old then none else tget N k) nx'
 have g:∀k,k<nx'->tget N' k=if k=knew then some y else if k=h then some x else if k ∈ old then none else tget N k:=fun k hk=>by rw[hN',if_pos hk]
 refine⟨N',fun k o ho=>?_,fun k o ho=>?_,fun k z k1 k2 k3=>⟨?_,?_⟩,fun k k1 k2 k3=>?_,?_,?_⟩
 ·have hkl:k<nx':=by rw[hN']at ho;split at ho;assumption;cases ho
  rw[g k hkl]at ho
  split at ho
  ·rename_i e;subst e;cases ho;exact⟨e2,hy⟩
  ·split at ho
   ·rename_i e;subst e;cases ho;exact⟨e1,hx⟩
   ·split at ho
    ·cases ho
    ·rename_i f1 f2 f3
     obtain⟨q1,q2⟩:=hM k o ho
     exact⟨by rw[gone k (hlt k o ho) f2 f3];exact q1,q2⟩
 ·have hkl:k<nx':=by rw[hN']at ho;split at ho;assumption;cases ho
  refine⟨hkl,?_⟩
  rw[g k hkl]at ho
  split at ho
  ·rename_i e;exact .inl e
  ·right
   split at ho
   ·rename_i e;rw[e];exact hN
   ·split at ho
    ·cases ho
    ·rw[ho];simp
 ·rw[gone k k1 (fun e=>hN (by rw[<-e];exact k2)) (fun e=>hold k e k2)];exact k3
 ·rw[g k (by omega),if_neg (by omega),if_neg (fun e=>hN (by rw[<-e];exact k2)),if_neg (fun e=>hold k e k2)];exact k2
 ·rw[g k (by omega),if_neg (by omega),if_neg k2,if_neg k3]
 ·rw[g h (by omega),if_neg (by omega),if_pos rfl]
 ·rw[g knew hk',if_pos rfl]
theorem HF.addr (H:HF M nx N lo h S) {cs:List XV} (hcs:cs.length=11) (few:S.nrec<=100000):∃vrec c1 nk c3 c4 vm c6 om old,tget M h=some (.row [vrec,c1,.mm nk,c3,c4,.mm vm,c6,.mm om])/\h<nx/\S.crec.length=S.nrec*11 /\
 ((vrec = .nils/\S.nrec=0/\old=[])\/∃sk,vrec = .sl sk 11 0 S.nrec S.nrec/\1<=S.nrec/\sk<nx/\h≠sk/\tget M sk=some (.row S.crec)/\tget N sk≠none/\lo<=sk/\old=[sk]) /\
 ∀M' nx' knew,nx<=knew->knew<nx'->(∀j,j<nx->j≠h->j ∉ old->tget M' j=tget M j)->tget M' h=some (.row [.sl knew 11 0 (S.nrec+1) (S.nrec+1),c1,.mm nk,c3,c4,.mm vm,c6,.mm om])->tget M' knew=some (.row (S.crec++cs)) ->
  ∃N',HF M' nx' N' lo h (S.addr cs)/\Aside nx N M N' M':=by
 obtain⟨mu,lt,ge,hi,hhi,tag,vrec,vtxs,vcom,vmods,vlook,nk,vk,ok,cn,cv,co,ptrs,lnum,lver,lobj,H⟩:=H
 have hrow:=H.row
 have hh:=H.h_hi
 have hr:=H.recs
 obtain⟨r1,r2,r3⟩:=hr
 have main:∀old:List Nat,h ∉ old->(∀j ∈ old,j<hi/\tag j = .recs/\tget N j≠none)->∀M' nx' knew,nx<=knew->knew<nx'->(∀j,j<nx->j≠h->j ∉ old->tget M' j=tget M j)->tget M' h=some (.row [.sl knew 11 0 (S.nrec+1) (S.nrec+1),vtxs,.mm nk,vcom,vmods,.mm vk,vlook,.mm ok])->tget M' knew=some (.row (S.crec++cs)) ->
  ∃N',HF M' nx' N' lo h (S.addr cs)/\Aside nx N M N' M':=by
  intro old ho1 ho2 M' nx' knew k1 k2 k3 k4 k5
  obtain⟨N',p1,p2,p3,p4,p5,p6⟩:=part_upd mu lt rfl rfl k1 k2 (by omega) ho1 k3 k4 k5 (by rw[hrow];simp) fun j hj=>(ho2 j hj).2.2
  refine⟨N',⟨p1,fun k o ho=>(p2 k o ho).1,fun k o ho=>?_,nx',Nat.le_refl _,fun k=>if k=knew then .recs else tag k,_,vtxs,vcom,vmods,vlook,nk,vk,ok,cn,cv,co,ptrs,lnum,lver,lobj,H.addr (hi':=nx') (fun q q1 q2=>p4 q (by omega) (fun e=>q2 (by rw[e];exact .inl H.tg)) fun e=>q2 (.inr (ho2 q e).2.1)) (fun q hq=>if_neg (by omega)) (by omega) p5 ⟨by omega,by rw[List.length_append,r2,hcs];omega,.inr ⟨by omega,knew,rfl,by have:=H.lo_h;omega,k2,if_pos rfl,p6⟩⟩⟩,p3⟩
  rcases(p2 k o ho).2 with e | e
  ·have:=H.lo_h;omega
  ·cases hn:tget N k with
   | none=>exact(e hn).elim
   | some x=>exact ge k x hn
 rcases r3 with ⟨e1,e2⟩ | ⟨e0,sk,e1,e2,e3,e4,e5⟩
 ·subst e1
  exact⟨.nils,vtxs,nk,vcom,vmods,vk,vlook,ok,[],(mu h _ hrow).1,by omega,r2,.inl ⟨rfl,e2,rfl⟩,main [] (by simp) (by simp)⟩
 ·subst e1
  have hne:h≠sk:=tag_ne H.tg e4 (by simp)
  exact⟨_,vtxs,nk,vcom,vmods,vk,vlook,ok,[sk],(mu h _ hrow).1,by omega,r2,.inr ⟨sk,rfl,e0,by omega,hne,(mu sk _ e5).1,by rw[e5];simp,e2,rfl⟩,main [sk] (by simpa using hne) (fun j hj=>by simp only[List.mem_singleton]at hj;subst hj;exact⟨e3,e4,by rw[e5];simp⟩)⟩
end
end Go.Xs
namespace Go.Xs
noncomputable section
abbrev YW:=List XV->Hp->Nat->(Hp->Nat->Prop)->Prop
section
variable {P:Program} {a:Act} {w w' w0:World} {ρ:Rho} {σ σ' σ0:Sig} {M N M' M0:Hp} {env env':Env} {ds:List Deferred} {nx nx0 n:Nat}
def HdW (P:Program) (ρ:Rho) (w0:World) (σ0:Sig) (M0:Hp) (nx0:Nat) (l:Nat) (rec:Loop) (H:YW):Prop :=
 ∀args M nx Q,H args M nx Q->∀w σ us,Ok ρ w σ M->(∀k,nx<=k->σ k=none)->Ext w0 σ0 M0 w σ M->nx0<=nx->VRs ρ σ args us ->
  us.length=rec.params.size/\∀fr,RoundIn (FW fr) 0 P l rec.fn ((rec.params.zip us.toArray).foldl (fun tmps (t,a)=>tmps.setIfInBounds t a) rec.tmps) rec.assign rec.body w
   fun e w'=>e = .returned (.bool true)/\∃M' nx',Q M' nx'/\∃σ',Ok ρ w' σ' M'/\Ext w σ M w' σ' M'/\nx<=nx'/\∀k,σ' k=σ k\/(nx<=k/\k<nx')
def YWk (P:Program) (ρ:Rho) (w0:World) (σ0:Sig) (M0:Hp) (nx0:Nat):Option (Nat×YW)->Prop
 | none=>True
 | some (k,H)=>∃l rec room,σ0 k=some (l,room)/\Frn w0 σ0 M0 l (.loop rec)/\HdW P ρ w0 σ0 M0 nx0 l rec H
theorem YWk.mono {Y:Option (Nat×YW)} (h:YWk P ρ w0 σ0 M0 nx0 Y) (e:Ext w0 σ0 M0 w σ M) (hle:nx0<=nx):YWk P ρ w σ M nx Y:=by
 cases Y with
 | none=>trivial
 | some Y =>
   obtain⟨k,H⟩:=Y
   obtain⟨l,rec,room,h1,h2,h3⟩:=h
   exact⟨l,rec,room,e.sig _ _ h1,h2.ext e,fun args M' nx' Q hH w' σ' us hok hfree hext hle' hus=>h3 args M' nx' Q hH w' σ' us hok hfree (e.trans hext) (Nat.le_trans hle hle') hus⟩
def IOk (P:Program) (ρ:Rho) (g:Nat) (args:List XV) (Y:Nat×YW) (M:Hp) (nx:Nat) (R:Hp->Nat->Prop):Prop :=
 ∀w σ vs,Ok ρ w σ M->(∀k,nx<=k->σ k=none)->VRs ρ σ args vs->YWk P ρ w σ M nx (some Y) ->
  (∃fn c,P.funcs[g]?=some fn/\fn.body=some c/\(fn.name == "runtime.NumGoroutine")=false) /\
  CallsIn (FW none) 0 P g vs.toArray w fun e w'=>(∃v,e = .returned v)/\∃M' nx',R M' nx'/\∃σ',Ok ρ w' σ' M'/\Ext w σ M w' σ' M'/\nx<=nx'/\∀k,σ' k=σ k\/(nx<=k/\k<nx')
def roundW (P:Program) (ρ:Rho) (n:Nat) (asg body:Code) (ps:List Nat) (env:Env):YW:=fun args M nx Q =>
 ∃env',putPs n ps args env=some env'/\wx P ρ n asg (fun e s=>e = .normal/\wx P ρ n body (fun e s'=>e = .normal/\Q s'.M s'.nx) s) ⟨env',M,nx⟩
def RNY (P:Program) (ρ:Rho) (n:Nat) (Y:Option (Nat×YW)) (all:List Oper):List Oper->XS->(XS->Prop)->Prop
 | [],s,Q=>Q s
 | o::os,s,Q=>match guardX all s.env o.guard with
   | none=>False
   | some false=>∃env,putX n s.env o.dst .udf=some env/\RNY P ρ n Y all os ⟨env,s.M,s.nx⟩ Q
   | some true=>(OX P ρ s.env s.M s.nx o.op fun r=>∃env,putX n s.env o.dst r.1=some env/\RNY P ρ n Y all os ⟨env,r.2.1,r.2.2⟩ Q) \/
     ∃c k H args,o.op = .call c/\Y=some (k,H)/\yldX s.env c=some (k,args)/\H args s.M s.nx fun M' nx'=>∃env,putX n s.env o.dst (.bool true)=some env/\RNY P ρ n Y all os ⟨env,M',nx'⟩ Q
theorem RNY_pre {Y:Option (Nat×YW)} {all:List Oper} {Q:XS->Prop} {post:List Oper}:∀(pre:List Oper) (s:XS),RN P ρ n all pre s (fun s=>RNY P ρ n Y all post s Q)->RNY P ρ n Y all (pre++post) s Q
 | [],s,h=>h
 | o::os,s,h=>by
   unfold RN at h
   simp only[List.cons_append]
   unfold RNY
   split at h<;>rename_i hg
   ·exact h.elim
   ·rw[hg]
    obtain⟨env,h1,h2⟩:=h
    exact⟨env,h1,RNY_pre os _ h2⟩
   ·rw[hg]
    exact .inl (OX_mono h fun r ⟨env,h1,h2⟩=>⟨env,h1,RNY_pre os _ h2⟩)
def wxR (P:Program) (ρ:Rho) (n:Nat) (Y:Option (Nat×YW)):Code->(AExit->XS->Prop)->XS->Prop
 | .skip,K,s=>K .normal s
 | .ret,K,s=>K .ret s
 | .exit id,K,s=>K (.exit id) s
 | .seq a b,K,s=>wxR P ρ n Y a (seqK (wxR P ρ n Y b K) K) s
 | .block id c,K,s=>wxR P ρ n Y c (fun e s'=>K (inB id e) s') s
 | .cond c a b,K,s=>∃v,opv s.env c = .bool v/\(v=true->wxR P ρ n Y a K s)/\(v=false->wxR P ρ n Y b K s)
 | .loop c,K,s=>∃I:Nat->XS->Prop,(∃k,I k s)/\∀k s',I k s'->wxR P ρ n Y c (loopK I k K) s'
 | .region id ops draw,K,s=>match draw with
   | false=>RNY P ρ n Y ops.toList ops.toList s (K .normal)
   | true=>wx P ρ n (.region id ops true) K s
 | .rangeFunc g ps asg body,K,s=>∃h caps R,opv s.env g = .fn (.func h) [] caps/\IOk P ρ h (.yd s.nx::caps) (s.nx,roundW P ρ n asg body ps.toList s.env) s.M (s.nx+1) R/\∀M' nx',R M' nx'->K .normal ⟨s.env,M',nx'⟩
 | _,_,_=>False
theorem wxR_of {Y:Option (Nat×YW)}:∀(c:Code) (K:AExit->XS->Prop) (s:XS),wx P ρ n c K s->wxR P ρ n Y c K s:=by
 intro c
 induction c with
 | skip=>intro K s h;exact h
 | ret=>intro K s h;exact h
 | exit id=>intro K s h;exact h
 | region id ops draw =>
   intro K s h
   cases draw with
   | false =>
     have:ops.toList=ops.toList++[]:=by simp
     simp only[wxR]
     conv=>arg 6;rw[this]
     exact RNY_pre _ _ h
   | true=>exact h
 | seq x y ihx ihy =>
   intro K s h
   refine ihx _ s (wx_mono x _ _ s (fun e s' q=>?_) h)
   cases e with
   | normal=>exact ihy _ _ q
   | exit id=>exact q
   | ret=>exact q
 | cond c x y ihx ihy =>
   intro K s h
   obtain⟨v,hv,h1,h2⟩:=h
   exact⟨v,hv,fun e=>ihx _ s (h1 e),fun e=>ihy _ s (h2 e)⟩
 | block id c ih=>intro K s h;exact ih _ s h
 | loop c ih =>
   intro K s h
   obtain⟨I,h0,h1⟩:=h
   exact⟨I,h0,fun k s' hi=>ih _ _ (h1 k s' hi)⟩
 | _=>intro K s h;exact h.elim
theorem roundW_ok (hp:P.follows .mixedOrders=true) {asg body:Code} {fn:FuncId} {tmps:Array Value} {ps:Array Tmp} {D l:Nat}
 (henv:EnvR ρ σ0 env tmps) (hsize:tmps.size=n) (hl:Frn w0 σ0 M0 l (.loop { state:=.ready,pending:=none,fn,tmps,params:=ps,assign:=asg,body,defers:=D })) :
 HdW P ρ w0 σ0 M0 nx0 l { state:=.ready,pending:=none,fn,tmps,params:=ps,assign:=asg,body,defers:=D } (roundW P ρ n asg body ps.toList env):=by
 intro args M nx Q ⟨env',he,h⟩ w σ us hok hfree hext hle hus
 obtain⟨e1,e2,e3⟩:=putPs_ok ps.toList args us env env' tmps he hus (fun t v hv=>⟨(henv t v hv).1,(henv t v hv).2.mono hext.sig⟩) hsize
 refine⟨by rw[e1];simp,fun fr=>?_⟩
 refine roundIn_of_wpIn (F:=FW fr) (FW_fn fr _) ?_
 rw[FW_in]
 have ez:((ps.zip us.toArray).foldl (fun tmps (t,a)=>tmps.setIfInBounds t a) tmps)=((ps.toList.zip us).foldl (fun tmps (t,a)=>tmps.setIfInBounds t a) tmps):=by
  rw[<-Array.foldl_toList];simp
 simp only[ez]
 have hl0:=hl.ext hext
 have hlt:=hl0.lt
 refine wx_ok hp (fr:=some l) (B:=l+1) asg _ ⟨env',M,nx⟩ _ w σ h ⟨[],⟨e2,e3,hok,hfree,.refl w σ M,Nat.le_refl _,fun _=>.inl rfl,rfl⟩,[],rfl,List.nodup_nil,fun _ h=>by cases h⟩ _ fun e s1 a1 w1 σ1 ⟨he1,h1⟩ ⟨ds1,hst,hk1⟩=>?_
 subst he1
 have r1:=hl0.ext hst.ext
 refine⟨_,run_beginRound r1.here rfl,?_⟩
 have s2:Side w1 σ1 s1.M (w1.putObj l (.loop { state:=.busy,pending:=none,fn,tmps,params:=ps,assign:=asg,body,defers:=D })):=Side.putObj r1 rfl _
 have r2:Frn (w1.putObj l (.loop { state:=.busy,pending:=none,fn,tmps,params:=ps,assign:=asg,body,defers:=D })) σ1 s1.M l (.loop { state:=.busy,pending:=none,fn,tmps,params:=ps,assign:=asg,body,defers:=D }):=r1.put
 have hw2:∀c,c≠l->(w1.putObj l (.loop { state:=.busy,pending:=none,fn,tmps,params:=ps,assign:=asg,body,defers:=D })).heap[c]?=w1.heap[c]?:=fun c hc=>World.putObj_heap_other hc
 generalize w1.putObj l (.loop { state:=.busy,pending:=none,fn,tmps,params:=ps,assign:=asg,body,defers:=D })=w2 at s2 r2 hw2 ⊢
 have hz1:=hst.ext.size
 refine wx_ok hp (fr:=some l) (B:=l+1) body _ s1 a1 w2 σ1 h1 ⟨ds1,⟨hst.envr,hst.size,s2.ok hst.ok,hst.free,.refl _ _ _,Nat.le_refl _,fun _=>.inl rfl,hst.def0⟩,?_⟩ _ fun e s3 a3 w3 σ3 ⟨he3,h3⟩ ⟨ds3,hst3,_⟩=>?_
 ·obtain⟨Ds,q1,q2,q3⟩:=hk1
  exact⟨Ds,q1,q2,fun D hD=>⟨(q3 D hD).1,(q3 D hD).2.side (hw2 D (by have:=(q3 D hD).1;omega))⟩⟩
 ·subst he3
  have r3:=r2.ext hst3.ext
  have s4:=Side.putObj r3 rfl (.loop { state:=.ready,pending:=none,fn,tmps,params:=ps,assign:=asg,body,defers:=D })
  refine⟨_,_,run_endRound none r3.here,rfl,s3.M,s3.nx,h3,σ3,s4.ok hst3.ok,?_,Nat.le_trans hst.le hst3.le,fun k=>?_⟩
  ·have hz2:=s2.size
   have hz3:=hst3.ext.size
   refine⟨hst3.ext.os.trans (s2.os.trans hst.ext.os),hst3.ext.tape.trans (s2.tape.trans hst.ext.tape),hst3.ext.output.trans (s2.output.trans hst.ext.output),by simp;omega,fun c hc hno=>?_,fun c hc=>?_,fun k p hp=>hst3.ext.sig k p (hst.ext.sig k p hp),fun c hc=>?_⟩
   ·by_cases hcl:c=l
    ·subst hcl
     rw[hl0.here]
     exact World.putObj_heap_same r3.lt
    ·have hno1:¬ Owned σ1 s1.M c:=fun q=>by
      rcases hst.ext.own c q with q | q
      ·exact hno q
      ·omega
     refine(World.putObj_heap_other hcl).trans ?_
     rw[hst3.ext.blk c (by omega) hno1,hw2 c hcl,hst.ext.blk c hc hno]
   ·rcases hst3.ext.own c hc with q | q
    ·exact hst.ext.own c q
    ·exact .inr (by omega)
   ·rcases hst3.ext.held c hc with q | q
    ·exact hst.ext.held c q
    ·exact .inr (by omega)
  ·have hfree3:=hst3.free k
   have hle1:nx<=s1.nx:=hst.le
   have hle3:s1.nx<=s3.nx:=hst3.le
   by_cases hk:s3.nx<=k
   ·left;rw[hfree3 hk,hfree k (by omega)]
   ·rcases hst3.old k with e | e
    ·rcases hst.old k with e' | e'
     ·left;rw[e,e']
     ·have e2:nx<=k:=e'
      right;omega
    ·right;omega
theorem RNY_ok {Y:Option (Nat×YW)} {all:List Oper} {fr:Option Nat} {Q:Exit->Act->World->Prop} {F:XS->Prop} (hY:YWk P ρ w0 σ0 M0 nx0 Y) :
 ∀(os:List Oper) (s:XS) (a:Act) (w:World) (σ:Sig),RNY P ρ n Y all os s F->St ds ρ w0 σ0 M0 nx0 n s a w σ ->
  (∀s' a' w' σ',F s'->St ds ρ w0 σ0 M0 nx0 n s' a' w' σ'->Q .normal a' w')->wpListIn (FW fr) 0 P all.toArray Q os a w
 | [],s,a,w,σ,h,hs,hQ=>hQ s a w σ h hs
 | o::os,s,a,w,σ,h,hs,hQ=>by
   unfold RNY at h
   unfold wpListIn
   split at h<;>rename_i hg
   ·exact h.elim
   ·rw[guard_ok hs.envr hg]
    rw[if_neg (by simp)]
    obtain⟨env',he,h⟩:=h
    exact⟨fun f _=>FW_fn fr f,RNY_ok hY os _ _ w σ h (hs.skip he) hQ⟩
   ·rw[guard_ok hs.envr hg,if_pos rfl]
    rcases h with h | ⟨c,k,H,args,hop,hYe,hy,hH⟩
    ·refine OX_ok hs.ok hs.envr hs.free h _ _ fun v w' ⟨r,⟨env',he,h'⟩,hp⟩=>?_
     obtain⟨σ',hs'⟩:=hs.step hp he
     exact RNY_ok hY os _ _ w' σ' h' hs' hQ
    ·subst hYe
     have hY0:=hY
     obtain⟨l,rec,room,hs0,hfr,hhd⟩:=hY
     obtain⟨us,b,room',hb,hus,hrun⟩:=yldX_run (P:=P) (w:=w) hs.envr hop hy
     rw[hs.ext.sig _ _ hs0]at hb
     cases hb
     obtain⟨hz,hround⟩:=hhd args s.M s.nx _ hH w σ us hs.ok hs.free hs.ext hs.le hus
     refine⟨fun f _=>FW_fn fr f,?_⟩
     rw[FW_round,Oper.semAt_eq fr a.eval o (fun c' hc'=>by rw[hop]at hc';cases hc'),hrun,run_yield (hfr.ext hs.ext).here (by simpa using hz)]
     refine⟨fun q=>(by rw[FW_depth]at q;cases q),(hround fr).mono fun e w' hq=>?_⟩
     obtain⟨rfl,M',nx',⟨env',he,h'⟩,σ',g1,g2,g3,g4⟩:=hq
     obtain⟨σ2,hs'⟩:=hs.step (r:=(.bool true,M',nx')) (v:=.bool true) ⟨σ',by simp only[VR],g1,g2,g3,g4⟩ he
     exact RNY_ok hY0 os _ _ w' σ2 h' hs' hQ
theorem wxR_ok (hp:P.follows .mixedOrders=true):∀(c:Code) (Y:Option (Nat×YW)) (B:Nat) (w0:World) (σ0:Sig) (M0:Hp) (nx0:Nat),YWk P ρ w0 σ0 M0 nx0 Y->B<=w0.heap.size ->
 ∀(K:AExit->XS->Prop) (s:XS) (a:Act) (w:World) (σ:Sig),wxR P ρ n Y c K s->Sm ρ B w0 σ0 M0 nx0 n s a w σ ->
 ∀Qm:Exit->Act->World->Prop,(∀e s' a' w' σ',K e s'->Sm ρ B w0 σ0 M0 nx0 n s' a' w' σ'->Qm e.to a' w')->c.wpIn (FW none) 0 P Qm a w:=by
 intro c
 induction c with
 | skip=>intro Y B w0 σ0 M0 nx0 hY hB K s a w σ h hs Qm hQ;exact wpIn_skip (hQ .normal s a w σ h hs)
 | ret=>intro Y B w0 σ0 M0 nx0 hY hB K s a w σ h hs Qm hQ;exact wpIn_ret (hQ .ret s a w σ h hs)
 | exit id=>intro Y B w0 σ0 M0 nx0 hY hB K s a w σ h hs Qm hQ;exact wpIn_exit (hQ (.exit id) s a w σ h hs)
 | region id ops draw =>
   intro Y B w0 σ0 M0 nx0 hY hB K s a w σ h ⟨ds,hs,hk⟩ Qm hQ
   cases draw with
   | true=>exact wx_ok hp _ K s a w σ h ⟨ds,hs,hk⟩ Qm hQ
   | false =>
     simp only[wxR]at h
     refine wpIn_region_list ?_
     have:=RNY_ok (fr:=none) (Q:=Qm) (hY.mono hs.ext hs.le) ops.toList s a w σ h hs.rebase fun s' a' w' σ' hF hst=>hQ .normal s' a' w' σ' hF ⟨ds,hs.join hst,hk.ext hst.ext⟩
     simpa using this
 | seq x y ihx ihy =>
   intro Y B w0 σ0 M0 nx0 hY hB K s a w σ h hs Qm hQ
   refine wpIn_seq (ihx Y B w0 σ0 M0 nx0 hY hB _ s a w σ h hs _ fun e s' a' w' σ' hK hst=>?_)
   cases e with
   | normal=>exact ihy Y B w0 σ0 M0 nx0 hY hB K s' a' w' σ' hK hst Qm hQ
   | exit id=>exact hQ (.exit id) s' a' w' σ' hK hst
   | ret=>exact hQ .ret s' a' w' σ' hK hst
 | cond c x y ihx ihy =>
   intro Y B w0 σ0 M0 nx0 hY hB K s a w σ h hs Qm hQ
   obtain⟨v,hv,h1,h2⟩:=h
   have hvr:VR ρ σ (opv s.env c) (a.eval c):=let ⟨_,hst,_⟩:=hs;opv_ok hst.envr c
   rw[hv]at hvr
   simp only[VR]at hvr
   exact wpIn_cond_split hvr (fun e=>ihx Y B w0 σ0 M0 nx0 hY hB K s a w σ (h1 e) hs Qm hQ) fun e=>ihy Y B w0 σ0 M0 nx0 hY hB K s a w σ (h2 e) hs Qm hQ
 | block id c ih =>
   intro Y B w0 σ0 M0 nx0 hY hB K s a w σ h hs Qm hQ
   refine wpIn_block (ih Y B w0 σ0 M0 nx0 hY hB _ s a w σ h hs _ fun e s' a' w' σ' hK hst=>?_)
   have:=hQ (inB id e) s' a' w' σ' hK hst
   cases e with
   | normal=>exact this
   | ret=>exact this
   | exit i =>
     simp only[AExit.to,Exit.inBlock]
     simp only[inB]at this
     cases hb:Nat.beq i id with
     | true =>
       rw[hb]at this
       rw[if_pos (Nat.eq_of_beq_eq_true hb)]
       exact this
     | false =>
       rw[hb]at this
       rw[if_neg (Nat.ne_of_beq_eq_false hb)]
       exact this
 | loop c ih =>
   intro Y B w0 σ0 M0 nx0 hY hB K s a w σ h hs Qm hQ
   obtain⟨I,⟨k0,h0⟩,hr⟩:=h
   refine wpIn_loop_ghost (fun k a w=>∃s σ,I k s/\Sm ρ B w0 σ0 M0 nx0 n s a w σ) k0 ⟨s,σ,h0,hs⟩ ?_
   rintro k a w ⟨s,σ,hi,hst⟩
   refine ih Y B w0 σ0 M0 nx0 hY hB _ s a w σ (hr k s hi) hst _ fun e s' a' w' σ' hK hst'=>?_
   cases e with
   | normal =>
     obtain⟨j,hj,hj'⟩:=hK
     exact⟨j,hj,s',σ',hj',hst'⟩
   | exit id=>exact hQ (.exit id) s' a' w' σ' hK hst'
   | ret=>exact hQ .ret s' a' w' σ' hK hst'
 | rangeFunc f ps asg body iha ihb =>
   intro Y B w0 σ0 M0 nx0 hY hB K s a w σ h ⟨ds,hs,hk⟩ Qm hQ
   obtain⟨g,caps,RR,hfv,hI,hKR⟩:=h
   have hv:=opv_ok hs.envr f
   rw[hfv]at hv
   simp only[VR,VRs]at hv
   obtain⟨us0,us,hus,hnil,hcaps⟩:=hv
   have hnil:us0 = #[]:=by apply Array.ext';simpa using hnil
   subst hnil
   refine wpIn_rangeFunc ?_
   intro fc _
   obtain⟨R,hR⟩:∃R:Loop,R = { state:=.ready,pending:=none,fn:=fc,tmps:=a.tmps,params:=ps,assign:=asg,body,defers:=w.heap.size }:=⟨_,rfl⟩
   obtain⟨W1,hW1⟩:∃W1,W1=(w.alloc (.deferred (some []))).alloc (.loop R):=⟨_,rfl⟩
   have hz1:(w.alloc (.deferred (some []))).heap.size=w.heap.size+1:=World.size_alloc ..
   have s1:Side w σ s.M (w.alloc (.deferred (some []))):=Side.alloc hs.ok _
   have ok1:=s1.ok hs.ok
   have s2:Side (w.alloc (.deferred (some []))) σ s.M W1:=by rw[hW1];exact Side.alloc ok1 _
   have d1:Frn (w.alloc (.deferred (some []))) σ s.M w.heap.size (.deferred (some [])):=Frn.new hs.ok _
   have at1:∀b,b<w.heap.size->(w.alloc (.deferred (some []))).heap[b]?=w.heap[b]?:=fun b hb=>by
    show (w.heap.push _)[b]?=_
    rw[Array.getElem?_push,if_neg (by omega)]
   have at2:∀b,b<w.heap.size+1->W1.heap[b]?=(w.alloc (.deferred (some []))).heap[b]?:=fun b hb=>by
    rw[hW1]
    show ((w.alloc _).heap.push _)[b]?=_
    rw[Array.getElem?_push,if_neg (by omega)]
   have d2:Frn W1 σ s.M w.heap.size (.deferred (some [])):=d1.side (at2 _ (by omega))
   have r2:Frn W1 σ s.M (w.heap.size+1) (.loop R):=by
    have:=Frn.new (o:=.loop R) ok1
    rw[hz1]at this
    rw[hW1];exact this
   have x2:Ext w σ s.M W1 σ s.M:=s2.ext (s1.ext (.refl _ _ _) fun b hb _=>at1 b hb) fun b hb _=>at2 b (by omega)
   obtain⟨ok3,x3⟩:=(s2.ok ok1).upd (hs.free s.nx (Nat.le_refl _)) (w.heap.size+1,0)
   have hσ1:∀k,s.nx+1<=k->(σ.upd s.nx (w.heap.size+1,0)) k=none:=fun k hk=>by
    rw[Sig.upd_other _ _ (by omega)];exact hs.free k (by omega)
   have x13:=x2.trans x3
   have r3:=r2.ext x3
   have d3:=d2.ext x3
   have hargs:VRs ρ (σ.upd s.nx (w.heap.size+1,0)) (.yd s.nx::caps) (.func (.yield (w.heap.size+1)) #[] #[]::us.toList):=by
    simp only[VRs,VR]
    exact⟨_,_,rfl,⟨_,_,Sig.upd_same ..,rfl⟩,hcaps.mono x13.sig⟩
   have henv3:EnvR ρ (σ.upd s.nx (w.heap.size+1,0)) s.env a.tmps:=fun t v hv=>⟨(hs.envr t v hv).1,(hs.envr t v hv).2.mono x13.sig⟩
   have hhd:=roundW_ok (nx0:=s.nx+1) hp (asg:=asg) (body:=body) (fn:=fc) (ps:=ps) (D:=w.heap.size) henv3 hs.size (by rw[<-hR];exact r3)
   rw[<-hR]at hhd
   obtain⟨⟨fn,c,hfn,hbody,hname⟩,hcalls⟩:=hI W1 _ _ ok3 hσ1 hargs ⟨w.heap.size+1,R,0,Sig.upd_same ..,r3,hhd⟩
   refine⟨w.heap.size+1,[markOf w.heap.size],W1,{ target:=.fn (.func g) us,args:=#[.func (.yield (w.heap.size+1)) #[] #[]] },W1,g,#[.func (.yield (w.heap.size+1)) #[] #[]]++us,W1,?_,?_,fun f' _=>FW_fn none f',?_,fun q=>(by rw[FW_depth]at q;cases q),?_⟩
   ·rw[hW1,hR,FW_round];exact run_enterLoop_outer _ _ _ _ _
   ·simp[resolve,hus,Deferred.ofValue]
    rfl
   ·simp only[invoke,callFunc,Sem.run_bind,run_program,Result.andThen_ok,hfn,hname,hbody,Option.isNone_some,Bool.false_eq_true,if_false,Sem.run_pure]
   ·have ez:(#[.func (.yield (w.heap.size+1)) #[] #[]]++us:Array Value)=(.func (.yield (w.heap.size+1)) #[] #[]::us.toList).toArray:=by
     apply Array.ext';simp
    rw[ez]
    refine hcalls.mono fun e w3 hq=>?_
    obtain⟨⟨v,rfl⟩,r1',r2',hr,σ',g1,g2,g3,g4⟩:=hq
    have r4:=r3.ext g2
    have s4:=Side.putObj r4 rfl (.loop { R with state:=.exhausted })
    have x4:=x13.trans g2
    refine⟨none,w3.putObj (w.heap.size+1) (.loop { R with state:=.exhausted }),?_,?_⟩
    ·have hpd:R.pending=none:=by rw[hR]
     have hsr:R.state = .ready:=by rw[hR]
     have:=run_endLoop (P:=P) r4.here (by rw[hsr];simp)
     rw[this,hpd]
    ·refine hQ .normal ⟨s.env,r1',r2'⟩ _ _ σ' (hKR _ _ hr) ⟨markOf w.heap.size::ds,⟨fun t v hv=>⟨(hs.envr t v hv).1,(hs.envr t v hv).2.mono x4.sig⟩,hs.size,s4.ok g1,fun k hk=>?_,?_,by have:=hs.le;simp only;omega,fun k=>?_,?_⟩,?_⟩
     ·simp only at hk
      rcases g4 k with e | e
      ·rw[e];exact hσ1 k (by omega)
      ·omega
     ·have hz:=hs.ext.size
      exact s4.ext (hs.ext.trans x4) fun c hc _=>World.putObj_heap_other (by omega)
     ·rcases g4 k with e | e
      ·by_cases hk:k=s.nx
       ·right;rw[hk];exact hs.le
       ·rw[e,Sig.upd_other _ _ hk];exact hs.old k
      ·right;have:=hs.le;omega
     ·show [markOf w.heap.size]++a.defers=_
      rw[hs.def0];rfl
     ·obtain⟨Ds,e1,e2,e3⟩:=hk
      have hlt:∀D ∈ Ds,D<w.heap.size:=fun D hD=>(e3 D hD).2.lt
      refine⟨w.heap.size::Ds,by rw[e1];rfl,List.nodup_cons.2 ⟨fun hm=>absurd (hlt _ hm) (by omega),e2⟩,fun D hD=>?_⟩
      have hne:D≠w.heap.size+1:=by
       rcases List.mem_cons.1 hD with rfl | hD
       ·omega
       ·have:=hlt D hD;omega
      have hzw:=hs.ext.size
      rcases List.mem_cons.1 hD with rfl | hD
      ·exact⟨by omega,(d3.ext g2).side (World.putObj_heap_other hne)⟩
      ·exact⟨(e3 D hD).1,((e3 D hD).2.ext x4).side (World.putObj_heap_other hne)⟩
 | _=>intro Y B w0 σ0 M0 nx0 hY hB K s a w σ h;exact h.elim
theorem FOk.bodyR (hp:P.follows .mixedOrders=true) (hdet:ρ.det=false) {g:Nat} {fn:Func} {c:Code} {args:List XV} {R:Out->Prop} (hf:P.funcs[g]?=some fn) (hn:(fn.name == "runtime.NumGoroutine")=false) (hb:fn.body=some c)
 (h:wxR P ρ (args.length+(fn.ntmps - args.length)) none c (endK P fn.results.toList R) ⟨argsE args 0 .nil,M,nx⟩):FOk P ρ g args M nx R:=by
 refine⟨?_,fun hd=>by rw[hdet]at hd;cases hd⟩
 intro w σ vs hok hfree hargs o a K Q hK
 have hrun:(callFunc g vs.toArray).run P w = .ok (.enter g vs.toArray) w:=by
  simp only[callFunc,Sem.run_bind,run_program,Result.andThen_ok,hf,hn,hb,Option.isNone_some,Bool.false_eq_true,if_false,Sem.run_pure]
 rw[hrun]
 show Calls P g vs.toArray w _
 refine(callsIn_wide (n:=0)).1 ?_
 refine callsIn_of_wp_marks (F:=FW none) hf hb (FW_fn none _) ?_
 refine wxR_ok hp c none w.heap.size w σ M nx trivial (Nat.le_refl _) _ _ _ w σ h (args_st hok hfree hargs) _ fun e s' a' w' σ' hK' hst'=>?_
 have fin:(∃vs,resXs P s' fn.results.toList=some vs/\R (oneOr vs,s'.M,s'.nx))->LeavesInM (FW none) 0 P fn a'.tmps (fun
  | .returned v,w''=>K (a.put o.dst v) w''
  | .panicked chain,w''=>Q (.panic chain) a w''
  | .outgrown,_=>LetsOut Q) a'.defers .returning w':=by
  rintro⟨vs',hvs,hR⟩
  exact end_ok hst' hfree hvs fun v w'' σ'' q1 q2 q3 q4 q5=>hK v w'' ⟨_,hR,σ'',q1,q2,q3,q4,q5⟩
 cases e with
 | normal=>exact fin hK'
 | ret=>exact fin hK'
 | exit id=>exact hK'.elim
theorem IOk.body (hp:P.follows .mixedOrders=true) {g:Nat} {fn:Func} {c:Code} {args:List XV} {Y:Nat×YW} {R:Hp->Nat->Prop} (hf:P.funcs[g]?=some fn) (hn:(fn.name == "runtime.NumGoroutine")=false) (hb:fn.body=some c) (hr:fn.results.toList=[])
 (h:wxR P ρ (args.length+(fn.ntmps - args.length)) (some Y) c (fun e s=>(∀id,e ≠ .exit id)/\R s.M s.nx) ⟨argsE args 0 .nil,M,nx⟩):IOk P ρ g args Y M nx R:=by
 intro w σ vs hok hfree hargs hY
 refine⟨⟨fn,c,hf,hb,hn⟩,?_⟩
 refine callsIn_of_wp_marks (F:=FW none) hf hb (FW_fn none _) ?_
 refine wxR_ok hp c (some Y) w.heap.size w σ M nx hY (Nat.le_refl _) _ _ _ w σ h (args_st hok hfree hargs) _ fun e s' a' w' σ' ⟨h1,h2⟩ hst'=>?_
 have fin:LeavesInM (FW none) 0 P fn a'.tmps (fun e w'=>(∃v,e = .returned v)/\∃M' nx',R M' nx'/\∃σ',Ok ρ w' σ' M'/\Ext w σ M w' σ' M'/\nx<=nx'/\∀k,σ' k=σ k\/(nx<=k/\k<nx')) a'.defers .returning w' :=
  end_ok (vs:=[]) hst' hfree (by rw[hr];rfl) fun v w'' σ'' _ q2 q3 q4 q5=>⟨⟨v,rfl⟩,_,_,h2,σ'',q2,q3,q4,q5⟩
 cases e with
 | normal=>exact fin
 | ret=>exact fin
 | exit id=>exact(h1 id rfl).elim
end
end
end Go.Xs
namespace Go.Xs
noncomputable section
variable {P:Program} {ρ:Rho} {n:Nat} {env:Env} {M:Hp} {nx:Nat} {all os:List Oper} {F:XS->Prop} {d:Option Nat}
def NX (P:Program) (ρ:Rho) (n:Nat) (all os:List Oper) (env:Env) (M:Hp) (nx:Nat) (d:Option Nat) (F:XS->Prop) (x:XV):Prop :=
 ρ.det=false/\∃L,nextX M x=some L/\∀e ∈ L,aN P ρ n all os env d F (e.val,happ M e.upd,nx+1)
theorem RN_next {ty:TypeId} {pos:String} {after:Array Edge} (it:Operand) :
 RN P ρ n all (⟨d,.next it false,ty,pos,after,none⟩::os) ⟨env,M,nx⟩ F=NX P ρ n all os env M nx d F (opv env it):=by
 refine propext ?_
 unfold RN
 simp only[guardX]
 constructor
 ·rintro(⟨e,he,_⟩ | ⟨c',g,args,R,hop,_⟩ | ⟨c',g,args,e,hi,hop,_⟩ | ⟨it',L,h0,hop,hL,hK⟩)
  ·simp[xop]at he
  ·cases hop
  ·cases hop
  ·cases hop;exact⟨h0,L,hL,hK⟩
 ·rintro⟨h0,L,hL,hK⟩
  exact .inr (.inr (.inr ⟨it,L,h0,rfl,hL,hK⟩))
theorem x_range {Γ:Facts} {key:Nat} (t:Nat) (x:Operand):xop P Γ env M key (.range t x)=rangeX P M key t (opv env x):=rfl
theorem x_entry {Γ:Facts} {key:Nat} (x:Operand):xop P Γ env M key (.entry x)=entryX M (opv env x):=rfl
def rgC (key m:Nat):NT->Option XObj->Option Eff
 | .mp,some (.map _ clock)=>some ⟨.mp key 0,[m],[(key,some (.iter (some m) clock [] clock))]⟩
 | _,_=>none
theorem range_eq {key t m:Nat}:rangeX P M key t (.mm m)=rgC key m (nt P t) (tget M m):=by
 unfold rangeX rgC nt
 cases hu:P.underlying t with
 | none=>rfl
 | some d =>
   cases d<;>first | rfl | skip
   simp only
   cases tget M m with
   | none=>rfl
   | some o=>cases o<;>rfl
theorem rgC_map {key m clock:Nat} {es:List (Nat×XV×XV)}:rgC key m .mp (some (.map es clock))=some ⟨.mp key 0,[m],[(key,some (.iter (some m) clock [] clock))]⟩:=rfl
variable {β:Type} {vf:β->XV} {l:List (Nat×Int×β)}
theorem leftX_entU (seen:List Nat):∀(l:List (Nat×Int×β)),leftX seen (entU vf l)=entU vf (l.filter fun e=>decide (e.1 ∉ seen))
 | []=>rfl
 | e::l=>by
   have ih:=leftX_entU seen l
   simp only[entU,List.map_cons,leftX]at ih ⊢
   by_cases h:e.1 ∈ seen
   ·rw[(lmem_iff seen e.1).2 h]
    simp only[h,not_true_eq_false,decide_false,List.filter_cons_of_neg,Bool.false_eq_true,not_false_eq_true]
    exact ih
   ·have:lmem seen e.1=false:=by
     cases hb:lmem seen e.1 with
     | false=>rfl
     | true=>exact(h ((lmem_iff seen e.1).1 hb)).elim
    rw[this]
    simp only[h,not_false_eq_true,decide_true,List.filter_cons_of_pos,List.map_cons]
    rw[ih]
theorem NX_map (hdet:ρ.det=false) {k m since st clock:Nat} {seen:List Nat} (hk:tget M k=some (.iter (some m) since seen st)) (hm:tget M m=some (.map (entU vf l) clock))
 (hl:∀e ∈ l,e.1<since) (h1:since<=st) (h2:since<=clock)
 (hend:(∀e ∈ l,e.1 ∈ seen)->aN P ρ n all os env d F (.tup [.bool false],M,nx+1))
 (hgo:∀e ∈ l,e.1 ∉ seen->aN P ρ n all os env d F (.tup [.bool true,.int .u64 e.2.1,vf e.2.2],tset M k (.iter (some m) since (seen++[e.1]) clock),nx+1)):NX P ρ n all os env M nx d F (.mp k 0):=by
 have ha:(entU vf l).all (fun e=>Nat.blt e.1 since)=true:=by
  simp only[entU,List.all_map,List.all_eq_true]
  intro e he
  rw[Function.comp_apply,Nat.blt_eq];exact hl e he
 have hb:Nat.ble since st=true:=by rw[Nat.ble_eq];exact h1
 have hc:Nat.ble since clock=true:=by rw[Nat.ble_eq];exact h2
 refine⟨hdet,?_⟩
 unfold nextX
 simp only[hk,hm,ha,hb,hc,leftX_entU]
 cases hf:l.filter (fun e=>decide (e.1 ∉ seen)) with
 | nil =>
   refine⟨_,rfl,fun e he=>?_⟩
   rw[List.mem_singleton]at he
   subst he
   refine hend fun e he=>?_
   rw[List.filter_eq_nil_iff]at hf
   have:=hf e he
   simpa using this
 | cons a r =>
   refine⟨_,rfl,fun e he=>?_⟩
   simp only[entU,List.map_cons,List.mem_cons,List.mem_map]at he
   have key:∀x ∈ a::r,aN P ρ n all os env d F (.tup [.bool true,.int .u64 x.2.1,vf x.2.2],tset M k (.iter (some m) since (seen++[x.1]) clock),nx+1):=fun x hx=>by
    rw[<-hf,List.mem_filter]at hx
    exact hgo x hx.1 (by simpa using hx.2)
   rcases he with rfl | ⟨y,⟨x,hx,rfl⟩,rfl⟩
   ·exact key a List.mem_cons_self
   ·exact key x (List.mem_cons_of_mem _ hx)
theorem backL_snoc:∀(l:List Nat) (b:Nat),backL (l++[b])=some b
 | [],b=>rfl
 | [a],b=>rfl
 | a::c::l,b=>by
   have:=backL_snoc (c::l) b
   simp only[List.cons_append]at this ⊢
   exact this
theorem findB_entU:∀{l:List (Nat×Int×β)},(l.map (·.1)).Nodup->∀e ∈ l,findB e.1 (entU vf l)=some (.int .u64 e.2.1,vf e.2.2)
 | [],_,e,he=>by cases he
 | a::l,hn,e,he=>by
   simp only[entU,List.map_cons,findB]
   rw[List.map_cons,List.nodup_cons]at hn
   rcases List.mem_cons.1 he with rfl | he
   ·rw[Nat.beq_refl]
   ·have:Nat.beq a.1 e.1=false:=by
     cases hb:Nat.beq a.1 e.1 with
     | false=>rfl
     | true=>exact(hn.1 (by rw[Nat.eq_of_beq_eq_true hb];exact List.mem_map.2 ⟨e,he,rfl⟩)).elim
    rw[this]
    exact findB_entU hn.2 e he
theorem entry_map {k m since clock:Nat} {seen:List Nat} {e:Nat×Int×β} (hk:tget M k=some (.iter (some m) since (seen++[e.1]) clock)) (hm:tget M m=some (.map (entU vf l) clock)) (hn:(l.map (·.1)).Nodup) (he:e ∈ l) :
 entryX M (.mp k 0)=some ⟨.tup [.int .u64 e.2.1,vf e.2.2],[k,m],[]⟩:=by
 unfold entryX
 simp only[hk,hm,backL_snoc,Nat.beq_refl,findB_entU hn e he]
theorem FOk.walkR (hp:P.follows .mixedOrders=true) (hdet:ρ.det=false) {g:Nat} {fn:Func} {c:Code} {m:Nat} {rs:List ResultVar} {args:List XV} {R:Out->Prop} (hf:P.funcs[g]?=some fn) (hn:(fn.name == "runtime.NumGoroutine")=false) (hb:fn.body=some c) (hm:args.length+(fn.ntmps - args.length)=m) (hr:fn.results.toList=rs)
 (h:wxR P ρ m none c (endK P rs R) ⟨argsE args 0 .nil,M,nx⟩):FOk P ρ g args M nx R:=by
 subst hm hr
 exact FOk.bodyR hp hdet hf hn hb h
theorem IOk.walk (hp:P.follows .mixedOrders=true) {g:Nat} {fn:Func} {c:Code} {m:Nat} {args:List XV} {Y:Nat×YW} {R:Hp->Nat->Prop} (hf:P.funcs[g]?=some fn) (hn:(fn.name == "runtime.NumGoroutine")=false) (hb:fn.body=some c) (hr:fn.results.toList=[]) (hm:args.length+(fn.ntmps - args.length)=m)
 (h:wxR P ρ m (some Y) c (fun e s=>(∀id,e ≠ .exit id)/\R s.M s.nx) ⟨argsE args 0 .nil,M,nx⟩):IOk P ρ g args Y M nx R:=by
 subst hm
 exact IOk.body hp hf hn hb hr h
theorem seqK_n (f:XS->Prop) (K:AExit->XS->Prop) (s:XS):seqK f K .normal s=f s:=rfl
theorem seqK_x (f:XS->Prop) (K:AExit->XS->Prop) (i:Nat) (s:XS):seqK f K (.exit i) s=K (.exit i) s:=rfl
theorem loopK_n (I:Nat->XS->Prop) (k:Nat) (K:AExit->XS->Prop) (s:XS):loopK I k K .normal s = ∃j,j<k/\I j s:=rfl
theorem loopK_x (I:Nat->XS->Prop) (k:Nat) (K:AExit->XS->Prop) (i:Nat) (s:XS):loopK I k K (.exit i) s=K (.exit i) s:=rfl
theorem inB_n (i:Nat):inB i .normal = .normal:=rfl
theorem inB_x (i:Nat):inB i (.exit i) = .normal:=by simp[inB]
theorem RNY_yield {k:Nat} {H:YW} {c:Call} {args:List XV} {ty:TypeId} {pos:String} {after:Array Edge} {Q:XS->Prop} (hy:yldX env c=some (k,args))
 (h:H args M nx fun M' nx'=>∃env',putX n env d (.bool true)=some env'/\RNY P ρ n (some (k,H)) all os ⟨env',M',nx'⟩ Q):RNY P ρ n (some (k,H)) all (⟨d,.call c,ty,pos,after,none⟩::os) ⟨env,M,nx⟩ Q:=by
 unfold RNY
 simp only[guardX]
 exact .inr ⟨c,k,H,args,rfl,rfl,hy,h⟩
theorem wxR_yl {Y:Option (Nat×YW)} {l:List Oper} {id:Nat} {K:AExit->XS->Prop} {s:XS} (h:RNY P ρ n Y l l s (K .normal)):wxR P ρ n Y (.region id l.toArray false) K s:=h
theorem roundW_mk {m:Nat} {asg body:Code} {ps:List Nat} {e0 env':Env} {args:List XV} {Q:Hp->Nat->Prop} (hp:putPs m ps args e0=some env')
 (h:W P ρ m asg [] (fun e s=>e = .normal/\W P ρ m body [] (fun e s'=>e = .normal/\Q s'.M s'.nx) s) ⟨env',M,nx⟩):roundW P ρ m asg body ps e0 args M nx Q:=⟨env',hp,h⟩
theorem wxR_sq {Y:Option (Nat×YW)} {x y:Code} {K:AExit->XS->Prop} {s:XS} (h:W P ρ n x [] (seqK (wxR P ρ n Y y K) K) s):wxR P ρ n Y (.seq x y) K s:=wxR_of x _ s h
theorem wxR_sq' {Y:Option (Nat×YW)} {x y:Code} {K:AExit->XS->Prop} {s:XS} (h:wxR P ρ n Y x (seqK (wxR P ρ n Y y K) K) s):wxR P ρ n Y (.seq x y) K s:=h
theorem wxR_W {Y:Option (Nat×YW)} {x:Code} {K:AExit->XS->Prop} {s:XS} (h:W P ρ n x [] K s):wxR P ρ n Y x K s:=wxR_of x _ s h
theorem wxR_bk {Y:Option (Nat×YW)} {x:Code} {id:Nat} {K:AExit->XS->Prop} {s:XS} (h:wxR P ρ n Y x (fun e s'=>K (inB id e) s') s):wxR P ρ n Y (.block id x) K s:=h
theorem wxR_loop {Y:Option (Nat×YW)} {c:Code} {K:AExit->XS->Prop} {s:XS} (I:Nat->XS->Prop) (k:Nat) (h0:I k s) (h:∀k s',I k s'->wxR P ρ n Y c (loopK I k K) s'):wxR P ρ n Y (.loop c) K s:=⟨I,⟨k,h0⟩,h⟩
end
end Go.Xs
namespace Go.Xs
noncomputable section
open Classical
theorem flatMap_len {α:Type} {f:α->List XV} {sz:Nat} (hf:∀a,(f a).length=sz):∀(l:List α),(l.flatMap f).length=l.length*sz
 | []=>by simp
 | a::l=>by rw[List.flatMap_cons,List.length_append,hf,flatMap_len hf l,List.length_cons];rw[Nat.add_mul];omega
theorem putAt_app:∀(xs ys:List XV) (k:Nat) (vs:List XV),putAt (xs++ys) (xs.length+k) vs=xs++putAt ys k vs
 | [],ys,k,vs=>by simp
 | c::xs,ys,k,vs=>by
   rw[List.cons_append,List.length_cons,show xs.length+1+k=(xs.length+k)+1 by omega,List.cons_append]
   simp only[putAt]
   rw[putAt_app xs ys k vs]
theorem flatMap_modify {α:Type} {f:α->List XV} {g:α->α} {sz o:Nat} {vs:List XV} (hf:∀a,(f a).length=sz) (ho:o+vs.length<=sz):∀(l:List α) (i:Nat),i<l.length->(∀a,l[i]?=some a->f (g a)=putAt (f a) o vs)->(l.modify i g).flatMap f=putAt (l.flatMap f) (i*sz+o) vs
 | [],i,h,_=>by simp at h
 | a::l,0,_,hg=>by
   have h1:=hg a rfl
   have:=hf a
   rw[List.modify_zero_cons,List.flatMap_cons,List.flatMap_cons,h1,Nat.zero_mul,Nat.zero_add]
   rw[putAt_eq _ _ _ (by omega),putAt_eq _ _ _ (by rw[List.length_append];omega),List.take_append_of_le_length (by omega),List.drop_append_of_le_length (by omega)]
   simp
 | a::l,i+1,h,hg=>by
   have h0:=hf a
   have hl:i<l.length:=by simpa using h
   have ih:=flatMap_modify (g:=g) (vs:=vs) hf ho l i hl (fun b hb=>hg b (by simpa using hb))
   rw[List.modify_succ_cons,List.flatMap_cons,List.flatMap_cons,ih,show (i+1)*sz+o=(f a).length+(i*sz+o) by rw[h0,Nat.add_mul];omega,putAt_app]
def HS.wr (S:HS) (n:Nat) (cr:List XV):HS:={ S with nrec:=n,crec:=cr }
def markM (P:Nat->Prop) (l:List ModS):List ModS:=l.mapIdx fun j m=>{ m with fin:=m.fin||decide (P j) }
def markT (len:Int) (i:Nat) (l:List TxS):List TxS:=l.mapIdx fun k a=>if k<i/\a.s=3 then { a with e:=len } else a
def HS.done (S:HS) (len:Int) (i:Nat) (P:Nat->Prop):HS:={ S with txs:=markT len i S.txs,mods:=markM P S.mods }
theorem markM_len (P:Nat->Prop) (l:List ModS):(markM P l).length=l.length:=by simp[markM]
theorem markT_len (len:Int) (i:Nat) (l:List TxS):(markT len i l).length=l.length:=by simp[markT]
theorem markM_get (P:Nat->Prop) (l:List ModS) (j:Nat):(markM P l)[j]?=(l[j]?).map fun m=>{ m with fin:=m.fin||decide (P j) }:=by simp[markM]
theorem markT_get (len:Int) (i:Nat) (l:List TxS) (k:Nat):(markT len i l)[k]?=(l[k]?).map fun a=>if k<i/\a.s=3 then { a with e:=len } else a:=by simp[markT]
theorem markM_none (l:List ModS):markM (fun _=>False) l=l:=by
 refine List.ext_getElem? fun j=>?_
 rw[markM_get]
 cases l[j]? <;> simp
theorem markM_congr {P Q:Nat->Prop} (h:∀j,P j ↔ Q j) (l:List ModS):markM P l=markM Q l:=by
 have:P=Q:=funext fun j=>propext (h j)
 rw[this]
theorem markT_zero (len:Int) (l:List TxS):markT len 0 l=l:=by
 refine List.ext_getElem? fun j=>?_
 rw[markT_get]
 cases l[j]? <;> simp
theorem markM_one (P:Nat->Prop) (l:List ModS) (j0:Nat):markM (fun j=>P j\/j=j0) l=(markM P l).modify j0 fun m=>{ m with fin:=true }:=by
 refine List.ext_getElem? fun j=>?_
 rw[markM_get,List.getElem?_modify,markM_get]
 by_cases h:j=j0
 ·subst h
  cases l[j]? <;> simp
 ·have h':¬ j0=j:=fun e=>h e.symm
  cases l[j]? <;> simp[h,h']
theorem markT_succ (len:Int) (i:Nat) (l:List TxS):markT len (i+1) l=(markT len i l).modify i fun a=>if a.s=3 then { a with e:=len } else a:=by
 refine List.ext_getElem? fun k=>?_
 rw[markT_get,List.getElem?_modify,markT_get]
 by_cases h:k=i
 ·subst h
  cases l[k]? with
  | none=>rfl
  | some a=>simp
 ·have h':¬ i=k:=fun e=>h e.symm
  cases l[k]? with
  | none=>rfl
  | some a =>
    have:(k<i+1) ↔ k<i:=by omega
    simp[this,h']
theorem enc_fin (P:Nat->Prop) (l:List ModS) {j0:Nat} (h:j0<l.length):(markM (fun j=>P j\/j=j0) l).flatMap encMod=putAt ((markM P l).flatMap encMod) (j0*8+7) [.bool true]:=by
 rw[markM_one]
 exact flatMap_modify (f:=encMod) (g:=fun m=>{ m with fin:=true }) (sz:=8) (o:=7) (vs:=[.bool true]) (fun a=>rfl) (by decide) (markM P l) j0 (by rw[markM_len];exact h) fun a _=>rfl
section
variable {M M' N:Hp} {lo hi hi' h:Nat} {S:HS} {tag tag':Nat->Hg} {vrec vtxs vcom vmods vlook:XV} {nk vk ok cn cv co:Nat} {ptrs:List XV} {lnum:List (Nat×Int×Int)} {lver:List (Nat×List Int×Int)} {lobj:List (Nat×Int×Int)}
theorem Hist.setMods {ms:List ModS} (H:Hist M lo hi h S tag vrec vtxs vcom vmods vlook nk vk ok cn cv co ptrs lnum lver lobj)
 (keep:∀q,q<hi->tag q ≠ .mods->tget M' q=tget M q) (mods:OwnSl M' lo hi tag .mods vmods 8 ms.length (ms.flatMap encMod)) :
 Hist M' lo hi h { S with mods:=ms } tag vrec vtxs vcom vmods vlook nk vk ok cn cv co ptrs lnum lver lobj:=by
 have kk:∀tg:Hg,tg ≠ .mods->∀k,k<hi->tag k=tg->tget M' k=tget M k/\tag k=tg:=fun tg hc k hk hg=>⟨keep k hk (by rw[hg];exact hc),hg⟩
 exact {
  lo_h:=H.lo_h,h_hi:=H.h_hi,tg:=H.tg,row:=by rw[(kk _ (by simp) h H.h_hi H.tg).1];exact H.row
  recs:=H.recs.keep (kk _ (by simp)) (Nat.le_refl _),txs:=H.txs.keep (kk _ (by simp)) (Nat.le_refl _)
  known:=fun i b hb=>by
   obtain⟨v,h1,h2⟩:=H.known i b hb
   exact⟨v,h1,h2.keep (fun k hk hg=>⟨keep k hk (by rcases hg with q | q | ⟨x,q⟩<;>rw[q]<;>simp),rfl⟩) (Nat.le_refl _)⟩
  nlo:=H.nlo,nhi:=H.nhi,ntg:=H.ntg,num:=by rw[(kk _ (by simp) nk H.nhi H.ntg).1];exact H.num,numS:=H.numS
  com:=H.com.keep (kk _ (by simp)) (Nat.le_refl _),mods:=mods
  vlo:=H.vlo,vhi:=H.vhi,vtg:=H.vtg,ver:=by rw[(kk _ (by simp) vk H.vhi H.vtg).1];exact H.ver,vrow:=H.vrow,verS:=H.verS
  looks:=H.looks.keep (kk _ (by simp)) (Nat.le_refl _)
  olo:=H.olo,ohi:=H.ohi,otg:=H.otg,obj:=by rw[(kk _ (by simp) ok H.ohi H.otg).1];exact H.obj,objS:=H.objS }
theorem Hist.setTx {ts:List TxS} {i rk mk:Nat} {a a':TxS} (H:Hist M lo hi h S tag vrec vtxs vcom vmods vlook nk vk ok cn cv co ptrs lnum lver lobj) (hi':ts.length=S.txs.length) (hts:∀j,j≠i->ts[j]?=S.txs[j]?) (hti:ts[i]?=some a')
 (hrk:tag rk = .known i) (hv:ptrs[i]?=some (.mp rk 0)) (hai:S.txs[i]?=some a) (hm:tget M rk=some (.row (encTx a++[.mm mk])))
 (keep:∀q,q<hi->q≠rk->tget M' q=tget M q) (hrow:tget M' rk=some (.row (encTx a'++[.mm mk]))) :
 Hist M' lo hi h { S with txs:=ts } tag vrec vtxs vcom vmods vlook nk vk ok cn cv co ptrs lnum lver lobj:=by
 have kk:∀tg:Hg,tg ≠ .known i->∀k,k<hi->tag k=tg->tget M' k=tget M k/\tag k=tg:=fun tg hc k hk hg=>⟨keep k hk (fun e=>hc (by rw[<-hg,e];exact hrk)),hg⟩
 exact {
  lo_h:=H.lo_h,h_hi:=H.h_hi,tg:=H.tg,row:=by rw[(kk _ (by simp) h H.h_hi H.tg).1];exact H.row
  recs:=H.recs.keep (kk _ (by simp)) (Nat.le_refl _),txs:=by rw[show ({ S with txs:=ts }:HS).txs.length=S.txs.length from hi'];exact H.txs.keep (kk _ (by simp)) (Nat.le_refl _)
  known:=fun j b hb=>by
   by_cases hj:j=i
   ·subst hj
    have hb':a'=b:=by
     have:ts[j]?=some b:=hb
     rw[hti]at this
     cases this;rfl
    subst hb'
    obtain⟨v,h1,rk2,mk2,c,lm,e1,e2,e3,e4,e5,e6,e7,e8,e9,e10,e11⟩:=H.known j a hai
    rw[hv]at h1
    cases h1
    cases e1
    rw[hm]at e5
    have emk:mk=mk2:=by
     simp only[Option.some.injEq,XObj.row.injEq,List.append_cancel_left_eq,List.cons.injEq,XV.mm.injEq,and_true]at e5
     exact e5
    subst emk
    exact⟨_,hv,rk,mk,c,lm,rfl,e2,e3,e4,hrow,e6,e7,e8,by rw[(kk _ (by simp) mk e7 e8).1];exact e9,e10,fun x v hx=>⟨(e11 x v hx).1,(e11 x v hx).2.keep (kk _ (by simp)) (Nat.le_refl _)⟩⟩
   ·obtain⟨v,h1,h2⟩:=H.known j b (by have:ts[j]?=some b:=hb;rw[hts j hj]at this;exact this)
    exact⟨v,h1,h2.keep (fun k hk hg=>⟨keep k hk (fun e=>by subst e;rw[hrk]at hg;rcases hg with q | q | ⟨x,q⟩<;>simp at q;exact hj q.symm),rfl⟩) (Nat.le_refl _)⟩
  nlo:=H.nlo,nhi:=H.nhi,ntg:=H.ntg,num:=by rw[(kk _ (by simp) nk H.nhi H.ntg).1];exact H.num,numS:=H.numS
  com:=H.com.keep (kk _ (by simp)) (Nat.le_refl _),mods:=H.mods.keep (kk _ (by simp)) (Nat.le_refl _)
  vlo:=H.vlo,vhi:=H.vhi,vtg:=H.vtg,ver:=by rw[(kk _ (by simp) vk H.vhi H.vtg).1];exact H.ver,vrow:=H.vrow,verS:=H.verS
  looks:=H.looks.keep (kk _ (by simp)) (Nat.le_refl _)
  olo:=H.olo,ohi:=H.ohi,otg:=H.otg,obj:=by rw[(kk _ (by simp) ok H.ohi H.otg).1];exact H.obj,objS:=H.objS }
end
theorem part_set {M N:Hp} {nx:Nat} (mu:Mu N M) (lt:∀k o,tget N k=some o->k<nx) {k:Nat} (hk:k<nx) (hN:tget N k≠none) {x:XObj} (hx:muts x=true) {M':Hp} (h1:tget M' k=some x) (h2:∀j,j<nx->j≠k->tget M' j=tget M j) :
 Mu (tset N k x) M'/\(∀j o,tget (tset N k x) j=some o->j<nx)/\Aside nx N M (tset N k x) M':=by
 refine⟨fun j o ho=>?_,fun j o ho=>?_,fun j z j1 j2 j3=>?_⟩
 ·rw[tget_tset]at ho
  split at ho
  ·rename_i e;subst e;cases ho;exact⟨h1,hx⟩
  ·rename_i e
   obtain⟨q1,q2⟩:=mu j o ho
   exact⟨by rw[h2 j (lt j o ho) (fun q=>e q.symm)];exact q1,q2⟩
 ·rw[tget_tset]at ho
  split at ho
  ·rename_i e;subst e;exact hk
  ·exact lt j o ho
 ·have:k≠j:=fun e=>hN (by rw[e];exact j2)
  exact⟨by rw[h2 j j1 (fun q=>this q.symm)];exact j3,by rw[tget_tset,if_neg this];exact j2⟩
end
end Go.Xs
namespace Go.Xs
open Go.Proofs
set_option maxRecDepth 100000
set_option maxHeartbeats 4000000
theorem f211 (ρ:Rho) {M:Hp} {nx lo hi m k:Nat} {tag:Nat->Tg} {v0 v1 c2 c3 c4:XV} {ps:List (Int×Int)} (hlo:lo<=m) (hmh:m<hi) (ht:tag m = .mach) (hM:tget M m=some (.row [v0,v1,c2,c3,c4])) (h0:NumAt M lo hi tag v0 ps) (h1:OwnSl M lo hi tag .names v1 2 ps.length (ps.flatMap encPr)) (hh:hi<=nx)
 (few:ps.length<=1000) (a c:Int) (hk:tget M k=some (.row [.int .u64 a,.int .u64 c])) (hkn:k<nx) (hkm:hi<=k) :
 FOk Tryz.prog ρ 211 [.mp m 0,.sl k 2 0 1 1] M nx (AddPost M nx lo m tag ps (a,c) c2 c3 c4):=by
 refine FOk.walk (m:=12) (rs:=[.tmp 4]) follows Tryz.func211 (by kernel_rfl) rfl rfl rfl ?_
 conv in W _ _ _ _ _ _ _=>arg 4;whnf
 refine xs1 gy13 ?_;try exact⟨⟩
 refine CN_fok (f258 ρ (nx:=nx+7) hlo hmh ht hM h0 h1 (by omega) few a c hk (by omega) hkm) ?_
 rintro⟨u,M2,n2⟩ ⟨i,tag',v0',v1',g1,g2,g3,g4,g5,g6,g7,g8,g9,g10⟩
 simp only at g1 g2 g3 g4 g5 g6 g7 g8 g9 g10
 subst g1
 refine xs1 gy13 ?_;try exact⟨⟩
 exact⟨i,tag',v0',v1',rfl,g2,g3,g4,g5.agr (Agr.refl _ _) (by simp only;omega),g6.agr (Agr.refl _ _) (by simp only;omega),fun k hk=>g7 k (by omega),fun k hk=>g8 k (by omega),g9,by simp only;omega⟩
theorem f137 (ρ:Rho) {M:Hp} {nx lo hi m:Nat} {l:List Rec} {tag:Nat->Tg} {ps:List (Int×Int)} {vnum vnames vrows vend:XV} {rs:List XV} {le:List (Nat×Int×Bool)} (h:Mach M lo hi m l.length l tag ps vnum vnames vrows vend rs le) (hh:hi<=nx) (few:l.length<=1000) {r:Rec} (hr:isMod r=true) :
 FOk Tryz.prog ρ 137 [.mp m 0,.int .u64 r.t,.int .u64 r.x,.agg (encMd (mdOf r))] M nx fun o=>o.1 = .tup []/\(∃tag' ps' vnum' vnames' vrows' rs',Mach o.2.1 lo o.2.2 m l.length (l++[r]) tag' ps' vnum' vnames' vrows' vend rs' le)/\Agr lo M o.2.1/\nx<=o.2.2:=by
 have hmm:=h.m_hi
 replace h:=h.norm
 obtain⟨tg0,htg⟩:∃f,f=fun k=>if k<hi then tag k else Tg.none:=⟨_,rfl⟩
 rw[<-htg]at h
 have htn:∀k,hi<=k->tg0 k = .none:=fun k hk=>by rw[htg];exact if_neg (by omega)
 clear htg
 simp only[encMd]
 refine FOk.walk (m:=49) (rs:=[]) follows Tryz.func137 (by kernel_rfl) rfl rfl rfl ?_
 conv in W _ _ _ _ _ _ _=>arg 4;whnf
 refine xs1 gy35 ?_;try exact⟨⟩
 generalize hM1:tset (tset M _ _) _ _=M1
 have a1:Agr nx M M1:=by rw[<-hM1];exact(by(repeat (refine Agr.set ?_ (by omega) _));exact Agr.refl _ _)
 have m1:tget M1 nx=some (.row [.int .u64 (mdOf r).v,.bool (mdOf r).dead]):=by rw[<-hM1];exact(by(repeat (first | rw[tget_tset,if_pos rfl] | rw[tget_tset,if_neg (by omega)] | rw[tget_tdel,if_neg (by omega)]));try (first | rfl | assumption))
 have m2:tget M1 (nx+7)=some (.row [.int .u64 r.t,.int .u64 r.x]):=by rw[<-hM1];exact(by(repeat (first | rw[tget_tset,if_pos rfl] | rw[tget_tset,if_neg (by omega)] | rw[tget_tdel,if_neg (by omega)]));try (first | rfl | assumption))
 clear hM1
 have hM2:=(a1 m (by omega)).trans h.row
 refine CN_fok (f211 ρ h.lo_m h.m_hi h.tg hM2 (h.num.agr (a1.le hh) (Nat.le_refl _)) (h.names.agr (a1.le hh) (Nat.le_refl _)) (by omega) (by have:=h.few;omega) r.t r.x m2 (by omega) (by omega)) ?_
 rintro⟨u,M2,n2⟩ ⟨i,tag',v0',v1',g1,g2,g3,g4,g5,g6,g7,g8,g9,g10⟩
 simp only at g1 g2 g3 g4 g5 g6 g7 g8 g9 g10
 subst g1
 have k2:∀k,k<nx+8->k≠m->tg0 k ≠ .num->tg0 k ≠ .names->tget M2 k=tget M1 k:=g8
 have t2:∀k,k<nx->tag' k=tg0 k:=fun k hk=>g7 k (by omega)
 have y0:tget M2 nx=some (.row [.int .u64 (mdOf r).v,.bool (mdOf r).dead]):=(g8 nx (by omega) (by omega) (by rw[htn nx hh];simp) (by rw[htn nx hh];simp)).trans m1
 obtain⟨hz,hrl,hrows⟩:=h.rows
 rcases Classical.em ((r.t,r.x) ∈ ps) with hmem | hmem
 ·have hA:addP ps (r.t,r.x)=ps:=if_pos hmem
  rw[hA]at g2 g3 g5 g6
  have hil:i<ps.length:=(List.getElem?_eq_some_iff.1 g2).1
  rcases hrows with ⟨_,e0⟩ | ⟨hl,rk,rfl,r1,r2,r3,r4⟩
  ·omega
  obtain⟨hne,v,hv,wz,wl,⟨_,e0⟩ | ⟨hl2,sk,rfl,s1,s2,s3,s4⟩⟩:=h.all i r.t r.x g2
  ·exact(hne (List.length_eq_zero_iff.1 e0)).elim
  have n1:=tag_ne h.tg r3 (by simp)
  have n2':=tag_ne h.tg s3 (by simp)
  have n3:=tag_ne r3 s3 (by simp)
  have hd:KEq m rk=False/\KEq rk m=False/\KEq m sk=False/\KEq sk m=False/\KEq rk sk=False/\KEq sk rk=False:=by simp only[KEq,eq_iff_iff,iff_false];exact⟨n1,n1.symm,n2',n2'.symm,n3,n3.symm⟩
  have yr:tget M2 rk=some (.row rs):=((g8 rk (by omega) n1.symm (by rw[r3];simp) (by rw[r3];simp)).trans (a1 rk (by omega))).trans r4
  have ys:tget M2 sk=some (.row ((rowOf l r.t r.x).flatMap encMd)):=((g8 sk (by omega) n2'.symm (by rw[s3];simp) (by rw[s3];simp)).trans (a1 sk (by omega))).trans s4
  have hdrop:List.drop i rs = .sl sk 2 0 (rowOf l r.t r.x).length (rowOf l r.t r.x).length::List.drop (i+1) rs:=by
   obtain⟨q1,q2⟩:=List.getElem?_eq_some_iff.1 hv
   rw[<-q2]
   exact List.drop_eq_getElem_cons q1
  have c1:¬ (i:Int)=ps.length:=by omega
  have hfew:(rowOf l r.t r.x).length<=1000:=by
   unfold rowOf
   rw[List.length_map]
   exact Nat.le_trans (List.length_filter_le _ _) few
  refine xs11 gy35 g4 yr ys y0 c1 hdrop hrl wl hd @Int.toNat_natCast ?_;try exact⟨⟩
  refine⟨?_,⟨fun k=>if k=n2+22 then .row i else tag' k,ps,v0',v1',.sl rk 1 0 ps.length ps.length,rs.set i (.sl (n2+22) 2 0 ((rowOf l r.t r.x).length+1) ((rowOf l r.t r.x).length+1)),?_⟩,?_,by omega⟩
  ·(repeat' apply And.intro)<;>(refine okP2_ap _ _ _ _ _ _ ?_ ?_ ?_<;>(intro x hx hy;first | (simp only[List.mem_cons,List.not_mem_nil,or_false]at hx hy;done) | (simp only[List.mem_cons,List.not_mem_nil,or_false]at hx hy;omega)))
  ·rw[putAt_set rs i (by omega)]
   generalize hM3:tset (tset (tdel _ _) _ _) _ _=M3
   have x1:∀k,k<n2->k≠rk->k≠sk->tget M3 k=tget M2 k:=fun k h1 h2 h3=>by rw[<-hM3];exact(by(repeat (first | rw[tget_tset,if_pos rfl] | rw[tget_tset,if_neg (by omega)] | rw[tget_tdel,if_neg (by omega)]));try (first | rfl | assumption))
   have x2:tget M3 rk=some (.row (rs.set i (.sl (n2+22) 2 0 ((rowOf l r.t r.x).length+1) ((rowOf l r.t r.x).length+1)))):=by rw[<-hM3];exact(by(repeat (first | rw[tget_tset,if_pos rfl] | rw[tget_tset,if_neg (by omega)] | rw[tget_tdel,if_neg (by omega)]));try (first | rfl | assumption))
   have x3:tget M3 (n2+22)=some (.row ((rowOf l r.t r.x++[mdOf r]).flatMap encMd)):=by
    rw[List.flatMap_append,<-hM3]
    have:List.take ((rowOf l r.t r.x).length*2) ((rowOf l r.t r.x).flatMap encMd)=(rowOf l r.t r.x).flatMap encMd:=by rw[<-wl,List.take_length]
    rw[this]
    exact(by(repeat (first | rw[tget_tset,if_pos rfl] | rw[tget_tset,if_neg (by omega)] | rw[tget_tdel,if_neg (by omega)]));try (first | rfl | assumption))
   clear hM3
   have kk:∀(k:Nat) (tg:Tg),k<hi->tg0 k=tg->tg ≠ .rows->tg ≠ .row i->tg ≠ .mach->tg ≠ .num->tg ≠ .names->tget M3 k=tget M k:=fun k tg h1 h2 h3 h4 h5 h6 h7=>by
    rw[x1 k (by omega) (fun e=>h3 (by rw[<-h2,e];exact r3)) (fun e=>h4 (by rw[<-h2,e];exact s3)),g8 k (by omega) (fun e=>h5 (by rw[<-h2,e];exact h.tg)) (by rw[h2];exact h6) (by rw[h2];exact h7)]
    exact a1 k (by omega)
   have tt:∀(k:Nat) (tg:Tg),k<n2->tag' k=tg->tg ≠ .rows->tg ≠ .row i->tget M3 k=tget M2 k/\(if k=n2+22 then Tg.row i else tag' k)=tg:=fun k tg h1 h2 h3 h4=>by
    refine⟨x1 k h1 (fun e=>h3 (by rw[<-h2,e,t2 rk (by omega)];exact r3)) (fun e=>h4 (by rw[<-h2,e,t2 sk (by omega)];exact s3)),?_⟩
    rw[if_neg (by omega)]
    exact h2
   have:=h.put (M3:=M3) (n3:=n2+25) (i:=i) (tag3:=fun k=>if k=n2+22 then Tg.row i else tag' k) (v0:=v0') (v1:=v1') (vrows':=.sl rk 1 0 ps.length ps.length) (rs':=rs.set i (.sl (n2+22) 2 0 ((rowOf l r.t r.x).length+1) ((rowOf l r.t r.x).length+1))) hr
    (fun k hk=>by rw[if_neg (by omega)];exact t2 k (by omega)) (by rw[x1 m (by omega) n1 n2'];exact g4)
    (by rw[hA];exact g5.keep (fun k h1 h2=>tt k _ h1 h2 (by simp) (by simp)) (by omega)) (by rw[hA];exact g6.keep (fun k h1 h2=>tt k _ h1 h2 (by simp) (by simp)) (by omega))
    (by rw[hA];exact⟨hz,by rw[List.length_set];exact hrl,.inr ⟨hl,rk,rfl,r1,by omega,by simp only;rw[if_neg (by omega),t2 rk (by omega)];exact r3,x2⟩⟩) (by rw[hA];exact g2)
    ⟨.sl (n2+22) 2 0 ((rowOf l r.t r.x).length+1) ((rowOf l r.t r.x).length+1),by rw[List.getElem?_set_self (by omega)],by simp;omega,by rw[List.flatMap_append,List.length_append,wl];simp[encMd];omega,.inr ⟨by simp,n2+22,by simp,by have:=h.lo_m;omega,by omega,by simp,x3⟩⟩
    (fun j hj hji=>by rw[List.getElem?_set_ne (fun e=>hji e.symm)]) (fun k j hk hg hji=>kk k _ hk hg (by simp) (by simp;exact hji) (by simp) (by simp) (by simp)) (fun k hk hg=>kk k _ hk hg (by simp) (by simp) (by simp) (by simp) (by simp)) (by omega)
   rw[hA]at this
   exact this
  ·intro k hk
   have q1:=h.lo_m
   have e0:tget M2 k=tget M k:=(g9 k hk).trans (a1 k (by omega))
   exact(by(repeat (first | rw[tget_tset,if_pos rfl] | rw[tget_tset,if_neg (by omega)] | rw[tget_tdel,if_neg (by omega)]));try (first | rfl | assumption))
 ·have hA:addP ps (r.t,r.x)=ps++[(r.t,r.x)]:=if_neg hmem
  rw[hA]at g2 g3 g5 g6
  have hrow:rowOf l r.t r.x=[]:=Classical.byContradiction fun hne=>hmem (h.whole _ _ hne)
  have hi0:i=ps.length:=by
   rw[pidx_snoc,pidx_none.2 hmem]at g3
   simp only[if_true,Option.some.injEq]at g3
   omega
  subst hi0
  have hfew:ps.length<=1000:=by have:=h.few;omega
  have hrl':rs.length=ps.length:=by rw[hrl,Nat.mul_one]
  have fin:∀(M3:Hp) (R S n3:Nat),n2<=R->R<n3->n2<=S->S<n3->R≠S->tget M3 m=some (.row [v0',v1',.sl R 1 0 (ps.length+1) (ps.length+1),.int .i64 l.length,vend])->tget M3 R=some (.row (rs++[.sl S 2 0 1 1])) ->
   tget M3 S=some (.row [.int .u64 (mdOf r).v,.bool (mdOf r).dead])->(∀k,k<n2->k≠m->tag' k ≠ .rows->tget M3 k=tget M2 k) ->
   ∃tag' ps' vnum' vnames' vrows' rs',Mach M3 lo n3 m l.length (l++[r]) tag' ps' vnum' vnames' vrows' vend rs' le:=by
   intro M3 R S n3 hR1 hR2 hS1 hS2 hRS x0 x2 x3 x1
   have kk:∀(k:Nat) (tg:Tg),k<hi->tg0 k=tg->tg ≠ .rows->tg ≠ .mach->tg ≠ .num->tg ≠ .names->tget M3 k=tget M k:=fun k tg h1 h2 h3 h5 h6 h7=>by
    rw[x1 k (by omega) (fun e=>h5 (by rw[<-h2,e];exact h.tg)) (by rw[t2 k (by omega),h2];exact h3),g8 k (by omega) (fun e=>h5 (by rw[<-h2,e];exact h.tg)) (by rw[h2];exact h6) (by rw[h2];exact h7)]
    exact a1 k (by omega)
   have tt:∀(k:Nat) (tg:Tg),k<n2->tag' k=tg->tg ≠ .rows->tg ≠ .mach->tget M3 k=tget M2 k/\(if k=S then Tg.row ps.length else if k=R then .rows else tag' k)=tg:=fun k tg h1 h2 h3 h4=>by
    refine⟨x1 k h1 (fun e=>h4 (by rw[<-h2,e,t2 m (by omega)];exact h.tg)) (by rw[h2];exact h3),?_⟩
    rw[if_neg (by omega),if_neg (by omega)]
    exact h2
   have q1:=h.lo_m
   refine⟨fun k=>if k=S then .row ps.length else if k=R then .rows else tag' k,addP ps (r.t,r.x),v0',v1',.sl R 1 0 (ps.length+1) (ps.length+1),rs++[.sl S 2 0 1 1],?_⟩
   exact h.put (M3:=M3) (n3:=n3) (i:=ps.length) (tag3:=fun k=>if k=S then .row ps.length else if k=R then .rows else tag' k) hr
    (fun k hk=>by rw[if_neg (by omega),if_neg (by omega)];exact t2 k (by omega)) x0
    (by rw[hA];exact g5.keep (fun k h1 h2=>tt k _ h1 h2 (by simp) (by simp)) (by omega)) (by rw[hA];exact g6.keep (fun k h1 h2=>tt k _ h1 h2 (by simp) (by simp)) (by omega))
    (by rw[hA];exact⟨by simp;omega,by simp[hrl'],.inr ⟨by simp,R,by simp,by omega,by omega,by simp[hRS],x2⟩⟩) (by rw[hA];exact g2)
    ⟨.sl S 2 0 1 1,by rw[<-hrl',List.getElem?_concat_length],by rw[hrow];simp,by rw[hrow];simp[encMd],.inr ⟨by rw[hrow];simp,S,by rw[hrow];rfl,by omega,by omega,by simp,by rw[hrow];exact x3⟩⟩
    (fun j hj hji=>by rw[List.getElem?_append_left (by omega)]) (fun k j hk hg hji=>kk k _ hk hg (by simp) (by simp) (by simp) (by simp)) (fun k hk hg=>kk k _ hk hg (by simp) (by simp) (by simp) (by simp)) (by omega)
  have e0':∀k,k<lo->tget M2 k=tget M k:=fun k hk=>(g9 k hk).trans (a1 k (by have:=h.lo_m;omega))
  have q1:=h.lo_m
  rcases hrows with ⟨rfl,e0⟩ | ⟨hl,rk,rfl,r1,r2,r3,r4⟩
  ·rw[e0]at hrl
   have hps:ps=[]:=List.length_eq_zero_iff.1 e0
   have hrs:rs=[]:=List.length_eq_zero_iff.1 (by omega)
   refine xs5 gy35 g4 y0 e0 @Int.toNat_natCast ?_;try exact⟨⟩
   refine⟨?_,fin _ (n2+14) (n2+32) _ (by omega) (by omega) (by omega) (by omega) (by omega) ?_ ?_ ?_ ?_,?_,by omega⟩
   ·(repeat' apply And.intro)<;>(refine okP2_ap _ _ _ _ _ _ ?_ ?_ ?_<;>(intro x hx hy;first | (simp only[List.mem_cons,List.not_mem_nil,or_false]at hx hy;done) | (simp only[List.mem_cons,List.not_mem_nil,or_false]at hx hy;omega)))
   ·rw[e0];exact(by(repeat (first | rw[tget_tset,if_pos rfl] | rw[tget_tset,if_neg (by omega)] | rw[tget_tdel,if_neg (by omega)]));try (first | rfl | assumption))
   ·rw[hrs];exact(by(repeat (first | rw[tget_tset,if_pos rfl] | rw[tget_tset,if_neg (by omega)] | rw[tget_tdel,if_neg (by omega)]));try (first | rfl | assumption))
   ·exact(by(repeat (first | rw[tget_tset,if_pos rfl] | rw[tget_tset,if_neg (by omega)] | rw[tget_tdel,if_neg (by omega)]));try (first | rfl | assumption))
   ·intro k h1 h2 h3;exact(by(repeat (first | rw[tget_tset,if_pos rfl] | rw[tget_tset,if_neg (by omega)] | rw[tget_tdel,if_neg (by omega)]));try (first | rfl | assumption))
   ·intro k hk
    have:=e0' k hk
    exact(by(repeat (first | rw[tget_tset,if_pos rfl] | rw[tget_tset,if_neg (by omega)] | rw[tget_tdel,if_neg (by omega)]));try (first | rfl | assumption))
  ·have n1:=tag_ne h.tg r3 (by simp)
   have hd:KEq m rk=False/\KEq rk m=False:=by simp only[KEq,eq_iff_iff,iff_false];exact⟨n1,n1.symm⟩
   have yr:tget M2 rk=some (.row rs):=((g8 rk (by omega) n1.symm (by rw[r3];simp) (by rw[r3];simp)).trans (a1 rk (by omega))).trans r4
   have htk:List.take ps.length rs=rs:=List.take_of_length_le (by omega)
   have hdrop:List.drop ps.length (rs++[XV.nils])=[XV.nils]:=by rw[List.drop_append_of_le_length (by omega),List.drop_eq_nil_of_le (by omega)];rfl
   refine xs9 gy35 g4 yr y0 hrl' hd htk hdrop @Int.toNat_natCast ?_;try exact⟨⟩
   have hpl:=fun v=>putAt_last (a:=.nils) (v:=v) rs
   rw[hrl']at hpl
   rw[hpl]
   refine⟨?_,fin _ (n2+14) (n2+32) _ (by omega) (by omega) (by omega) (by omega) (by omega) ?_ ?_ ?_ ?_,?_,by omega⟩
   ·(repeat' apply And.intro)<;>(refine okP2_ap _ _ _ _ _ _ ?_ ?_ ?_<;>(intro x hx hy;first | (simp only[List.mem_cons,List.not_mem_nil,or_false]at hx hy;done) | (simp only[List.mem_cons,List.not_mem_nil,or_false]at hx hy;omega)))
   ·exact(by(repeat (first | rw[tget_tset,if_pos rfl] | rw[tget_tset,if_neg (by omega)] | rw[tget_tdel,if_neg (by omega)]));try (first | rfl | assumption))
   ·exact(by(repeat (first | rw[tget_tset,if_pos rfl] | rw[tget_tset,if_neg (by omega)] | rw[tget_tdel,if_neg (by omega)]));try (first | rfl | assumption))
   ·exact(by(repeat (first | rw[tget_tset,if_pos rfl] | rw[tget_tset,if_neg (by omega)] | rw[tget_tdel,if_neg (by omega)]));try (first | rfl | assumption))
   ·intro k h1 h2 h3
    have e1:k≠rk:=fun e=>h3 (by rw[e,t2 rk (by omega)];exact r3)
    exact(by(repeat (first | rw[tget_tset,if_pos rfl] | rw[tget_tset,if_neg (by omega)] | rw[tget_tdel,if_neg (by omega)]));try (first | rfl | assumption))
   ·intro k hk
    have:=e0' k hk
    exact(by(repeat (first | rw[tget_tset,if_pos rfl] | rw[tget_tset,if_neg (by omega)] | rw[tget_tdel,if_neg (by omega)]));try (first | rfl | assumption))
end Go.Xs
namespace Go.Xs
open Go.Proofs
set_option maxRecDepth 100000
set_option maxHeartbeats 4000000
def DoPost (M:Hp) (nx lo m:Nat) (l:List Rec) (o:Out):Prop:=o.1 = .tup []/\MachAt o.2.1 lo o.2.2 m l/\Agr lo M o.2.1/\nx<=o.2.2
theorem f92 (ρ:Rho) {M:Hp} {nx lo hi m b:Nat} {l:List Rec} {r:Rec} {cs:List XV} (hr:RecAt M b r cs) (h:MachAt M lo hi m l) (hh:hi<=nx) (few:l.length<=1000):FOk Tryz.prog ρ 92 [.mp m 0,.agg cs] M nx (DoPost M nx lo m (l++[r])):=by
 obtain⟨pk,pa,pb,pv,ve,rfl,⟨p1,p2⟩,⟨q1,q2⟩,_,_⟩:=hr.cells
 obtain⟨tag,ps,vnum,vnames,vrows,vend,rs,le,h⟩:=h
 replace h:=h.norm
 obtain⟨tg0,htg⟩:∃f,f=fun k=>if k<hi then tag k else Tg.none:=⟨_,rfl⟩
 rw[<-htg]at h
 have htn:∀k,hi<=k->tg0 k = .none:=fun k hk=>by rw[htg];exact if_neg (by omega)
 clear htg
 have hmm:=h.m_hi
 have hlo:=h.lo_m
 have hM:=h.row
 have hw:IntKind.i64.wrap ((l.length:Int)+1)=((l.length+1:Nat):Int):=by rw[wrap_i64 (by omega) (by omega)];omega
 have hlen:(l++[r]).length=l.length+1:=by simp
 have hU:∀(M:Hp) (n:Nat) (k:Int) (b:Bool),upI Tryz.prog M 162 n k (.bool b) (.i 23 (.bool false)) (some (.map [] 0))=some ⟨.udf,[n],[(n,some (.map (entU vB (aput [] 0 k b)) (acl [] 0 k)))]⟩:=fun M n k b=>upI_B (P:=Tryz.prog) (M:=M) 162 n 23 0 k b (.bool false) []
 rcases h.ends with ⟨rfl,rfl⟩ | ⟨ek,ec,rfl,e1,e2,e3,e4⟩
 ·have hal:∀t,alook ([]:List (Nat×Int×Bool)) t=endOf l t:=h.ended
  have fin:∀(M':Hp) (n' c':Nat) (le':List (Nat×Int×Bool)),(nx+7)<n'->hi<=n'->tget M' m=some (.row [vnum,vnames,vrows,.int .i64 ((l.length+1:Nat):Int),.mm (nx+7)])->tget M' (nx+7)=some (.map (entU vB le') c')->(∀k,k<hi->k≠m->k≠(nx+7)->tget M' k=tget M k)->isMod r=false->(∀t,alook le' t=endOf (l++[r]) t)->MachAt M' lo n' m (l++[r]):=fun M' n' c' le' g1 g2 g3 g4 g5 g6 g7=>by
   obtain⟨tag',hh'⟩:=h.doEnd (l':=l++[r]) (mn':=l.length+1) (.inr (by omega)) g1 g3 g4 g5 g2 (fun t x=>rowOf_nomod g6) g7 (by simp)
   rw[<-hlen]at hh'
   exact⟨tag',ps,vnum,vnames,vrows,_,rs,le',hh'⟩
  by_cases k1:r.kind=1
  ·refine FOk.walk (m:=63) (rs:=[]) follows Tryz.func92 (by kernel_rfl) rfl rfl rfl ?_
   conv in W _ _ _ _ _ _ _=>arg 4;whnf
   refine xs9 gy36 p1 p2 q1 q2 hM k1 hw hU ?_;try exact⟨⟩
   refine⟨rfl,fin _ _ (acl [] 0 r.t) (aput [] 0 r.t false) (by simp only;omega) (by simp only;omega) (by(repeat (first | rw[tget_tset,if_pos rfl] | rw[tget_tset,if_neg (by omega)] | rw[tget_tdel,if_neg (by omega)]));try (first | rfl | assumption)) (by(repeat (first | rw[tget_tset,if_pos rfl] | rw[tget_tset,if_neg (by omega)] | rw[tget_tdel,if_neg (by omega)]));try (first | rfl | assumption)) (fun k h1 h2 h3=>(by(repeat (first | rw[tget_tset,if_pos rfl] | rw[tget_tset,if_neg (by omega)] | rw[tget_tdel,if_neg (by omega)]));try (first | rfl | assumption))) (nomod (by omega) (by omega)) fun t=>?_,fun k hk=>(by(repeat (first | rw[tget_tset,if_pos rfl] | rw[tget_tset,if_neg (by omega)] | rw[tget_tdel,if_neg (by omega)]));try (first | rfl | assumption)),by simp only;omega⟩
   rw[alook_put,endOf_begin k1,hal]
  by_cases k3:r.kind=3
  ·have hmd:mdOf r=⟨r.v,false⟩:=if_pos k3
   have hmod:isMod r=true:=by simp[isMod,k3]
   refine FOk.walk (m:=63) (rs:=[]) follows Tryz.func92 (by kernel_rfl) rfl rfl rfl ?_
   conv in W _ _ _ _ _ _ _=>arg 4;whnf
   refine xs10 gy36 p1 p2 q1 q2 hM k1 k3 hw hU ?_;try exact⟨⟩
   generalize hM1:tset (tset (tset M _ _) _ _) _ _=M1
   have x0:tget M1 m=some (.row [vnum,vnames,vrows,.int .i64 l.length,.mm (nx+7)]):=by rw[<-hM1];exact(by(repeat (first | rw[tget_tset,if_pos rfl] | rw[tget_tset,if_neg (by omega)] | rw[tget_tdel,if_neg (by omega)]));try (first | rfl | assumption))
   have x1:tget M1 (nx+7)=some (.map (entU vB []) 0):=by rw[<-hM1];exact(by(repeat (first | rw[tget_tset,if_pos rfl] | rw[tget_tset,if_neg (by omega)] | rw[tget_tdel,if_neg (by omega)]));try (first | rfl | assumption))
   have x2:∀k,k<hi->k≠m->k≠(nx+7)->tget M1 k=tget M k:=fun k h1 h2 h3=>by rw[<-hM1];exact(by(repeat (first | rw[tget_tset,if_pos rfl] | rw[tget_tset,if_neg (by omega)] | rw[tget_tdel,if_neg (by omega)]));try (first | rfl | assumption))
   have x3:Agr lo M M1:=fun k hk=>by rw[<-hM1];exact(by(repeat (first | rw[tget_tset,if_pos rfl] | rw[tget_tset,if_neg (by omega)] | rw[tget_tdel,if_neg (by omega)]));try (first | rfl | assumption))
   clear hM1
   obtain⟨tag1,hmach⟩:=h.doEnd (n':=nx+8) (l':=l) (mn':=l.length) (.inr (by omega)) (by omega) x0 x1 x2 (by omega) (fun _ _=>rfl) hal (Nat.le_refl _)
   have hput:=fun nx' (hn:nx+8<=nx')=>f137 ρ (nx:=nx') hmach hn few hmod
   rw[hmd]at hput
   simp only[encMd]at hput
   refine CD_fok (hput _ (by omega)) (by decide) ?_ ?_
   ·refine xs1 gy36 ?_;try exact⟨⟩
   ·rintro⟨u,M2,n2⟩ ⟨g1,⟨tag2,ps2,w0,w1,w2,rs2,h2⟩,g3,g4⟩
    simp only at g1 g3 g4
    subst g1
    have hM2:=h2.row
    have hm2:=h2.m_hi
    simp only at hM2 hm2
    refine xs3 gy36 hM2 hw ?_;try exact⟨⟩
    refine⟨rfl,⟨tag2,ps2,w0,w1,w2,.mm (nx+7),rs2,[],?_⟩,(x3.trans g3).set (by omega) _,by simp only;omega⟩
    rw[hlen]
    exact h2.many (by(repeat (first | rw[tget_tset,if_pos rfl] | rw[tget_tset,if_neg (by omega)] | rw[tget_tdel,if_neg (by omega)]));try (first | rfl | assumption)) (fun k h1 h2=>(by(repeat (first | rw[tget_tset,if_pos rfl] | rw[tget_tset,if_neg (by omega)] | rw[tget_tdel,if_neg (by omega)]));try (first | rfl | assumption))) (by simp only;omega)
  by_cases k4:r.kind=4
  ·have hmd:mdOf r=⟨0,true⟩:=if_neg k3
   have hmod:isMod r=true:=by simp[isMod,k4]
   refine FOk.walk (m:=63) (rs:=[]) follows Tryz.func92 (by kernel_rfl) rfl rfl rfl ?_
   conv in W _ _ _ _ _ _ _=>arg 4;whnf
   refine xs11 gy36 p1 p2 q1 q2 hM k1 k3 k4 hw hU ?_;try exact⟨⟩
   generalize hM1:tset (tset (tset M _ _) _ _) _ _=M1
   have x0:tget M1 m=some (.row [vnum,vnames,vrows,.int .i64 l.length,.mm (nx+7)]):=by rw[<-hM1];exact(by(repeat (first | rw[tget_tset,if_pos rfl] | rw[tget_tset,if_neg (by omega)] | rw[tget_tdel,if_neg (by omega)]));try (first | rfl | assumption))
   have x1:tget M1 (nx+7)=some (.map (entU vB []) 0):=by rw[<-hM1];exact(by(repeat (first | rw[tget_tset,if_pos rfl] | rw[tget_tset,if_neg (by omega)] | rw[tget_tdel,if_neg (by omega)]));try (first | rfl | assumption))
   have x2:∀k,k<hi->k≠m->k≠(nx+7)->tget M1 k=tget M k:=fun k h1 h2 h3=>by rw[<-hM1];exact(by(repeat (first | rw[tget_tset,if_pos rfl] | rw[tget_tset,if_neg (by omega)] | rw[tget_tdel,if_neg (by omega)]));try (first | rfl | assumption))
   have x3:Agr lo M M1:=fun k hk=>by rw[<-hM1];exact(by(repeat (first | rw[tget_tset,if_pos rfl] | rw[tget_tset,if_neg (by omega)] | rw[tget_tdel,if_neg (by omega)]));try (first | rfl | assumption))
   clear hM1
   obtain⟨tag1,hmach⟩:=h.doEnd (n':=nx+8) (l':=l) (mn':=l.length) (.inr (by omega)) (by omega) x0 x1 x2 (by omega) (fun _ _=>rfl) hal (Nat.le_refl _)
   have hput:=fun nx' (hn:nx+8<=nx')=>f137 ρ (nx:=nx') hmach hn few hmod
   rw[hmd]at hput
   simp only[encMd]at hput
   refine CD_fok (hput _ (by omega)) (by decide) ?_ ?_
   ·refine xs1 gy36 ?_;try exact⟨⟩
   ·rintro⟨u,M2,n2⟩ ⟨g1,⟨tag2,ps2,w0,w1,w2,rs2,h2⟩,g3,g4⟩
    simp only at g1 g3 g4
    subst g1
    have hM2:=h2.row
    have hm2:=h2.m_hi
    simp only at hM2 hm2
    refine xs3 gy36 hM2 hw ?_;try exact⟨⟩
    refine⟨rfl,⟨tag2,ps2,w0,w1,w2,.mm (nx+7),rs2,[],?_⟩,(x3.trans g3).set (by omega) _,by simp only;omega⟩
    rw[hlen]
    exact h2.many (by(repeat (first | rw[tget_tset,if_pos rfl] | rw[tget_tset,if_neg (by omega)] | rw[tget_tdel,if_neg (by omega)]));try (first | rfl | assumption)) (fun k h1 h2=>(by(repeat (first | rw[tget_tset,if_pos rfl] | rw[tget_tset,if_neg (by omega)] | rw[tget_tdel,if_neg (by omega)]));try (first | rfl | assumption))) (by simp only;omega)
  by_cases k6:r.kind=6
  ·refine FOk.walk (m:=63) (rs:=[]) follows Tryz.func92 (by kernel_rfl) rfl rfl rfl ?_
   conv in W _ _ _ _ _ _ _=>arg 4;whnf
   refine xs12 gy36 p1 p2 q1 q2 hM k1 k3 k4 k6 hw hU ?_;try exact⟨⟩
   refine⟨rfl,fin _ _ (acl [] 0 r.t) (aput [] 0 r.t true) (by simp only;omega) (by simp only;omega) (by(repeat (first | rw[tget_tset,if_pos rfl] | rw[tget_tset,if_neg (by omega)] | rw[tget_tdel,if_neg (by omega)]));try (first | rfl | assumption)) (by(repeat (first | rw[tget_tset,if_pos rfl] | rw[tget_tset,if_neg (by omega)] | rw[tget_tdel,if_neg (by omega)]));try (first | rfl | assumption)) (fun k h1 h2 h3=>(by(repeat (first | rw[tget_tset,if_pos rfl] | rw[tget_tset,if_neg (by omega)] | rw[tget_tdel,if_neg (by omega)]));try (first | rfl | assumption))) (nomod (by omega) (by omega)) fun t=>?_,fun k hk=>(by(repeat (first | rw[tget_tset,if_pos rfl] | rw[tget_tset,if_neg (by omega)] | rw[tget_tdel,if_neg (by omega)]));try (first | rfl | assumption)),by simp only;omega⟩
   rw[alook_put,endOf_end (.inl k6),hal]
  by_cases k7:r.kind=7
  ·refine FOk.walk (m:=63) (rs:=[]) follows Tryz.func92 (by kernel_rfl) rfl rfl rfl ?_
   conv in W _ _ _ _ _ _ _=>arg 4;whnf
   refine xs13 gy36 p1 p2 q1 q2 hM k1 k3 k4 k6 k7 hw hU ?_;try exact⟨⟩
   refine⟨rfl,fin _ _ (acl [] 0 r.t) (aput [] 0 r.t true) (by simp only;omega) (by simp only;omega) (by(repeat (first | rw[tget_tset,if_pos rfl] | rw[tget_tset,if_neg (by omega)] | rw[tget_tdel,if_neg (by omega)]));try (first | rfl | assumption)) (by(repeat (first | rw[tget_tset,if_pos rfl] | rw[tget_tset,if_neg (by omega)] | rw[tget_tdel,if_neg (by omega)]));try (first | rfl | assumption)) (fun k h1 h2 h3=>(by(repeat (first | rw[tget_tset,if_pos rfl] | rw[tget_tset,if_neg (by omega)] | rw[tget_tdel,if_neg (by omega)]));try (first | rfl | assumption))) (nomod (by omega) (by omega)) fun t=>?_,fun k hk=>(by(repeat (first | rw[tget_tset,if_pos rfl] | rw[tget_tset,if_neg (by omega)] | rw[tget_tdel,if_neg (by omega)]));try (first | rfl | assumption)),by simp only;omega⟩
   rw[alook_put,endOf_end (.inr k7),hal]
  ·refine FOk.walk (m:=63) (rs:=[]) follows Tryz.func92 (by kernel_rfl) rfl rfl rfl ?_
   conv in W _ _ _ _ _ _ _=>arg 4;whnf
   refine xs13 gy36 p1 p2 q1 q2 hM k1 k3 k4 k6 k7 hw hU ?_;try exact⟨⟩
   refine⟨rfl,fin _ _ 0 [] (by simp only;omega) (by simp only;omega) (by(repeat (first | rw[tget_tset,if_pos rfl] | rw[tget_tset,if_neg (by omega)] | rw[tget_tdel,if_neg (by omega)]));try (first | rfl | assumption)) (by(repeat (first | rw[tget_tset,if_pos rfl] | rw[tget_tset,if_neg (by omega)] | rw[tget_tdel,if_neg (by omega)]));try (first | rfl | assumption)) (fun k h1 h2 h3=>(by(repeat (first | rw[tget_tset,if_pos rfl] | rw[tget_tset,if_neg (by omega)] | rw[tget_tdel,if_neg (by omega)]));try (first | rfl | assumption))) (nomod (by omega) (by omega)) fun t=>?_,fun k hk=>(by(repeat (first | rw[tget_tset,if_pos rfl] | rw[tget_tset,if_neg (by omega)] | rw[tget_tdel,if_neg (by omega)]));try (first | rfl | assumption)),by simp only;omega⟩
   rw[endOf_idle k1 k6 k7,hal]
 ·have n1:=tag_ne h.tg e3 (by simp)
  have hd:KEq m ek=False/\KEq ek m=False:=by simp only[KEq,eq_iff_iff,iff_false];exact⟨n1,n1.symm⟩
  have hal:∀t,alook (le:List (Nat×Int×Bool)) t=endOf l t:=h.ended
  have fin:∀(M':Hp) (n' c':Nat) (le':List (Nat×Int×Bool)),ek<n'->hi<=n'->tget M' m=some (.row [vnum,vnames,vrows,.int .i64 ((l.length+1:Nat):Int),.mm ek])->tget M' ek=some (.map (entU vB le') c')->(∀k,k<hi->k≠m->k≠ek->tget M' k=tget M k)->isMod r=false->(∀t,alook le' t=endOf (l++[r]) t)->MachAt M' lo n' m (l++[r]):=fun M' n' c' le' g1 g2 g3 g4 g5 g6 g7=>by
   obtain⟨tag',hh'⟩:=h.doEnd (l':=l++[r]) (mn':=l.length+1) (.inl ⟨e1,e2,e3⟩) g1 g3 g4 g5 g2 (fun t x=>rowOf_nomod g6) g7 (by simp)
   rw[<-hlen]at hh'
   exact⟨tag',ps,vnum,vnames,vrows,_,rs,le',hh'⟩
  by_cases k1:r.kind=1
  ·refine FOk.walk (m:=63) (rs:=[]) follows Tryz.func92 (by kernel_rfl) rfl rfl rfl ?_
   conv in W _ _ _ _ _ _ _=>arg 4;whnf
   refine xs10 gy36 p1 p2 q1 q2 hM k1 hw hd e4 ?_;try exact⟨⟩
   refine⟨rfl,fin _ _ (acl le ec r.t) (aput le ec r.t false) (by simp only;omega) (by simp only;omega) (by(repeat (first | rw[tget_tset,if_pos rfl] | rw[tget_tset,if_neg (by omega)] | rw[tget_tdel,if_neg (by omega)]));try (first | rfl | assumption)) (by(repeat (first | rw[tget_tset,if_pos rfl] | rw[tget_tset,if_neg (by omega)] | rw[tget_tdel,if_neg (by omega)]));try (first | rfl | assumption)) (fun k h1 h2 h3=>(by(repeat (first | rw[tget_tset,if_pos rfl] | rw[tget_tset,if_neg (by omega)] | rw[tget_tdel,if_neg (by omega)]));try (first | rfl | assumption))) (nomod (by omega) (by omega)) fun t=>?_,fun k hk=>(by(repeat (first | rw[tget_tset,if_pos rfl] | rw[tget_tset,if_neg (by omega)] | rw[tget_tdel,if_neg (by omega)]));try (first | rfl | assumption)),by simp only;omega⟩
   rw[alook_put,endOf_begin k1,hal]
  by_cases k3:r.kind=3
  ·have hmd:mdOf r=⟨r.v,false⟩:=if_pos k3
   have hmod:isMod r=true:=by simp[isMod,k3]
   refine FOk.walk (m:=63) (rs:=[]) follows Tryz.func92 (by kernel_rfl) rfl rfl rfl ?_
   conv in W _ _ _ _ _ _ _=>arg 4;whnf
   refine xs11 gy36 p1 p2 q1 q2 hM k1 k3 hw hd e4 ?_;try exact⟨⟩
   generalize hM1:tset M _ _=M1
   have x0:tget M1 m=some (.row [vnum,vnames,vrows,.int .i64 l.length,.mm ek]):=by rw[<-hM1];exact(by(repeat (first | rw[tget_tset,if_pos rfl] | rw[tget_tset,if_neg (by omega)] | rw[tget_tdel,if_neg (by omega)]));try (first | rfl | assumption))
   have x1:tget M1 ek=some (.map (entU vB le) ec):=by rw[<-hM1];exact(by(repeat (first | rw[tget_tset,if_pos rfl] | rw[tget_tset,if_neg (by omega)] | rw[tget_tdel,if_neg (by omega)]));try (first | rfl | assumption))
   have x2:∀k,k<hi->k≠m->k≠ek->tget M1 k=tget M k:=fun k h1 h2 h3=>by rw[<-hM1];exact(by(repeat (first | rw[tget_tset,if_pos rfl] | rw[tget_tset,if_neg (by omega)] | rw[tget_tdel,if_neg (by omega)]));try (first | rfl | assumption))
   have x3:Agr lo M M1:=fun k hk=>by rw[<-hM1];exact(by(repeat (first | rw[tget_tset,if_pos rfl] | rw[tget_tset,if_neg (by omega)] | rw[tget_tdel,if_neg (by omega)]));try (first | rfl | assumption))
   clear hM1
   obtain⟨tag1,hmach⟩:=h.doEnd (n':=nx+8) (l':=l) (mn':=l.length) (.inl ⟨e1,e2,e3⟩) (by omega) x0 x1 x2 (by omega) (fun _ _=>rfl) hal (Nat.le_refl _)
   have hput:=fun nx' (hn:nx+8<=nx')=>f137 ρ (nx:=nx') hmach hn few hmod
   rw[hmd]at hput
   simp only[encMd]at hput
   refine CD_fok (hput _ (by omega)) (by decide) ?_ ?_
   ·refine xs1 gy36 ?_;try exact⟨⟩
   ·rintro⟨u,M2,n2⟩ ⟨g1,⟨tag2,ps2,w0,w1,w2,rs2,h2⟩,g3,g4⟩
    simp only at g1 g3 g4
    subst g1
    have hM2:=h2.row
    have hm2:=h2.m_hi
    simp only at hM2 hm2
    refine xs3 gy36 hM2 hw ?_;try exact⟨⟩
    refine⟨rfl,⟨tag2,ps2,w0,w1,w2,.mm ek,rs2,le,?_⟩,(x3.trans g3).set (by omega) _,by simp only;omega⟩
    rw[hlen]
    exact h2.many (by(repeat (first | rw[tget_tset,if_pos rfl] | rw[tget_tset,if_neg (by omega)] | rw[tget_tdel,if_neg (by omega)]));try (first | rfl | assumption)) (fun k h1 h2=>(by(repeat (first | rw[tget_tset,if_pos rfl] | rw[tget_tset,if_neg (by omega)] | rw[tget_tdel,if_neg (by omega)]));try (first | rfl | assumption))) (by simp only;omega)
  by_cases k4:r.kind=4
  ·have hmd:mdOf r=⟨0,true⟩:=if_neg k3
   have hmod:isMod r=true:=by simp[isMod,k4]
   refine FOk.walk (m:=63) (rs:=[]) follows Tryz.func92 (by kernel_rfl) rfl rfl rfl ?_
   conv in W _ _ _ _ _ _ _=>arg 4;whnf
   refine xs12 gy36 p1 p2 q1 q2 hM k1 k3 k4 hw hd e4 ?_;try exact⟨⟩
   generalize hM1:tset M _ _=M1
   have x0:tget M1 m=some (.row [vnum,vnames,vrows,.int .i64 l.length,.mm ek]):=by rw[<-hM1];exact(by(repeat (first | rw[tget_tset,if_pos rfl] | rw[tget_tset,if_neg (by omega)] | rw[tget_tdel,if_neg (by omega)]));try (first | rfl | assumption))
   have x1:tget M1 ek=some (.map (entU vB le) ec):=by rw[<-hM1];exact(by(repeat (first | rw[tget_tset,if_pos rfl] | rw[tget_tset,if_neg (by omega)] | rw[tget_tdel,if_neg (by omega)]));try (first | rfl | assumption))
   have x2:∀k,k<hi->k≠m->k≠ek->tget M1 k=tget M k:=fun k h1 h2 h3=>by rw[<-hM1];exact(by(repeat (first | rw[tget_tset,if_pos rfl] | rw[tget_tset,if_neg (by omega)] | rw[tget_tdel,if_neg (by omega)]));try (first | rfl | assumption))
   have x3:Agr lo M M1:=fun k hk=>by rw[<-hM1];exact(by(repeat (first | rw[tget_tset,if_pos rfl] | rw[tget_tset,if_neg (by omega)] | rw[tget_tdel,if_neg (by omega)]));try (first | rfl | assumption))
   clear hM1
   obtain⟨tag1,hmach⟩:=h.doEnd (n':=nx+8) (l':=l) (mn':=l.length) (.inl ⟨e1,e2,e3⟩) (by omega) x0 x1 x2 (by omega) (fun _ _=>rfl) hal (Nat.le_refl _)
   have hput:=fun nx' (hn:nx+8<=nx')=>f137 ρ (nx:=nx') hmach hn few hmod
   rw[hmd]at hput
   simp only[encMd]at hput
   refine CD_fok (hput _ (by omega)) (by decide) ?_ ?_
   ·refine xs1 gy36 ?_;try exact⟨⟩
   ·rintro⟨u,M2,n2⟩ ⟨g1,⟨tag2,ps2,w0,w1,w2,rs2,h2⟩,g3,g4⟩
    simp only at g1 g3 g4
    subst g1
    have hM2:=h2.row
    have hm2:=h2.m_hi
    simp only at hM2 hm2
    refine xs3 gy36 hM2 hw ?_;try exact⟨⟩
    refine⟨rfl,⟨tag2,ps2,w0,w1,w2,.mm ek,rs2,le,?_⟩,(x3.trans g3).set (by omega) _,by simp only;omega⟩
    rw[hlen]
    exact h2.many (by(repeat (first | rw[tget_tset,if_pos rfl] | rw[tget_tset,if_neg (by omega)] | rw[tget_tdel,if_neg (by omega)]));try (first | rfl | assumption)) (fun k h1 h2=>(by(repeat (first | rw[tget_tset,if_pos rfl] | rw[tget_tset,if_neg (by omega)] | rw[tget_tdel,if_neg (by omega)]));try (first | rfl | assumption))) (by simp only;omega)
  by_cases k6:r.kind=6
  ·refine FOk.walk (m:=63) (rs:=[]) follows Tryz.func92 (by kernel_rfl) rfl rfl rfl ?_
   conv in W _ _ _ _ _ _ _=>arg 4;whnf
   refine xs13 gy36 p1 p2 q1 q2 hM k1 k3 k4 k6 hw hd e4 ?_;try exact⟨⟩
   refine⟨rfl,fin _ _ (acl le ec r.t) (aput le ec r.t true) (by simp only;omega) (by simp only;omega) (by(repeat (first | rw[tget_tset,if_pos rfl] | rw[tget_tset,if_neg (by omega)] | rw[tget_tdel,if_neg (by omega)]));try (first | rfl | assumption)) (by(repeat (first | rw[tget_tset,if_pos rfl] | rw[tget_tset,if_neg (by omega)] | rw[tget_tdel,if_neg (by omega)]));try (first | rfl | assumption)) (fun k h1 h2 h3=>(by(repeat (first | rw[tget_tset,if_pos rfl] | rw[tget_tset,if_neg (by omega)] | rw[tget_tdel,if_neg (by omega)]));try (first | rfl | assumption))) (nomod (by omega) (by omega)) fun t=>?_,fun k hk=>(by(repeat (first | rw[tget_tset,if_pos rfl] | rw[tget_tset,if_neg (by omega)] | rw[tget_tdel,if_neg (by omega)]));try (first | rfl | assumption)),by simp only;omega⟩
   rw[alook_put,endOf_end (.inl k6),hal]
  by_cases k7:r.kind=7
  ·refine FOk.walk (m:=63) (rs:=[]) follows Tryz.func92 (by kernel_rfl) rfl rfl rfl ?_
   conv in W _ _ _ _ _ _ _=>arg 4;whnf
   refine xs14 gy36 p1 p2 q1 q2 hM k1 k3 k4 k6 k7 hw hd e4 ?_;try exact⟨⟩
   refine⟨rfl,fin _ _ (acl le ec r.t) (aput le ec r.t true) (by simp only;omega) (by simp only;omega) (by(repeat (first | rw[tget_tset,if_pos rfl] | rw[tget_tset,if_neg (by omega)] | rw[tget_tdel,if_neg (by omega)]));try (first | rfl | assumption)) (by(repeat (first | rw[tget_tset,if_pos rfl] | rw[tget_tset,if_neg (by omega)] | rw[tget_tdel,if_neg (by omega)]));try (first | rfl | assumption)) (fun k h1 h2 h3=>(by(repeat (first | rw[tget_tset,if_pos rfl] | rw[tget_tset,if_neg (by omega)] | rw[tget_tdel,if_neg (by omega)]));try (first | rfl | assumption))) (nomod (by omega) (by omega)) fun t=>?_,fun k hk=>(by(repeat (first | rw[tget_tset,if_pos rfl] | rw[tget_tset,if_neg (by omega)] | rw[tget_tdel,if_neg (by omega)]));try (first | rfl | assumption)),by simp only;omega⟩
   rw[alook_put,endOf_end (.inr k7),hal]
  ·refine FOk.walk (m:=63) (rs:=[]) follows Tryz.func92 (by kernel_rfl) rfl rfl rfl ?_
   conv in W _ _ _ _ _ _ _=>arg 4;whnf
   refine xs14 gy36 p1 p2 q1 q2 hM k1 k3 k4 k6 k7 hw hd e4 ?_;try exact⟨⟩
   refine⟨rfl,fin _ _ ec le (by simp only;omega) (by simp only;omega) (by(repeat (first | rw[tget_tset,if_pos rfl] | rw[tget_tset,if_neg (by omega)] | rw[tget_tdel,if_neg (by omega)]));try (first | rfl | assumption)) (by(repeat (first | rw[tget_tset,if_pos rfl] | rw[tget_tset,if_neg (by omega)] | rw[tget_tdel,if_neg (by omega)]));try (first | rfl | assumption)) (fun k h1 h2 h3=>(by(repeat (first | rw[tget_tset,if_pos rfl] | rw[tget_tset,if_neg (by omega)] | rw[tget_tdel,if_neg (by omega)]));try (first | rfl | assumption))) (nomod (by omega) (by omega)) fun t=>?_,fun k hk=>(by(repeat (first | rw[tget_tset,if_pos rfl] | rw[tget_tset,if_neg (by omega)] | rw[tget_tdel,if_neg (by omega)]));try (first | rfl | assumption)),by simp only;omega⟩
   rw[endOf_idle k1 k6 k7,hal]
end Go.Xs
namespace Go.Xs
open Go.Proofs
set_option maxRecDepth 100000
set_option maxHeartbeats 4000000
theorem f201 (ρ:Rho) {M:Hp} {nx lo hi m:Nat} {l:List Rec} (h:MachAt M lo hi m l) (hh:hi<=nx) (x w n:Int):FOk Tryz.prog ρ 201 [.mp m 0,.int .u64 x,.agg [.int .u64 w,.int .u64 n]] M nx (Ret nx M (.bool (thereS l x w n))):=by
 refine FOk.walk (m:=20) (rs:=[.tmp 6]) follows Tryz.func201 (by kernel_rfl) rfl rfl rfl ?_
 conv in W _ _ _ _ _ _ _=>arg 4;whnf
 refine xs1 gy37 ?_;try exact⟨⟩
 have a1:=fun o=>(Agr.refl nx M).set (Nat.le_refl nx) o
 refine CN_fok (f23 ρ _ _ w n) ?_
 rintro⟨u,M2,n2⟩ ⟨g1,g2,g3⟩
 simp only at g1 g2 g3
 subst g1
 have a2:=(a1 _).trans (g2.le (by omega))
 have y:=g2 nx (by omega)
 rw[tget_tset,if_pos rfl]at y
 cases hu:(decide (w=0)&&decide (n=0)) with
 | true =>
   refine xs3 gy37 hu @Ret.eq_1 ?_;try exact⟨⟩
   exact⟨by simp only[thereS,hu,Bool.true_or],a2,by omega⟩
 | false =>
   refine xs3 gy37 hu y ?_;try exact⟨⟩
   refine CN_fok (f251 ρ (h.agr (a2.le hh) (Nat.le_refl _)) (by omega) x w n) ?_
   rintro⟨u,M3,n3⟩ ⟨k1,k2,k3⟩
   simp only at k1 k2 k3
   subst k1
   have a3:=a2.trans (k2.le (by omega))
   cases hm:madeS l x w n with
   | none =>
     simp (maxSteps:=10000000) (disch:=first|assumption|decide|omega|(simp only[zde, *];done)|(simp only[zdf,big];first|done|assumption|omega)) only [zst,argsE,spl,resXs,resX,vI,vB,vX,oneOr,Nat.reduceLT,Nat.reduceEqDiff,Nat.reduceAdd,Nat.reduceMul,Nat.reduceSub,reduceIte,Int.reduceLT,Int.reduceLE,Int.reduceEq,Int.reduceNeg,Int.reduceToNat,gy37,madeV,Ret]
     exact⟨by simp only[thereS,hu,hm];rfl,((a3.set (by omega) _).set (by omega) _),by omega⟩
   | some d =>
     simp (maxSteps:=10000000) (disch:=first|assumption|decide|omega|(simp only[zde, *];done)|(simp only[zdf,big];first|done|assumption|omega)) only [zst,argsE,spl,resXs,resX,vI,vB,vX,oneOr,Nat.reduceLT,Nat.reduceEqDiff,Nat.reduceAdd,Nat.reduceMul,Nat.reduceSub,reduceIte,Int.reduceLT,Int.reduceLE,Int.reduceEq,Int.reduceNeg,Int.reduceToNat,gy37,madeV,encMd,Ret]
     exact⟨by simp only[thereS,hu,hm];rfl,((a3.set (by omega) _).set (by omega) _),by omega⟩
def latV (t:Int) (k:Nat):XV:=match k with | 0=>.tup [.agg [.int .u64 0,.int .u64 0],.bool false] | k+1=>.tup [.agg [.int .u64 t,.int .u64 ((k+1:Nat):Int)],.bool true]
theorem f202 (ρ:Rho) {M:Hp} {nx lo hi m:Nat} {l:List Rec} (h:MachAt M lo hi m l) (hh:hi<=nx) (t x:Int):FOk Tryz.prog ρ 202 [.mp m 0,.int .u64 t,.int .u64 x] M nx (Ret nx M (latV t (rowOf l t x).length)):=by
 obtain⟨v,hsl,hrow⟩:=f252 ρ h hh t x
 have hlen:=fun N=>hsl.len (P:=Tryz.prog) (t:=303) ty303.2.2.2.2.2 N
 have hz:=hsl.1
 have a1:=fun o=>(Agr.refl nx M).set (Nat.le_refl nx) o
 refine FOk.walk (m:=26) (rs:=[.cell 6 25,.tmp 7]) follows Tryz.func202 (by kernel_rfl) rfl rfl rfl ?_
 conv in W _ _ _ _ _ _ _=>arg 4;whnf
 refine xs1 gy38 ?_;try exact⟨⟩
 refine CN_fok (hrow _ _ (a1 _) (by omega)) ?_
 rintro⟨u,M2,n2⟩ ⟨g1,g2,g3⟩
 simp only at g1 g2 g3
 subst g1
 have a2:=(a1 _).trans (g2.le (by omega))
 have y:=g2 nx (by omega)
 rw[tget_tset,if_pos rfl]at y
 have hw:IntKind.u64.wrap ((rowOf l t x).length:Int)=(rowOf l t x).length:=wrap_u64 (by omega) (by omega)
 by_cases c0:((rowOf l t x).length:Int)=0
 ·refine xs5 gy38 y hlen c0 @Ret.eq_1 ?_;try exact⟨⟩
  exact⟨by rw[show (rowOf l t x).length=0 by omega];rfl,a2.set (by omega) _,by omega⟩
 ·refine xs6 gy38 y hlen c0 hw @Ret.eq_1 ?_;try exact⟨⟩
  refine⟨?_,a2.set (by omega) _,by omega⟩
  obtain⟨k,hk⟩:∃k,(rowOf l t x).length=k+1:=⟨(rowOf l t x).length - 1,by omega⟩
  rw[hk]
  rfl
theorem f131 (ρ:Rho) {M:Hp} {nx lo hi m b:Nat} {l:List Rec} {r:Rec} {cs:List XV} (hr:RecAt M b r cs) (h:MachAt M lo hi m l) (hh:hi<=nx):FOk Tryz.prog ρ 131 [.mp m 0,.agg cs] M nx (Ret nx M (.bool (seenS l r))):=by
 obtain⟨pk,pa,pb,pv,ve,rfl,⟨p1,p2⟩,⟨q1,q2⟩,_,_⟩:=hr.cells
 have a1:=fun o=>(Agr.refl nx M).set (Nat.le_refl nx) o
 refine FOk.walk (m:=16) (rs:=[.tmp 4]) follows Tryz.func131 (by kernel_rfl) rfl rfl rfl ?_
 conv in W _ _ _ _ _ _ _=>arg 4;whnf
 by_cases c0:r.kind=2
 ·refine xs6 gy1 p1 p2 q1 q2 c0 ?_;try exact⟨⟩
  refine CN_fok (f201 ρ (h.agr ((a1 _).le hh) (Nat.le_refl _)) (by omega) r.x r.w r.n) ?_
  rintro⟨u,M2,n2⟩ ⟨g1,g2,g3⟩
  simp only at g1 g2 g3
  subst g1
  refine xs2 gy1 @Ret.eq_1 ?_;try exact⟨⟩
  exact⟨by simp[seenS,c0],(a1 _).trans (g2.le (by omega)),by omega⟩
 ·refine xs7 gy1 p1 p2 q1 q2 c0 @Ret.eq_1 ?_;try exact⟨⟩
  exact⟨by simp[seenS,c0],a1 _,by omega⟩
theorem f132 (ρ:Rho) {M:Hp} {nx lo hi m b:Nat} {l:List Rec} {r:Rec} {cs:List XV} (hr:RecAt M b r cs) (h:MachAt M lo hi m l) (hh:hi<=nx):FOk Tryz.prog ρ 132 [.mp m 0,.agg cs] M nx (Ret nx M (.bool (ownS l r))):=by
 obtain⟨pk,pa,pb,pv,ve,rfl,⟨p1,p2⟩,⟨q1,q2⟩,_,_⟩:=hr.cells
 have a1:=fun o=>(Agr.refl nx M).set (Nat.le_refl nx) o
 refine FOk.walk (m:=29) (rs:=[.tmp 4]) follows Tryz.func132 (by kernel_rfl) rfl rfl rfl ?_
 conv in W _ _ _ _ _ _ _=>arg 4;whnf
 refine xs5 gy39 p1 p2 q1 q2 ?_;try exact⟨⟩
 refine CN_fok (f202 ρ (h.agr ((a1 _).le hh) (Nat.le_refl _)) (by omega) r.t r.x) ?_
 rintro⟨u,M2,n2⟩ ⟨g1,g2,g3⟩
 simp only at g1 g2 g3
 subst g1
 have a2:=(a1 _).trans (g2.le (by omega))
 have y:=g2 nx (by omega)
 rw[tget_tset,if_pos rfl]at y
 cases hk:(rowOf l r.t r.x).length with
 | zero =>
   by_cases c0:r.kind=2
   ·simp (maxSteps:=10000000) (disch:=first|assumption|decide|omega|(simp only[zde, *];done)|(simp only[zdf,big];first|done|assumption|omega)) only [zst,argsE,spl,resXs,resX,vI,vB,vX,oneOr,Nat.reduceLT,Nat.reduceEqDiff,Nat.reduceAdd,Nat.reduceMul,Nat.reduceSub,reduceIte,Int.reduceLT,Int.reduceLE,Int.reduceEq,Int.reduceNeg,Int.reduceToNat,gy39,y,latV,c0,Ret]
    exact⟨by simp[ownS,hk],(by(repeat (refine Agr.set ?_ (by omega) _));exact a2),by omega⟩
   ·simp (maxSteps:=10000000) (disch:=first|assumption|decide|omega|(simp only[zde, *];done)|(simp only[zdf,big];first|done|assumption|omega)) only [zst,argsE,spl,resXs,resX,vI,vB,vX,oneOr,Nat.reduceLT,Nat.reduceEqDiff,Nat.reduceAdd,Nat.reduceMul,Nat.reduceSub,reduceIte,Int.reduceLT,Int.reduceLE,Int.reduceEq,Int.reduceNeg,Int.reduceToNat,gy39,y,latV,c0,Ret]
    exact⟨by simp[ownS,hk],(by(repeat (refine Agr.set ?_ (by omega) _));exact a2),by omega⟩
 | succ k =>
   by_cases c0:r.kind=2
   ·simp (maxSteps:=10000000) (disch:=first|assumption|decide|omega|(simp only[zde, *];done)|(simp only[zdf,big];first|done|assumption|omega)) only [zst,argsE,spl,resXs,resX,vI,vB,vX,oneOr,Nat.reduceLT,Nat.reduceEqDiff,Nat.reduceAdd,Nat.reduceMul,Nat.reduceSub,reduceIte,Int.reduceLT,Int.reduceLE,Int.reduceEq,Int.reduceNeg,Int.reduceToNat,gy39,y,latV,c0,Ret]
    exact⟨by simp[ownS,hk,c0],(by(repeat (refine Agr.set ?_ (by omega) _));exact a2),by omega⟩
   ·simp (maxSteps:=10000000) (disch:=first|assumption|decide|omega|(simp only[zde, *];done)|(simp only[zdf,big];first|done|assumption|omega)) only [zst,argsE,spl,resXs,resX,vI,vB,vX,oneOr,Nat.reduceLT,Nat.reduceEqDiff,Nat.reduceAdd,Nat.reduceMul,Nat.reduceSub,reduceIte,Int.reduceLT,Int.reduceLE,Int.reduceEq,Int.reduceNeg,Int.reduceToNat,gy39,y,latV,c0,Ret]
    exact⟨by simp[ownS,hk,c0],(by(repeat (refine Agr.set ?_ (by omega) _));exact a2),by omega⟩
end Go.Xs
namespace Go.Xs
open Go.Proofs
set_option maxRecDepth 100000
set_option maxHeartbeats 4000000
theorem f253 (ρ:Rho) {l:List En} {M:Hp} {nx b:Nat} {v:XV} (hsl:SlAt M b v 4 l.length (l.flatMap encEn)) (hb:b<=nx) {g:Nat} {first caps:List XV} (q:En->Bool)
 (hq:∀e ∈ l,∀(M':Hp) (nx':Nat),Agr nx M M'->nx<=nx'->FOk Tryz.prog ρ g (first++[.agg (encEn e)]++caps) M' nx' (Ret nx' M' (.bool (q e)))) :
 FOk Tryz.prog ρ 253 [v,.fn (.func g) first caps] M nx (Ret nx M (.int .i64 (idxG q l 0))):=by
 have hlen:=fun N=>hsl.len (P:=Tryz.prog) (t:=41) ty41.2.2.2.2.2 N
 have hz:=hsl.1
 refine FOk.walk (m:=19) (rs:=[.tmp 4]) follows Tryz.func253 (by kernel_rfl) rfl rfl rfl ?_
 conv in W _ _ _ _ _ _ _=>arg 4;whnf
 refine xs2 gy31 hlen ?_;try exact⟨⟩
 refine W_loop (fun m s=>∃i:Nat,i<=l.length/\m=l.length - i/\idxG q (l.drop i) i=idxG q l 0/\tget s.env 0=some v/\tget s.env 1=some (.fn (.func g) first caps)/\tget s.env 7=some (.int .i64 l.length)/\tget s.env 8=some (.int .i64 i)/\Agr nx M s.M/\nx<=s.nx)
  l.length ⟨0,by omega,by omega,by simp,?_⟩ ?_
 ·refine xs1 gy31 ?_;try exact⟨⟩
  exact⟨Agr.refl _ _,by omega⟩
 ·rintro m ⟨env,M',nx'⟩ ⟨i,hi,hm,hid,e0,e1,e7,e8,ha,hn⟩
  simp only at e0 e1 e7 e8 ha hn
  by_cases hlt:(i:Int)<l.length
  ·have hlt':i<l.length:=by omega
   obtain⟨e,hei⟩:∃e,l[i]?=some e:=⟨l[i],by simp[hlt']⟩
   obtain⟨n,o,hnb,hix,hld⟩:=hsl.elem (P:=Tryz.prog) hlt' (t:=41) (t':=120) ty41.2.2.2.1 ty120.1
   have hld:=hld M' (ha.le hb)
   rw[ens_row l i e hei]at hld
   have hw2:IntKind.i64.wrap ((i:Int)+1)=((i+1:Nat):Int):=by rw[wrap_i64 (by omega) (by omega)];omega
   have hst:=idxG_step (q:=q) hei
   refine xs8 gy31 e0 e1 e7 e8 hlt hix hld ?_;try exact⟨⟩
   refine CN_fok (hq e (List.mem_of_getElem? hei) M' _ ha (by omega)) ?_
   rintro⟨v',M'',nx''⟩ ⟨h1,h2,h3⟩
   simp only at h1 h2 h3
   subst h1
   cases hqe:q e with
   | true =>
     refine xs7 gy31 e0 e1 e7 e8 hqe @Ret.eq_1 ?_;try exact⟨⟩
     refine⟨?_,ha.trans (h2.le (by omega)),by omega⟩
     rw[<-hid,hst,hqe]
     rfl
   | false =>
     refine xs7 gy31 e0 e1 e7 e8 hqe hw2 ?_;try exact⟨⟩
     exact⟨l.length - (i+1),by omega,i+1,by omega,rfl,by rw[<-hid,hst,hqe];rfl,rfl,ha.trans (h2.le (by omega)),by omega⟩
  ·have hd:l.drop i=[]:=List.drop_eq_nil_of_le (by omega)
   refine xs7 gy31 e0 e1 e7 e8 hlt @Ret.eq_1 ?_;try exact⟨⟩
   refine⟨?_,ha,by omega⟩
   rw[<-hid,hd]
   rfl
theorem f203 (ρ:Rho) {l:List En} {M:Hp} {nx b:Nat} {v:XV} (hsl:SlAt M b v 4 l.length (l.flatMap encEn)) (hb:b<=nx) {g:Nat} {first caps:List XV} (q:En->Bool)
 (hq:∀e ∈ l,∀(M':Hp) (nx':Nat),Agr nx M M'->nx<=nx'->FOk Tryz.prog ρ g (first++[.agg (encEn e)]++caps) M' nx' (Ret nx' M' (.bool (q e)))) :
 FOk Tryz.prog ρ 203 [v,.fn (.func g) first caps] M nx (Ret nx M (.bool (l.any q))):=by
 refine FOk.walk (m:=9) (rs:=[.tmp 4]) follows Tryz.func203 (by kernel_rfl) rfl rfl rfl ?_
 conv in W _ _ _ _ _ _ _=>arg 4;whnf
 refine xs1 gy5 ?_;try exact⟨⟩
 refine CN_fok (f253 ρ hsl (by omega) q fun e he M' nx' ha hn=>hq e he M' nx' (ha.le (by omega)) (by omega)) ?_
 rintro⟨u,M2,n2⟩ ⟨g1,g2,g3⟩
 simp only at g1 g2 g3
 subst g1
 have hi:=idxG_any (q:=q) l 0
 refine xs3 gy5 hi @Ret.eq_1 ?_;try exact⟨⟩
 exact⟨g2.le (by omega),by omega⟩
theorem f254 (ρ:Rho) {l:List Int} {M:Hp} {nx b:Nat} {v:XV} (hsl:SlAt M b v 1 l.length (l.map (XV.int .u64))) (hb:b<=nx) {g:Nat} {first caps:List XV} (q:Int->Bool)
 (hq:∀e ∈ l,∀(M':Hp) (nx':Nat),Agr nx M M'->nx<=nx'->FOk Tryz.prog ρ g (first++[.int .u64 e]++caps) M' nx' (Ret nx' M' (.bool (q e)))) :
 FOk Tryz.prog ρ 254 [v,.fn (.func g) first caps] M nx (Ret nx M (.int .i64 (idxG q l 0))):=by
 have hlen:=fun N=>hsl.len (P:=Tryz.prog) (t:=44) ty44.2.2.2.2.2 N
 have hz:=hsl.1
 refine FOk.walk (m:=19) (rs:=[.tmp 4]) follows Tryz.func254 (by kernel_rfl) rfl rfl rfl ?_
 conv in W _ _ _ _ _ _ _=>arg 4;whnf
 refine xs2 gy40 hlen ?_;try exact⟨⟩
 refine W_loop (fun m s=>∃i:Nat,i<=l.length/\m=l.length - i/\idxG q (l.drop i) i=idxG q l 0/\tget s.env 0=some v/\tget s.env 1=some (.fn (.func g) first caps)/\tget s.env 7=some (.int .i64 l.length)/\tget s.env 8=some (.int .i64 i)/\Agr nx M s.M/\nx<=s.nx)
  l.length ⟨0,by omega,by omega,by simp,?_⟩ ?_
 ·refine xs1 gy40 ?_;try exact⟨⟩
  exact⟨Agr.refl _ _,by omega⟩
 ·rintro m ⟨env,M',nx'⟩ ⟨i,hi,hm,hid,e0,e1,e7,e8,ha,hn⟩
  simp only at e0 e1 e7 e8 ha hn
  by_cases hlt:(i:Int)<l.length
  ·have hlt':i<l.length:=by omega
   obtain⟨e,hei⟩:∃e,l[i]?=some e:=⟨l[i],by simp[hlt']⟩
   obtain⟨n,o,hnb,hix,hld⟩:=hsl.fldG (P:=Tryz.prog) hlt' (t:=44) ty44.2.2.2.1
   have hld:=hld 0 (.int .u64 e) (by omega) (by simp[hei]) 23 1 ty23.1 M' (ha.le hb)
   rw[Nat.add_zero]at hld
   have hw2:IntKind.i64.wrap ((i:Int)+1)=((i+1:Nat):Int):=by rw[wrap_i64 (by omega) (by omega)];omega
   have hst:=idxG_step (q:=q) hei
   refine xs8 gy40 e0 e1 e7 e8 hlt hix hld ?_;try exact⟨⟩
   refine CN_fok (hq e (List.mem_of_getElem? hei) M' _ ha (by omega)) ?_
   rintro⟨v',M'',nx''⟩ ⟨h1,h2,h3⟩
   simp only at h1 h2 h3
   subst h1
   cases hqe:q e with
   | true =>
     refine xs7 gy40 e0 e1 e7 e8 hqe @Ret.eq_1 ?_;try exact⟨⟩
     refine⟨?_,ha.trans (h2.le (by omega)),by omega⟩
     rw[<-hid,hst,hqe]
     rfl
   | false =>
     refine xs7 gy40 e0 e1 e7 e8 hqe hw2 ?_;try exact⟨⟩
     exact⟨l.length - (i+1),by omega,i+1,by omega,rfl,by rw[<-hid,hst,hqe];rfl,rfl,ha.trans (h2.le (by omega)),by omega⟩
  ·have hd:l.drop i=[]:=List.drop_eq_nil_of_le (by omega)
   refine xs7 gy40 e0 e1 e7 e8 hlt @Ret.eq_1 ?_;try exact⟨⟩
   refine⟨?_,ha,by omega⟩
   rw[<-hid,hd]
   rfl
theorem f205 (ρ:Rho) {l:List Int} {M:Hp} {nx b:Nat} {v:XV} (hsl:SlAt M b v 1 l.length (l.map (XV.int .u64))) (hb:b<=nx) {g:Nat} {first caps:List XV} (q:Int->Bool)
 (hq:∀e ∈ l,∀(M':Hp) (nx':Nat),Agr nx M M'->nx<=nx'->FOk Tryz.prog ρ g (first++[.int .u64 e]++caps) M' nx' (Ret nx' M' (.bool (q e)))) :
 FOk Tryz.prog ρ 205 [v,.fn (.func g) first caps] M nx (Ret nx M (.bool (l.any q))):=by
 refine FOk.walk (m:=9) (rs:=[.tmp 4]) follows Tryz.func205 (by kernel_rfl) rfl rfl rfl ?_
 conv in W _ _ _ _ _ _ _=>arg 4;whnf
 refine xs1 gy5 ?_;try exact⟨⟩
 refine CN_fok (f254 ρ hsl (by omega) q fun e he M' nx' ha hn=>hq e he M' nx' (ha.le (by omega)) (by omega)) ?_
 rintro⟨u,M2,n2⟩ ⟨g1,g2,g3⟩
 simp only at g1 g2 g3
 subst g1
 have hi:=idxG_any (q:=q) l 0
 refine xs3 gy5 hi @Ret.eq_1 ?_;try exact⟨⟩
 exact⟨g2.le (by omega),by omega⟩
end Go.Xs
namespace Go.Xs
open Go.Proofs
set_option maxRecDepth 100000
set_option maxHeartbeats 4000000
mutual
def exSame:Ex->Ex->Bool
 | .mk k a c ps,.mk k' a' c' ps'=>decide (k=k')&&(decide (a=a')&&(decide (c=c')&&exsSame ps ps'))
def exsSame:List Ex->List Ex->Bool
 | [],[]=>true
 | e::es,e'::es'=>exSame e e'&&exsSame es es'
 | _,_=>false
end
theorem exsSame_len:∀{l l':List Ex},exsSame l l'=true->l.length=l'.length
 | [],[],_=>rfl
 | [],_::_,h=>by simp[exsSame]at h
 | _::_,[],h=>by simp[exsSame]at h
 | a::l,c::l',h=>by simp only[exsSame,Bool.and_eq_true]at h;simp[exsSame_len h.2]
theorem exsSame_step {l l':List Ex} {i:Nat} {a c:Ex} (h:l[i]?=some a) (h':l'[i]?=some c):exsSame (l.drop i) (l'.drop i)=(exSame a c&&exsSame (l.drop (i+1)) (l'.drop (i+1))):=by
 obtain⟨h1,rfl⟩:=List.getElem?_eq_some_iff.1 h
 obtain⟨h2,rfl⟩:=List.getElem?_eq_some_iff.1 h'
 rw[List.drop_eq_getElem_cons h1,List.drop_eq_getElem_cons h2]
 rfl
theorem ExAt.cells {M:Hp} {b:Nat} {e:Ex} {cs:List XV} (h:ExAt M b e cs):∃a1 a2 a3 a4,cs=[.int .i64 a1,.int .u64 a2,.int .u64 a3,a4]/\cellsOf a4=[a4]/\plain1 a4=true:=by
 obtain⟨k',x',y',ps'⟩:=e
 simp only[ExAt]at h
 obtain⟨v',row',rfl,hsl',_⟩:=h
 exact⟨_,_,_,_,rfl,hsl'.cell⟩
theorem f316 (ρ:Rho) {l l':List Ex} {M:Hp} {nx b:Nat} {v v':XV} {row row':List XV} (h:SlAt M b v 4 l.length row) (hp:ExsAt M b l row) (h':SlAt M b v' 4 l'.length row') (hp':ExsAt M b l' row') (hb:b<=nx)
 (hq:∀e ∈ l,∀e' (M':Hp) (nx':Nat) (cs cs':List XV),nx<=nx'->ExAt M' b e cs->ExAt M' b e' cs'->FOk Tryz.prog ρ 293 [.agg cs,.agg cs'] M' nx' (Ret nx' M' (.bool (exSame e e')))) :
 FOk Tryz.prog ρ 316 [v,v',.fn (.func 293) [] []] M nx (Ret nx M (.bool (exsSame l l'))):=by
 have hlen:=fun N=>h.len (P:=Tryz.prog) (t:=38) ty38.2.2.2.2.2 N
 have hlen':=fun N=>h'.len (P:=Tryz.prog) (t:=38) ty38.2.2.2.2.2 N
 have hz:=h.1
 refine FOk.walk (m:=32) (rs:=[.tmp 6]) follows Tryz.func316 (by kernel_rfl) rfl rfl rfl ?_
 conv in W _ _ _ _ _ _ _=>arg 4;whnf
 by_cases hl:(l.length:Int)=l'.length
 ·refine xs4 gy6 hlen hlen' hl ?_;try exact⟨⟩
  refine W_loop (fun m s=>∃i:Nat,i<=l.length/\m=l.length - i/\exsSame (l.drop i) (l'.drop i)=exsSame l l'/\tget s.env 1=some v'/\tget s.env 2=some (.fn (.func 293) [] [])/\tget s.env 15=some v/\tget s.env 16=some (.int .i64 l'.length)/\tget s.env 17=some (.int .i64 i)/\Agr nx M s.M/\nx<=s.nx)
   l.length ⟨0,by omega,by omega,by simp,?_⟩ ?_
  ·refine xs1 gy6 ?_;try exact⟨⟩
   exact⟨Agr.refl _ _,by omega⟩
  ·rintro m ⟨env,M',nx'⟩ ⟨i,hi,hm,hid,e1,e2,e15,e16,e17,ha,hn⟩
   simp only at e1 e2 e15 e16 e17 ha hn
   by_cases hlt:(i:Int)<l'.length
   ·have hlt':i<l.length:=by omega
    have hlt2:i<l'.length:=by omega
    obtain⟨a,hea⟩:∃e,l[i]?=some e:=⟨l[i],by simp[hlt']⟩
    obtain⟨c,hec⟩:∃e,l'[i]?=some e:=⟨l'[i],by simp[hlt2]⟩
    obtain⟨n,o,hnb,hix,hld⟩:=h.elem (P:=Tryz.prog) hlt' (t:=38) (t':=40) ty38.2.2.2.1 ty40.1
    obtain⟨n2,o2,hnb2,hix2,hld2⟩:=h'.elem (P:=Tryz.prog) hlt2 (t:=38) (t':=40) ty38.2.2.2.1 ty40.1
    have hex:=(hp.get hea).agr (ha.le hb)
    have hex2:=(hp'.get hec).agr (ha.le hb)
    generalize (row.drop (i*4)).take 4=r1 at hld hex
    generalize (row'.drop (i*4)).take 4=r2 at hld2 hex2
    have hldA:∀N,Agr nx M' N->loadX Tryz.prog N 40 (.mp n o)=some ⟨.agg r1,[n],[]⟩:=fun N hN=>hld N ((ha.trans hN).le hb)
    have hldB:∀N,Agr nx M' N->loadX Tryz.prog N 40 (.mp n2 o2)=some ⟨.agg r2,[n2],[]⟩:=fun N hN=>hld2 N ((ha.trans hN).le hb)
    obtain⟨a1,a2,a3,a4,rfl,p1,p2⟩:=hex.cells
    obtain⟨c1,c2,c3,c4,rfl,q1,q2⟩:=hex2.cells
    have g1:=hldA M' (Agr.refl _ _)
    have g2:=fun o1 o2'=>hldB (tset (tset M' (nx'+4) o1) (nx'+4) o2') (((Agr.refl _ _).set (by omega) _).set (by omega) _)
    have hw2:IntKind.i64.wrap ((i:Int)+1)=((i+1:Nat):Int):=by rw[wrap_i64 (by omega) (by omega)];omega
    have hst:=exsSame_step hea hec
    clear hld hld2 hldA hldB
    refine xs11 gy6 e1 e2 e15 e16 e17 hlt hix hix2 g1 g2 ?_;try exact⟨⟩
    generalize hM2:tset (tset (tset (tset M' _ _) _ _) _ _) _ _=M2
    have ag:Agr nx' M' M2:=by rw[<-hM2];exact((((Agr.refl _ _).set (by omega) _).set (by omega) _).set (by omega) _).set (by omega) _
    clear hM2 g1 g2
    refine CN_fok (hq a (List.mem_of_getElem? hea) c M2 _ _ _ (by omega) (hex.agr (ag.le (by omega))) (hex2.agr (ag.le (by omega)))) ?_
    rintro⟨u,M3,n3⟩ ⟨g1,g2,g3⟩
    simp only at g1 g2 g3
    subst g1
    have a3':Agr nx M M3:=ha.trans ((ag.le (by omega)).trans (g2.le (by omega)))
    clear g2 ag hq
    cases hs:exSame a c with
    | false =>
      refine xs8 gy6 e1 e2 e15 e16 e17 hs @Ret.eq_1 ?_;try exact⟨⟩
      exact⟨by rw[<-hid,hst,hs];rfl,a3',by omega⟩
    | true =>
      refine xs8 gy6 e1 e2 e15 e16 e17 hs hw2 ?_;try exact⟨⟩
      exact⟨l.length - (i+1),by omega,i+1,by omega,rfl,by rw[<-hid,hst,hs];rfl,rfl,a3',by omega⟩
   ·have hd:l.drop i=[]:=List.drop_eq_nil_of_le (by omega)
    have hd2:l'.drop i=[]:=List.drop_eq_nil_of_le (by omega)
    refine xs8 gy6 e1 e2 e15 e16 e17 hlt @Ret.eq_1 ?_;try exact⟨⟩
    exact⟨by rw[<-hid,hd,hd2];rfl,ha,by omega⟩
 ·refine xs5 gy6 hlen hlen' hl @Ret.eq_1 ?_;try exact⟨⟩
  refine⟨?_,Agr.refl _ _,by omega⟩
  congr 1
  cases hq:exsSame l l' with
  | false=>rfl
  | true=>have:=exsSame_len hq;omega
theorem f293 (ρ:Rho):∀(sz:Nat) (e e':Ex) (M:Hp) (nx b:Nat) (cs cs':List XV),exN e<sz->ExAt M b e cs->ExAt M b e' cs'->b<=nx->FOk Tryz.prog ρ 293 [.agg cs,.agg cs'] M nx (Ret nx M (.bool (exSame e e'))):=by
 intro sz
 induction sz with
 | zero=>intro e e' M nx b cs cs' h;omega
 | succ sz ih =>
 intro e e' M nx b cs cs' hsz he he' hb
 obtain⟨k,x,y,ps⟩:=e
 obtain⟨k',x',y',ps'⟩:=e'
 simp only[ExAt]at he he'
 obtain⟨v,row,rfl,hsl,hps⟩:=he
 obtain⟨v',row',rfl,hsl',hps'⟩:=he'
 have hv:=hsl.cell
 have hv':=hsl'.cell
 have go:∀(M1:Hp) (n1:Nat),nx<=n1->Agr nx M M1->FOk Tryz.prog ρ 316 [v,v',.fn (.func 293) [] []] M1 n1 (Ret n1 M1 (.bool (exsSame ps ps'))):=fun M1 n1 hn hA =>
  f316 ρ (nx:=n1) (hsl.agr (hA.le hb)) (hps.agr (hA.le hb)) (hsl'.agr (hA.le hb)) (hps'.agr (hA.le hb)) (by omega) fun e hm e' M' nx' cs cs' hn' h1 h2=>ih e e' M' nx' b cs cs' (by
   have:=exsN_mem hm
   simp only[exN]at hsz
   omega) h1 h2 (by omega)
 clear ih hsz
 refine FOk.walk (m:=31) (rs:=[.tmp 4]) follows Tryz.func293 (by kernel_rfl) rfl rfl rfl ?_
 conv in W _ _ _ _ _ _ _=>arg 4;whnf
 by_cases c1:k=k'
 ·by_cases c2:x=x'
  ·by_cases c3:y=y'
   ·refine xs8 gy0 hv.1 hv.2 hv'.1 hv'.2 c1 c2 c3 ?_;try exact⟨⟩
    refine CN_fok (go _ _ (by omega) (((Agr.refl _ _).set (by omega) _).set (by omega) _)) ?_
    rintro⟨u,M3,n3⟩ ⟨g1,g2,g3⟩
    simp only at g1 g2 g3
    subst g1
    refine xs2 gy0 @Ret.eq_1 ?_;try exact⟨⟩
    exact⟨by simp[exSame,c1,c2,c3],(((Agr.refl _ _).set (by omega) _).set (by omega) _).trans (g2.le (by omega)),by omega⟩
   ·refine xs9 gy0 hv.1 hv.2 hv'.1 hv'.2 c1 c2 c3 @Ret.eq_1 ?_;try exact⟨⟩
    exact⟨by simp[exSame,c3],((Agr.refl _ _).set (by omega) _).set (by omega) _,by omega⟩
  ·refine xs8 gy0 hv.1 hv.2 hv'.1 hv'.2 c1 c2 @Ret.eq_1 ?_;try exact⟨⟩
   exact⟨by simp[exSame,c2],((Agr.refl _ _).set (by omega) _).set (by omega) _,by omega⟩
 ·refine xs7 gy0 hv.1 hv.2 hv'.1 hv'.2 c1 @Ret.eq_1 ?_;try exact⟨⟩
  exact⟨by simp[exSame,c1],((Agr.refl _ _).set (by omega) _).set (by omega) _,by omega⟩
end Go.Xs
namespace Go.Xs
open Go.Proofs
set_option maxRecDepth 100000
set_option maxHeartbeats 4000000
def keepV (k t x w n v pk pa pb:Int) (pv ve:XV) (kind:Int):List XV :=
 if kind=2 then [.int .i64 0,.int .u64 0,.int .u64 x,.int .u64 w,.int .u64 n,.int .u64 0,.int .i64 0,.int .u64 0,.int .u64 0,.nils,.nils] else
 if kind=3 then [.int .i64 0,.int .u64 0,.int .u64 x,.int .u64 0,.int .u64 0,.int .u64 v,.int .i64 0,.int .u64 0,.int .u64 0,.nils,.nils] else
 if kind=4 then [.int .i64 0,.int .u64 0,.int .u64 x,.int .u64 0,.int .u64 0,.int .u64 0,.int .i64 0,.int .u64 0,.int .u64 0,.nils,.nils] else
 if kind=5 then [.int .i64 0,.int .u64 0,.int .u64 0,.int .u64 0,.int .u64 0,.int .u64 0,.int .i64 pk,.int .u64 pa,.int .u64 pb,pv,ve] else
 [.int .i64 0,.int .u64 0,.int .u64 0,.int .u64 0,.int .u64 0,.int .u64 0,.int .i64 0,.int .u64 0,.int .u64 0,.nils,.nils]
section
variable (ρ:Rho) {M:Hp} {nx:Nat} (k t x w n v pk pa pb:Int) (pv ve:XV) (hp:cellsOf pv=[pv]/\plain1 pv=true) (he:cellsOf ve=[ve]/\plain1 ve=true)
include hp he
theorem f113:FOk Tryz.prog ρ 113 [.agg [.int .i64 k,.int .u64 t,.int .u64 x,.int .u64 w,.int .u64 n,.int .u64 v,.int .i64 pk,.int .u64 pa,.int .u64 pb,pv,ve]] M nx (Ret nx M (.agg (keepV k t x w n v pk pa pb pv ve 1))):=by
 refine FOk.walk (m:=4) (rs:=[.cell 2 43]) follows Tryz.func113 (by kernel_rfl) rfl rfl rfl ?_
 conv in W _ _ _ _ _ _ _=>arg 4;whnf
 refine xs6 gy1 hp.1 hp.2 he.1 he.2 @Ret.eq_1 ?_;try exact⟨⟩
 exact⟨by simp[keepV],(((Agr.refl _ _).set (by omega) _).set (by omega) _).set (by omega) _,by omega⟩
theorem f162:FOk Tryz.prog ρ 162 [.agg [.int .i64 k,.int .u64 t,.int .u64 x,.int .u64 w,.int .u64 n,.int .u64 v,.int .i64 pk,.int .u64 pa,.int .u64 pb,pv,ve]] M nx (Ret nx M (.agg (keepV k t x w n v pk pa pb pv ve 2))):=by
 refine FOk.walk (m:=8) (rs:=[.cell 2 43]) follows Tryz.func162 (by kernel_rfl) rfl rfl rfl ?_
 conv in W _ _ _ _ _ _ _=>arg 4;whnf
 refine xs6 gy1 hp.1 hp.2 he.1 he.2 @Ret.eq_1 ?_;try exact⟨⟩
 exact⟨by simp[keepV],(((Agr.refl _ _).set (by omega) _).set (by omega) _).set (by omega) _,by omega⟩
theorem f172:FOk Tryz.prog ρ 172 [.agg [.int .i64 k,.int .u64 t,.int .u64 x,.int .u64 w,.int .u64 n,.int .u64 v,.int .i64 pk,.int .u64 pa,.int .u64 pb,pv,ve]] M nx (Ret nx M (.agg (keepV k t x w n v pk pa pb pv ve 3))):=by
 refine FOk.walk (m:=8) (rs:=[.cell 2 43]) follows Tryz.func172 (by kernel_rfl) rfl rfl rfl ?_
 conv in W _ _ _ _ _ _ _=>arg 4;whnf
 refine xs6 gy1 hp.1 hp.2 he.1 he.2 @Ret.eq_1 ?_;try exact⟨⟩
 exact⟨by simp[keepV],(((Agr.refl _ _).set (by omega) _).set (by omega) _).set (by omega) _,by omega⟩
theorem f177:FOk Tryz.prog ρ 177 [.agg [.int .i64 k,.int .u64 t,.int .u64 x,.int .u64 w,.int .u64 n,.int .u64 v,.int .i64 pk,.int .u64 pa,.int .u64 pb,pv,ve]] M nx (Ret nx M (.agg (keepV k t x w n v pk pa pb pv ve 4))):=by
 refine FOk.walk (m:=6) (rs:=[.cell 2 43]) follows Tryz.func177 (by kernel_rfl) rfl rfl rfl ?_
 conv in W _ _ _ _ _ _ _=>arg 4;whnf
 refine xs6 gy1 hp.1 hp.2 he.1 he.2 @Ret.eq_1 ?_;try exact⟨⟩
 exact⟨by simp[keepV],(((Agr.refl _ _).set (by omega) _).set (by omega) _).set (by omega) _,by omega⟩
theorem f182:FOk Tryz.prog ρ 182 [.agg [.int .i64 k,.int .u64 t,.int .u64 x,.int .u64 w,.int .u64 n,.int .u64 v,.int .i64 pk,.int .u64 pa,.int .u64 pb,pv,ve]] M nx (Ret nx M (.agg (keepV k t x w n v pk pa pb pv ve 5))):=by
 have p2:=hp.2
 have q2:=he.2
 have h1:(cellsOf ve).length=1:=by rw[he.1];rfl
 have h2:(cellsOf ve).all plain1=true:=by rw[he.1];simp[he.2]
 refine FOk.walk (m:=8) (rs:=[.cell 2 43]) follows Tryz.func182 (by kernel_rfl) rfl rfl rfl ?_
 conv in W _ _ _ _ _ _ _=>arg 4;whnf
 refine xs6 gy1 hp.1 hp.2 he.1 he.2 @Ret.eq_1 ?_;try exact⟨⟩
 exact⟨by simp[keepV],(((Agr.refl _ _).set (by omega) _).set (by omega) _).set (by omega) _,by omega⟩
end
def knV (s:List Nat) (kind:Int):List XV :=
 if kind=2 then [.str s,.fn (.func 162) [] [],.fn (.func 163) [] [],.fn (.func 165) [] [],.fn (.func 168) [] [],.fn (.func 170) [] []] else
 if kind=3 then [.str s,.fn (.func 172) [] [],.fn (.func 173) [] [],.fn (.func 174) [] [],.fn (.func 175) [] [],.fn (.func 176) [] []] else
 if kind=4 then [.str s,.fn (.func 177) [] [],.fn (.func 178) [] [],.fn (.func 179) [] [],.fn (.func 180) [] [],.fn (.func 181) [] []] else
 if kind=5 then [.str s,.fn (.func 182) [] [],.fn (.func 183) [] [],.fn (.func 188) [] [],.fn (.func 191) [] [],.fn (.func 194) [] []] else
 [.str s,.fn (.func 113) [] [],.fn (.func 114) [] [],.fn (.func 115) [] [],.fn (.func 116) [] [],.fn (.func 117) [] []]
section
variable (ρ:Rho) (M:Hp) (nx:Nat)
theorem f118 (s s0:List Nat) (tb:Nat) (hb:tb<nx) (hM:tget M tb=some (.row (knV s0 1))):FOk Tryz.prog ρ 118 [.str s,.mp tb 0] M nx (Ret nx M (.agg (knV s 1))):=by
 refine FOk.walk (m:=9) (rs:=[.cell 3 204]) follows Tryz.func118 (by kernel_rfl) rfl rfl rfl ?_
 conv in W _ _ _ _ _ _ _=>arg 4;whnf
 refine xs4 gy41 hM @knV.eq_1 @Ret.eq_1 ?_;try exact⟨⟩
 exact⟨(((((Agr.refl _ _).set (by omega) _).set (by omega) _).set (by omega) _).set (by omega) _).set (by omega) _,by omega⟩
theorem f119:FOk Tryz.prog ρ 119 [] M nx fun r=>∃s,Ret nx M (.agg (knV s 2)) r:=by
 refine FOk.walk (m:=2) (rs:=[.cell 0 204]) follows Tryz.func119 (by kernel_rfl) rfl rfl rfl ?_
 conv in W _ _ _ _ _ _ _=>arg 4;whnf
 refine xs3 gy41 @knV.eq_1 @Ret.eq_1 ?_;try exact⟨⟩
 exact⟨_,rfl,((Agr.refl _ _).set (by omega) _).set (by omega) _,by omega⟩
theorem f120:FOk Tryz.prog ρ 120 [] M nx fun r=>∃s,Ret nx M (.agg (knV s 3)) r:=by
 refine FOk.walk (m:=2) (rs:=[.cell 0 204]) follows Tryz.func120 (by kernel_rfl) rfl rfl rfl ?_
 conv in W _ _ _ _ _ _ _=>arg 4;whnf
 refine xs3 gy41 @knV.eq_1 @Ret.eq_1 ?_;try exact⟨⟩
 exact⟨_,rfl,((Agr.refl _ _).set (by omega) _).set (by omega) _,by omega⟩
theorem f121:FOk Tryz.prog ρ 121 [] M nx fun r=>∃s,Ret nx M (.agg (knV s 4)) r:=by
 refine FOk.walk (m:=2) (rs:=[.cell 0 204]) follows Tryz.func121 (by kernel_rfl) rfl rfl rfl ?_
 conv in W _ _ _ _ _ _ _=>arg 4;whnf
 refine xs3 gy41 @knV.eq_1 @Ret.eq_1 ?_;try exact⟨⟩
 exact⟨_,rfl,((Agr.refl _ _).set (by omega) _).set (by omega) _,by omega⟩
theorem f122:FOk Tryz.prog ρ 122 [] M nx fun r=>∃s,Ret nx M (.agg (knV s 5)) r:=by
 refine FOk.walk (m:=2) (rs:=[.cell 0 204]) follows Tryz.func122 (by kernel_rfl) rfl rfl rfl ?_
 conv in W _ _ _ _ _ _ _=>arg 4;whnf
 refine xs3 gy41 @knV.eq_1 @Ret.eq_1 ?_;try exact⟨⟩
 exact⟨_,rfl,((Agr.refl _ _).set (by omega) _).set (by omega) _,by omega⟩
end
def knT (ws:Nat->List Nat) (z:List Nat):List XV:=[.str z,.nilf,.nilf,.nilf,.nilf,.nilf]++knV (ws 1) 1++knV (ws 2) 2++knV (ws 3) 3++knV (ws 4) 4++knV (ws 5) 5++knV (ws 6) 6++knV (ws 7) 7
theorem knV_1a (s:List Nat):knV s 1=[.str s,.fn (.func 113) [] [],.fn (.func 114) [] [],.fn (.func 115) [] [],.fn (.func 116) [] [],.fn (.func 117) [] []]:=rfl
theorem knV_2a (s:List Nat):knV s 2=[.str s,.fn (.func 162) [] [],.fn (.func 163) [] [],.fn (.func 165) [] [],.fn (.func 168) [] [],.fn (.func 170) [] []]:=rfl
theorem knV_3a (s:List Nat):knV s 3=[.str s,.fn (.func 172) [] [],.fn (.func 173) [] [],.fn (.func 174) [] [],.fn (.func 175) [] [],.fn (.func 176) [] []]:=rfl
theorem knV_4a (s:List Nat):knV s 4=[.str s,.fn (.func 177) [] [],.fn (.func 178) [] [],.fn (.func 179) [] [],.fn (.func 180) [] [],.fn (.func 181) [] []]:=rfl
theorem knV_5a (s:List Nat):knV s 5=[.str s,.fn (.func 182) [] [],.fn (.func 183) [] [],.fn (.func 188) [] [],.fn (.func 191) [] [],.fn (.func 194) [] []]:=rfl
def kz:List XV:=[.str [],.nilf,.nilf,.nilf,.nilf,.nilf]
theorem f89 (ρ:Rho) (M:Hp) (nx:Nat):FOk Tryz.prog ρ 89 [] M nx fun r=>∃ws z,Ret nx M (.agg (knT ws z)) r:=by
 refine FOk.walk (m:=16) (rs:=[.cell 0 205]) follows Tryz.func89 (by kernel_rfl) rfl rfl rfl ?_
 conv in W _ _ _ _ _ _ _=>arg 4;whnf
 refine xs1 gy42 ?_;try exact⟨⟩
 generalize hM0:tset (tset (tset M _ _) _ _) _ _=M0
 obtain⟨zs,hzs⟩:∃zs,zs=kz++kz++kz++kz++kz++kz++kz++kz:=⟨_,rfl⟩
 have a0:Agr nx M M0:=by rw[<-hM0];exact(((Agr.refl _ _).set (by omega) _).set (by omega) _).set (by omega) _
 have t0:tget M0 (nx+2)=some (.row (knV [] 1)):=by rw[<-hM0,tget_tset,if_pos rfl];rfl
 have z0:tget M0 nx=some (.row zs):=by rw[<-hM0,tget_tset,if_neg (by omega),tget_tset,if_neg (by omega),tget_tset,if_pos rfl,hzs];rfl
 clear hM0
 refine CN_fok (f118 ρ _ _ _ [] (nx+2) (by omega) t0) ?_
 rintro⟨v,M1,n1⟩ ⟨g1,g2,g3⟩
 simp only at g1 g2 g3
 subst g1
 have a1:Agr nx M M1:=a0.trans (g2.le (by omega))
 have t1:tget M1 (nx+2)=some (.row (knV [] 1)):=by rw[g2 _ (by omega),t0]
 have z1:tget M1 nx=some (.row zs):=by rw[g2 _ (by omega),z0]
 clear g2 a0 t0 z0
 refine xs1 gy42 ?_;try exact⟨⟩
 refine CN_fok (f119 ρ _ _) ?_
 rintro⟨v,M2,n2⟩ ⟨s2,g1,g2,g3⟩
 simp only at g1 g2 g3
 subst g1
 have a2:Agr nx M M2:=a1.trans (g2.le (by omega))
 have t2:tget M2 (nx+2)=some (.row (knV [] 1)):=by rw[g2 _ (by omega),t1]
 have z2:tget M2 nx=some (.row zs):=by rw[g2 _ (by omega),z1]
 clear g2 a1 t1 z1
 refine xs1 gy42 ?_;try exact⟨⟩
 refine CN_fok (f120 ρ _ _) ?_
 rintro⟨v,M3,n3⟩ ⟨s3,g1,g2,g3⟩
 simp only at g1 g2 g3
 subst g1
 have a3:Agr nx M M3:=a2.trans (g2.le (by omega))
 have t3:tget M3 (nx+2)=some (.row (knV [] 1)):=by rw[g2 _ (by omega),t2]
 have z3:tget M3 nx=some (.row zs):=by rw[g2 _ (by omega),z2]
 clear g2 a2 t2 z2
 refine xs1 gy42 ?_;try exact⟨⟩
 refine CN_fok (f121 ρ _ _) ?_
 rintro⟨v,M4,n4⟩ ⟨s4,g1,g2,g3⟩
 simp only at g1 g2 g3
 subst g1
 have a4:Agr nx M M4:=a3.trans (g2.le (by omega))
 have t4:tget M4 (nx+2)=some (.row (knV [] 1)):=by rw[g2 _ (by omega),t3]
 have z4:tget M4 nx=some (.row zs):=by rw[g2 _ (by omega),z3]
 clear g2 a3 t3 z3
 refine xs1 gy42 ?_;try exact⟨⟩
 refine CN_fok (f122 ρ _ _) ?_
 rintro⟨v,M5,n5⟩ ⟨s5,g1,g2,g3⟩
 simp only at g1 g2 g3
 subst g1
 have a5:Agr nx M M5:=a4.trans (g2.le (by omega))
 have t5:tget M5 (nx+2)=some (.row (knV [] 1)):=by rw[g2 _ (by omega),t4]
 have z5:tget M5 nx=some (.row zs):=by rw[g2 _ (by omega),z4]
 clear g2 a4 t4 z4
 refine xs1 gy42 ?_;try exact⟨⟩
 refine CN_fok (f118 ρ _ _ _ [] (nx+2) (by omega) t5) ?_
 rintro⟨v,M6,n6⟩ ⟨g1,g2,g3⟩
 simp only at g1 g2 g3
 subst g1
 have a6:Agr nx M M6:=a5.trans (g2.le (by omega))
 have t6:tget M6 (nx+2)=some (.row (knV [] 1)):=by rw[g2 _ (by omega),t5]
 have z6:tget M6 nx=some (.row zs):=by rw[g2 _ (by omega),z5]
 clear g2 a5 t5 z5
 refine xs1 gy42 ?_;try exact⟨⟩
 refine CN_fok (f118 ρ _ _ _ [] (nx+2) (by omega) t6) ?_
 rintro⟨v,M7,n7⟩ ⟨g1,g2,g3⟩
 simp only at g1 g2 g3
 subst g1
 have a7:Agr nx M M7:=a6.trans (g2.le (by omega))
 have t7:tget M7 (nx+2)=some (.row (knV [] 1)):=by rw[g2 _ (by omega),t6]
 have z7:tget M7 nx=some (.row zs):=by rw[g2 _ (by omega),z6]
 clear g2 a6 t6 z6
 subst hzs
 refine xs8 gy42 z7 @kz.eq_1 @knV_1a @knV_2a @knV_3a @knV_4a @knV_5a ?_;try exact⟨⟩
 refine⟨fun q=>if q=1 then [98,101,103,105,110] else if q=2 then s2 else if q=3 then s3 else if q=4 then s4 else if q=5 then s5 else if q=6 then [99,111,109,109,105,116] else [97,98,111,114,116],[],rfl,a7.set (by omega) _,by simp only;omega⟩
end Go.Xs
namespace Go.Xs
open Go.Proofs
set_option maxRecDepth 100000
set_option maxHeartbeats 4000000
theorem f249 (ρ:Rho) (M:Hp) (nx:Nat) (k:Int) (h0:1<=k) (h1:k<=7):FOk Tryz.prog ρ 249 [.int .i64 k] M nx fun r=>∃s,Ret nx M (.tup [.agg (knV s k),.bool true]) r:=by
 refine FOk.walk (m:=14) (rs:=[.cell 2 204,.tmp 3]) follows Tryz.func249 (by kernel_rfl) rfl rfl rfl ?_
 conv in W _ _ _ _ _ _ _=>arg 4;whnf
 have c1:¬ k<1:=by omega
 have c2:¬ 7<k:=by omega
 refine xs3 gy43 c1 c2 ?_;try exact⟨⟩
 refine CN_fok (f89 ρ _ _) ?_
 rintro⟨v,M',nx'⟩ ⟨ws,z,g1,g2,g3⟩
 simp only at g1 g2 g3
 subst g1
 obtain⟨j,rfl,j1,j2⟩:∃j:Nat,k=j/\1<=j/\j<=7:=⟨k.toNat,by omega,by omega,by omega⟩
 have hoc:ocC (some (6,true)) ((knT ws z).drop ((j:Int).toNat*6))=some (.agg (knV (ws j) j)):=by
  have:j=1\/j=2\/j=3\/j=4\/j=5\/j=6\/j=7:=by omega
  rcases this with rfl | rfl | rfl | rfl | rfl | rfl | rfl<;>rfl
 have hM:tget M' nx=some (.row [.str [],.nilf,.nilf,.nilf,.nilf,.nilf]):=by rw[g2 nx (by omega),tget_tset,if_pos rfl]
 have ha:Agr nx M M':=((Agr.refl nx M).set (Nat.le_refl _) _).trans (g2.le (by omega))
 clear g2
 generalize hs:ws j=s at hoc
 have e1:∃a b c d e,knV s j=[.str s,.fn (.func a) [] [],.fn (.func b) [] [],.fn (.func c) [] [],.fn (.func d) [] [],.fn (.func e) [] []]:=by
  have:j=1\/j=2\/j=3\/j=4\/j=5\/j=6\/j=7:=by omega
  rcases this with rfl | rfl | rfl | rfl | rfl | rfl | rfl<;>exact⟨_,_,_,_,_,rfl⟩
 obtain⟨a,b,c,d,e,e1⟩:=e1
 rw[e1]at hoc
 refine xs3 gy43 hoc hM ?_;try exact⟨⟩
 exact⟨s,by rw[e1],ha.set (by omega) _,by simp only;omega⟩
theorem f249n (ρ:Rho) (M:Hp) (nx:Nat) (k:Int) (h:¬ (1<=k/\k<=7)):FOk Tryz.prog ρ 249 [.int .i64 k] M nx (Ret nx M (.tup [.agg [.str [],.nilf,.nilf,.nilf,.nilf,.nilf],.bool false])):=by
 refine FOk.walk (m:=14) (rs:=[.cell 2 204,.tmp 3]) follows Tryz.func249 (by kernel_rfl) rfl rfl rfl ?_
 conv in W _ _ _ _ _ _ _=>arg 4;whnf
 by_cases c1:k<1
 ·refine xs3 gy43 c1 @Ret.eq_1 ?_;try exact⟨⟩
  exact⟨((Agr.refl _ _).set (by omega) _).set (by omega) _,by omega⟩
 ·have c2:7<k:=by omega
  refine xs4 gy43 c1 c2 @Ret.eq_1 ?_;try exact⟨⟩
  exact⟨((Agr.refl _ _).set (by omega) _).set (by omega) _,by omega⟩
end Go.Xs
namespace Go.Xs
open Go.Proofs
set_option maxRecDepth 100000
set_option maxHeartbeats 4000000
def recSame (r s:Rec):Bool :=
 decide (r.kind=s.kind)&&(decide (r.t=s.t)&&(decide (r.x=s.x)&&((decide (r.w=s.w)&&decide (r.n=s.n))&&(decide (r.v=s.v)&&(exSame r.p s.p&&ensEq r.es s.es)))))
theorem f250 (ρ:Rho) {r r':Rec} {M:Hp} {nx b:Nat} {cs cs':List XV} (hr:RecAt M b r cs) (hr':RecAt M b r' cs') (hb:b<=nx):FOk Tryz.prog ρ 250 [.agg cs,.agg cs'] M nx (Ret nx M (.bool (recSame r r'))):=by
 obtain⟨pk,pa,pb,pv,ve,rfl,⟨p1,p2⟩,⟨q1,q2⟩,hes,hex⟩:=hr.cells
 obtain⟨pk',pa',pb',pv',ve',rfl,⟨p1',p2'⟩,⟨q1',q2'⟩,hes',hex'⟩:=hr'.cells
 clear hr hr'
 have fin:∀{c:Bool},recSame r r'=c->∀(M1:Hp) (n1:Nat),Agr nx M M1->nx<=n1->Ret nx M (.bool (recSame r r')) (.bool c,M1,n1):=fun h M1 n1 h1 h2=>by rw[h];exact .mk h1 h2
 refine FOk.walk (m:=52) (rs:=[.tmp 4]) follows Tryz.func250 (by kernel_rfl) rfl rfl rfl ?_
 conv in W _ _ _ _ _ _ _=>arg 4;whnf
 by_cases c1:r.kind=r'.kind
 case neg =>
  refine xs10 gy1 p1 p2 q1 q2 p1' p2' q1' q2' c1 ?_;try exact⟨⟩
  exact fin (by simp[recSame,c1]) _ _ (((Agr.refl _ _).set (by omega) _).set (by omega) _) (by omega)
 by_cases c2:r.t=r'.t
 case neg =>
  refine xs11 gy1 p1 p2 q1 q2 p1' p2' q1' q2' c1 c2 ?_;try exact⟨⟩
  exact fin (by simp[recSame,c2]) _ _ (((Agr.refl _ _).set (by omega) _).set (by omega) _) (by omega)
 by_cases c3:r.x=r'.x
 case neg =>
  refine xs12 gy1 p1 p2 q1 q2 p1' p2' q1' q2' c1 c2 c3 ?_;try exact⟨⟩
  exact fin (by simp[recSame,c3]) _ _ (((Agr.refl _ _).set (by omega) _).set (by omega) _) (by omega)
 cases c4:(decide (r.w=r'.w)&&decide (r.n=r'.n)) with
 | false =>
   refine xs13 gy1 p1 p2 q1 q2 p1' p2' q1' q2' c1 c2 c3 c4 ?_;try exact⟨⟩
   exact fin (by simp only[recSame,c4];simp) _ _ (((Agr.refl _ _).set (by omega) _).set (by omega) _) (by omega)
 | true =>
   by_cases c5:r.v=r'.v
   case neg =>
    refine xs14 gy1 p1 p2 q1 q2 p1' p2' q1' q2' c1 c2 c3 c4 c5 ?_;try exact⟨⟩
    exact fin (by simp[recSame,c5]) _ _ (((Agr.refl _ _).set (by omega) _).set (by omega) _) (by omega)
   have hall:recSame r r'=(exSame r.p r'.p&&ensEq r.es r'.es):=by simp only[recSame,c1,c2,c3,c4,c5,decide_true,Bool.true_and]
   refine xs14 gy1 p1 p2 q1 q2 p1' p2' q1' q2' c1 c2 c3 c4 c5 ?_;try exact⟨⟩
   generalize hM1:tset (tset M _ _) _ _=M1
   have a1:Agr nx M M1:=by rw[<-hM1];exact((Agr.refl _ _).set (by omega) _).set (by omega) _
   have z1:tget M1 nx=some (.row [.int .i64 r'.kind,.int .u64 r'.t,.int .u64 r'.x,.int .u64 r.w,.int .u64 r.n,.int .u64 r'.v,.int .i64 pk,.int .u64 pa,.int .u64 pb,pv,ve]):=by
    rw[<-hM1,tget_tset,if_neg (by omega),tget_tset,if_pos rfl]
   have z2:tget M1 (nx+1)=some (.row [.int .i64 r'.kind,.int .u64 r'.t,.int .u64 r'.x,.int .u64 r'.w,.int .u64 r'.n,.int .u64 r'.v,.int .i64 pk',.int .u64 pa',.int .u64 pb',pv',ve']):=by
    rw[<-hM1,tget_tset,if_pos rfl]
   clear hM1
   refine CN_fok (f293 ρ _ _ _ _ _ b _ _ (Nat.lt_succ_self _) (hex.agr (a1.le hb)) (hex'.agr (a1.le hb)) (by omega)) ?_
   rintro⟨u,M2,n2⟩ ⟨g1,g2,g3⟩
   simp only at g1 g2 g3
   subst g1
   have a2:Agr nx M M2:=a1.trans (g2.le (by omega))
   have y1:=(g2 nx (by omega)).trans z1
   have y2:=(g2 (nx+1) (by omega)).trans z2
   clear g2 z1 z2 a1
   cases h5:exSame r.p r'.p with
   | false =>
     refine xs2 gy1 h5 ?_;try exact⟨⟩
     exact fin (by rw[hall,h5];rfl) _ _ a2 (by omega)
   | true =>
     refine xs4 gy1 h5 y1 y2 ?_;try exact⟨⟩
     refine CN_fok (f294 ρ (SlAt.agr hes (a2.le hb)) (SlAt.agr hes' (a2.le hb)) (by omega)) ?_
     rintro⟨u,M3,n3⟩ ⟨g1,g2,g3⟩
     simp only at g1 g2 g3
     subst g1
     refine xs1 gy1 ?_;try exact⟨⟩
     exact fin (by rw[hall,h5];rfl) _ _ (a2.trans (g2.le (by omega))) (by omega)
end Go.Xs
namespace Go.Xs
open Go.Proofs
set_option maxRecDepth 100000
set_option maxHeartbeats 4000000
def ex0:Ex:=.mk 0 0 0 []
def keepR (r:Rec):Rec :=
 if r.kind=2 then ⟨r.kind,r.t,r.x,r.w,r.n,0,ex0,[]⟩ else if r.kind=3 then ⟨r.kind,r.t,r.x,0,0,r.v,ex0,[]⟩ else if r.kind=4 then ⟨r.kind,r.t,r.x,0,0,0,ex0,[]⟩ else
 if r.kind=5 then ⟨r.kind,r.t,0,0,0,0,r.p,r.es⟩ else ⟨r.kind,r.t,0,0,0,0,ex0,[]⟩
def recRight (r:Rec):Bool:=decide (1<=r.kind)&&(decide (r.kind<=7)&&(!(decide (r.kind=5) && !(exRight r.p))&&recSame r (keepR r)))
theorem at0 (M:Hp) (b:Nat):ExAt M b ex0 [.int .i64 0,.int .u64 0,.int .u64 0,.nils]/\EnsAt M b .nils []:=by
 refine⟨?_,?_⟩
 ·simp only[ex0,ExAt]
  exact⟨.nils,[],rfl,⟨by simp,.inl ⟨rfl,rfl,rfl⟩⟩,by simp only[ExsAt]⟩
 ·exact⟨by simp,.inl ⟨rfl,rfl,rfl⟩⟩
theorem keep_all (ρ:Rho) (r:Rec) (s:List Nat) (pk pa pb:Int) (pv ve:XV) (hp:cellsOf pv=[pv]/\plain1 pv=true) (he:cellsOf ve=[ve]/\plain1 ve=true) (h1:1<=r.kind) (h7:r.kind<=7) :
 ∃(g g2 g3 g4 g5:Nat) (lx lw ln lv lpk lpa lpb:Int) (lpv lve:XV),knV s r.kind=[.str s,.fn (.func g) [] [],.fn (.func g2) [] [],.fn (.func g3) [] [],.fn (.func g4) [] [],.fn (.func g5) [] []] /\
  (∀(M':Hp) (nx':Nat),FOk Tryz.prog ρ g [.agg [.int .i64 r.kind,.int .u64 r.t,.int .u64 r.x,.int .u64 r.w,.int .u64 r.n,.int .u64 r.v,.int .i64 pk,.int .u64 pa,.int .u64 pb,pv,ve]] M' nx'
   (Ret nx' M' (.agg [.int .i64 0,.int .u64 0,.int .u64 lx,.int .u64 lw,.int .u64 ln,.int .u64 lv,.int .i64 lpk,.int .u64 lpa,.int .u64 lpb,lpv,lve]))) /\
  (cellsOf lpv=[lpv]/\plain1 lpv=true)/\(cellsOf lve=[lve]/\plain1 lve=true) /\
  ∀(M':Hp) (b':Nat),ExAt M' b' r.p [.int .i64 pk,.int .u64 pa,.int .u64 pb,pv]->EnsAt M' b' ve r.es->RecAt M' b' (keepR r) [.int .i64 r.kind,.int .u64 r.t,.int .u64 lx,.int .u64 lw,.int .u64 ln,.int .u64 lv,.int .i64 lpk,.int .u64 lpa,.int .u64 lpb,lpv,lve]:=by
 obtain⟨kind,t,x,w,n,v,p,es⟩:=r
 simp only at h1 h7 ⊢
 have hn:cellsOf XV.nils=[.nils]/\plain1 .nils=true:=⟨rfl,rfl⟩
 have:kind=1\/kind=2\/kind=3\/kind=4\/kind=5\/kind=6\/kind=7:=by omega
 rcases this with rfl | rfl | rfl | rfl | rfl | rfl | rfl
 ·exact⟨_,_,_,_,_,_,_,_,_,_,_,_,_,_,rfl,fun M' nx'=>f113 ρ 1 t x w n v pk pa pb pv ve hp he,hn,hn,fun M' b' _ _=>⟨_,_,rfl,(at0 M' b').1,(at0 M' b').2⟩⟩
 ·exact⟨_,_,_,_,_,_,_,_,_,_,_,_,_,_,rfl,fun M' nx'=>f162 ρ 2 t x w n v pk pa pb pv ve hp he,hn,hn,fun M' b' _ _=>⟨_,_,rfl,(at0 M' b').1,(at0 M' b').2⟩⟩
 ·exact⟨_,_,_,_,_,_,_,_,_,_,_,_,_,_,rfl,fun M' nx'=>f172 ρ 3 t x w n v pk pa pb pv ve hp he,hn,hn,fun M' b' _ _=>⟨_,_,rfl,(at0 M' b').1,(at0 M' b').2⟩⟩
 ·exact⟨_,_,_,_,_,_,_,_,_,_,_,_,_,_,rfl,fun M' nx'=>f177 ρ 4 t x w n v pk pa pb pv ve hp he,hn,hn,fun M' b' _ _=>⟨_,_,rfl,(at0 M' b').1,(at0 M' b').2⟩⟩
 ·exact⟨_,_,_,_,_,_,_,_,_,_,_,_,_,_,rfl,fun M' nx'=>f182 ρ 5 t x w n v pk pa pb pv ve hp he,hp,he,fun M' b' h h'=>⟨_,_,rfl,h,h'⟩⟩
 ·exact⟨_,_,_,_,_,_,_,_,_,_,_,_,_,_,rfl,fun M' nx'=>f113 ρ 6 t x w n v pk pa pb pv ve hp he,hn,hn,fun M' b' _ _=>⟨_,_,rfl,(at0 M' b').1,(at0 M' b').2⟩⟩
 ·exact⟨_,_,_,_,_,_,_,_,_,_,_,_,_,_,rfl,fun M' nx'=>f113 ρ 7 t x w n v pk pa pb pv ve hp he,hn,hn,fun M' b' _ _=>⟨_,_,rfl,(at0 M' b').1,(at0 M' b').2⟩⟩
theorem f200 (ρ:Rho) {r:Rec} {M:Hp} {nx b:Nat} {cs:List XV} (hr:RecAt M b r cs) (hb:b<=nx) (hc:exN r.p<=1000):FOk Tryz.prog ρ 200 [.agg cs] M nx (Ret nx M (.bool (recRight r))):=by
 obtain⟨pk,pa,pb,pv,ve,rfl,⟨p1,p2⟩,⟨q1,q2⟩,hes,hex⟩:=hr.cells
 have fin:∀{c:Bool},recRight r=c->∀(M1:Hp) (n1:Nat),Agr nx M M1->nx<=n1->Ret nx M (.bool (recRight r)) (.bool c,M1,n1):=fun h M1 n1 h1 h2=>by rw[h];exact .mk h1 h2
 refine FOk.walk (m:=38) (rs:=[.tmp 2]) follows Tryz.func200 (by kernel_rfl) rfl rfl rfl ?_
 conv in W _ _ _ _ _ _ _=>arg 4;whnf
 by_cases hk:1<=r.kind/\r.kind<=7
 case neg =>
  refine xs5 gy44 p1 p2 q1 q2 ?_;try exact⟨⟩
  refine CN_fok (f249n ρ _ _ _ hk) ?_
  rintro⟨u,M2,n2⟩ ⟨g1,g2,g3⟩
  simp only at g1 g2 g3
  subst g1
  refine xs1 gy44 ?_;try exact⟨⟩
  refine fin ?_ _ _ (((((Agr.refl _ _).set (by omega) _).trans (g2.le (by omega))).set (by omega) _).set (by omega) _) (by omega)
  by_cases h1:1<=r.kind
  ·have:¬ r.kind<=7:=by omega
   simp[recRight,this]
  ·simp[recRight,h1]
 obtain⟨hk1,hk7⟩:=hk
 refine xs5 gy44 p1 p2 q1 q2 ?_;try exact⟨⟩
 generalize hM1:tset M nx _=M1
 have a1:Agr nx M M1:=by rw[<-hM1];exact(Agr.refl _ _).set (by omega) _
 have z1:tget M1 nx=some (.row [.int .i64 r.kind,.int .u64 r.t,.int .u64 r.x,.int .u64 r.w,.int .u64 r.n,.int .u64 r.v,.int .i64 pk,.int .u64 pa,.int .u64 pb,pv,ve]):=by rw[<-hM1,tget_tset,if_pos rfl]
 clear hM1
 refine CN_fok (f249 ρ _ _ _ hk1 hk7) ?_
 rintro⟨u,M2,n2⟩ ⟨s,g1,g2,g3⟩
 simp only at g1 g2 g3
 subst g1
 have a2:Agr nx M M2:=a1.trans (g2.le (by omega))
 have z2:=(g2 nx (by omega)).trans z1
 clear g2 z1 a1
 obtain⟨g,g2,g3',g4,g5,lx,lw,ln,lv,lpk,lpa,lpb,lpv,lve,hkn,hg,⟨l1,l2⟩,⟨m1,m2⟩,hkeep⟩:=keep_all ρ r s pk pa pb pv ve ⟨p1,p2⟩ ⟨q1,q2⟩ hk1 hk7
 rw[hkn]
 have z3:∀(o o':XObj),tget (tset (tset M2 (n2+3) o) (n2+3) o') nx=tget M2 nx:=fun o o'=>by rw[tget_tset,if_neg (by omega),tget_tset,if_neg (by omega)]
 have a3:∀(o o':XObj),Agr nx M (tset (tset M2 (n2+3) o) (n2+3) o'):=fun o o'=>(a2.set (by omega) _).set (by omega) _
 by_cases h5:r.kind=5
 ·refine xs3 gy44 z2 (eq_true h5) ?_;try exact⟨⟩
  refine CN_fok (f230 ρ (hex.agr ((a3 _ _).le hb)) (by omega) hc) ?_
  rintro⟨u,M3,n3⟩ ⟨g1,e2,e3⟩
  simp only at g1 e2 e3
  subst g1
  have x1:=(e2 nx (by omega)).trans ((z3 _ _).trans z2)
  have x3:tget M3 (n2+3)=some (.row [.str s,.fn (.func g) [] [],.fn (.func g2) [] [],.fn (.func g3') [] [],.fn (.func g4) [] [],.fn (.func g5) [] []]):=(e2 (n2+3) (by omega)).trans (by rw[tget_tset,if_pos rfl])
  have b3:Agr nx M M3:=(a3 _ _).trans (e2.le (by omega))
  clear e2
  cases hx:exRight r.p with
  | false =>
    refine xs2 gy44 hx ?_;try exact⟨⟩
    exact fin (by simp[recRight,h5,hx]) _ _ b3 (by omega)
  | true =>
    refine xs4 gy44 hx x1 x3 ?_;try exact⟨⟩
    refine CN_fok (hg _ _) ?_
    rintro⟨u,M4,n4⟩ ⟨g1,e2,e3⟩
    simp only at g1 e2 e3
    subst g1
    have y1:=(e2 nx (by omega)).trans x1
    have a4:Agr nx M M4:=b3.trans (e2.le (by omega))
    clear e2
    refine xs6 gy44 y1 l1 l2 m1 m2 ?_;try exact⟨⟩
    refine⟨okP2_ap _ _ _ _ _ _ (by simp<;>omega) (by simp<;>omega) (by simp<;>omega),?_⟩
    generalize hM5:tset (tset (tset (tset M4 _ _) _ _) _ _) _ _=M5
    have a5:Agr nx M M5:=by rw[<-hM5];exact(((a4.set (by omega) _).set (by omega) _).set (by omega) _).set (by omega) _
    clear hM5 y1 a4
    refine CN_fok (f250 ρ (hr.agr (a5.le hb)) (hkeep M5 b (hex.agr (a5.le hb)) (SlAt.agr hes (a5.le hb))) (by omega)) ?_
    rintro⟨u,M6,n6⟩ ⟨g1,e2,e3⟩
    simp only at g1 e2 e3
    subst g1
    refine xs1 gy44 ?_;try exact⟨⟩
    exact fin (by simp[recRight,hk1,hk7,h5,hx]) _ _ (a5.trans (e2.le (by omega))) (by omega)
 ·refine xs3 gy44 z2 h5 ?_;try exact⟨⟩
  refine CN_fok (hg _ _) ?_
  rintro⟨u,M4,n4⟩ ⟨g1,e2,e3⟩
  simp only at g1 e2 e3
  subst g1
  have y1:=(e2 nx (by omega)).trans ((z3 _ _).trans z2)
  have a4:Agr nx M M4:=(a3 _ _).trans (e2.le (by omega))
  clear e2
  refine xs6 gy44 y1 l1 l2 m1 m2 ?_;try exact⟨⟩
  refine⟨okP2_ap _ _ _ _ _ _ (by simp<;>omega) (by simp<;>omega) (by simp<;>omega),?_⟩
  generalize hM5:tset (tset (tset (tset M4 _ _) _ _) _ _) _ _=M5
  have a5:Agr nx M M5:=by rw[<-hM5];exact(((a4.set (by omega) _).set (by omega) _).set (by omega) _).set (by omega) _
  clear hM5 y1 a4
  refine CN_fok (f250 ρ (hr.agr (a5.le hb)) (hkeep M5 b (hex.agr (a5.le hb)) (SlAt.agr hes (a5.le hb))) (by omega)) ?_
  rintro⟨u,M6,n6⟩ ⟨g1,e2,e3⟩
  simp only at g1 e2 e3
  subst g1
  refine xs1 gy44 ?_;try exact⟨⟩
  exact fin (by simp[recRight,hk1,hk7,h5]) _ _ (a5.trans (e2.le (by omega))) (by omega)
end Go.Xs
namespace Go.Xs
open Go.Proofs
set_option maxRecDepth 100000
set_option maxHeartbeats 4000000
theorem f126 (ρ:Rho) {r:Rec} {M:Hp} {nx b:Nat} {cs:List XV} {m:XV} (hr:RecAt M b r cs) (hb:b<=nx) (hc:exN r.p<=1000):FOk Tryz.prog ρ 126 [m,.agg cs] M nx (Ret nx M (.bool (recRight r))):=by
 obtain⟨pk,pa,pb,pv,ve,rfl,⟨p1,p2⟩,⟨q1,q2⟩,_,_⟩:=hr.cells
 refine FOk.walk (m:=7) (rs:=[.tmp 4]) follows Tryz.func126 (by kernel_rfl) rfl rfl rfl ?_
 conv in W _ _ _ _ _ _ _=>arg 4;whnf
 refine xs5 gy1 p1 p2 q1 q2 ?_;try exact⟨⟩
 have a1:=fun o=>(Agr.refl nx M).set (Nat.le_refl nx) o
 refine CN_fok (f200 ρ (hr.agr ((a1 _).le hb)) (by omega) hc) ?_
 rintro⟨u,M2,n2⟩ ⟨g1,g2,g3⟩
 simp only at g1 g2 g3
 subst g1
 refine xs2 gy1 @Ret.eq_1 ?_;try exact⟨⟩
 exact⟨(a1 _).trans (g2.le (by omega)),by omega⟩
theorem SlAt.fld {P:Program} {M:Hp} {b:Nat} {v:XV} {sz len:Nat} {row:List XV} (h:SlAt M b v sz len row) {i:Nat} (hi:i<len) {t:Nat} (ht:es P t=some sz) :
 ∃n o,n<b/\(∀k,indexAddrX P t v (.int k (i:Int))=some (.mp n o))/\∀(j:Nat) (x:XV),j<sz->((row.drop (i*sz)).take sz)[j]?=some x->∀(t' m:Nat),sa P t'=some (m,false)->∀N,Agr b M N->loadX P N t' (.mp n (o+j))=some ⟨x,[n],[]⟩:=by
 obtain⟨n,o,h1,h2,cs,h3,h4,h5⟩:=h.at hi ht
 refine⟨n,o,h1,h2,fun j x hj hx t' m ht' N hN=>?_⟩
 refine load_hrd1 (hrd_agr h3 hN h1) ht' ?_
 rw[h4,List.getElem?_take,if_pos hj,List.getElem?_drop]at hx
 exact hx
def riseS:List En->Bool
 | a::c::l=>decide (a.x<c.x)&&riseS (c::l)
 | _=>true
theorem rise_step {l:List En} {i:Nat} {a c:En} (h:l[i]?=some a) (h':l[i+1]?=some c):riseS (l.drop i)=(decide (a.x<c.x)&&riseS (l.drop (i+1))):=by
 obtain⟨h1,rfl⟩:=List.getElem?_eq_some_iff.1 h
 obtain⟨h2,rfl⟩:=List.getElem?_eq_some_iff.1 h'
 rw[List.drop_eq_getElem_cons h1,List.drop_eq_getElem_cons h2]
 rfl
theorem f133 (ρ:Rho) {r:Rec} {M:Hp} {nx b:Nat} {cs:List XV} {m:XV} (hr:RecAt M b r cs) (hb:b<=nx):FOk Tryz.prog ρ 133 [m,.agg cs] M nx (Ret nx M (.bool (riseS r.es))):=by
 obtain⟨pk,pa,pb,pv,ve,rfl,⟨p1,p2⟩,⟨q1,q2⟩,hes,_⟩:=hr.cells
 clear hr
 unfold EnsAt at hes
 have hlen:=fun N=>hes.len (P:=Tryz.prog) (t:=41) ty41.2.2.2.2.2 N
 have hz:=hes.1
 refine FOk.walk (m:=27) (rs:=[.tmp 4]) follows Tryz.func133 (by kernel_rfl) rfl rfl rfl ?_
 conv in W _ _ _ _ _ _ _=>arg 4;whnf
 refine xs5 gy45 p1 p2 q1 q2 ?_;try exact⟨⟩
 refine W_loop (fun m s=>∃i:Nat,m=r.es.length - i/\(i<r.es.length\/i=0)/\riseS (r.es.drop i)=riseS r.es/\tget s.env 3=some (.mp nx 0)/\tget s.env 5=some (.int .i64 ((i+1:Nat):Int)) /\
  tget s.M nx=some (.row [.int .i64 r.kind,.int .u64 r.t,.int .u64 r.x,.int .u64 r.w,.int .u64 r.n,.int .u64 r.v,.int .i64 pk,.int .u64 pa,.int .u64 pb,pv,ve])/\Agr nx M s.M/\nx<=s.nx)
  r.es.length ⟨0,by omega,by omega,by simp,?_⟩ ?_
 ·refine xs1 gy45 ?_;try exact⟨⟩
  exact⟨(Agr.refl _ _).set (by omega) _,by omega⟩
 ·rintro m ⟨env,M',nx'⟩ ⟨i,hm,hi,hid,e3,e5,hM,ha,hn⟩
  simp only at e3 e5 hM ha hn
  by_cases hlt:((i+1:Nat):Int)<r.es.length
  ·have h1:i<r.es.length:=by omega
   have h2:i+1<r.es.length:=by omega
   obtain⟨a,hea⟩:∃e,r.es[i]?=some e:=⟨r.es[i],by simp[h1]⟩
   obtain⟨c,hec⟩:∃e,r.es[i+1]?=some e:=⟨r.es[i+1],by simp[h2]⟩
   obtain⟨n,o,hnb,hix,hld⟩:=hes.fld (P:=Tryz.prog) h1 (t:=41) ty41.2.2.2.1
   obtain⟨n2,o2,hnb2,hix2,hld2⟩:=hes.fld (P:=Tryz.prog) h2 (t:=41) ty41.2.2.2.1
   have g1:=hld 0 (.int .u64 a.x) (by omega) (by rw[ens_row _ i a hea];rfl) 23 1 ty23.1 M' (ha.le hb)
   have g2:=hld2 0 (.int .u64 c.x) (by omega) (by rw[ens_row _ (i+1) c hec];rfl) 23 1 ty23.1 M' (ha.le hb)
   rw[Nat.add_zero]at g1 g2
   have hw1:IntKind.i64.wrap (((i+1:Nat):Int) - 1)=(i:Int):=by rw[wrap_i64 (by omega) (by omega)];omega
   have hw2:IntKind.i64.wrap (((i+1:Nat):Int)+1)=((i+1+1:Nat):Int):=by rw[wrap_i64 (by omega) (by omega)];omega
   have hst:=rise_step hea hec
   clear hld hld2
   by_cases hq:c.x<=a.x
   ·refine xs13 gy45 e3 e5 hM hlen hlt hix hix2 g1 g2 hw1 hq @Ret.eq_1 ?_;try exact⟨⟩
    refine⟨?_,ha,by omega⟩
    have:¬ a.x<c.x:=by omega
    rw[<-hid,hst]
    simp[this]
   ·refine xs13 gy45 e3 e5 hM hlen hlt hix hix2 g1 g2 hw1 hw2 hq ?_;try exact⟨⟩
    refine⟨r.es.length - (i+1),by omega,i+1,rfl,by omega,?_,rfl,ha,by omega⟩
    have:a.x<c.x:=by omega
    rw[<-hid,hst]
    simp[this]
  ·refine xs7 gy45 e3 e5 hM hlen hlt @Ret.eq_1 ?_;try exact⟨⟩
   refine⟨?_,ha,by omega⟩
   rw[<-hid]
   by_cases h0:i<r.es.length
   ·rw[List.drop_eq_getElem_cons h0,List.drop_eq_nil_of_le (by omega)]
    rfl
   ·rw[List.drop_eq_nil_of_le (by omega)]
    rfl
end Go.Xs
namespace Go.Xs
open Go.Proofs
set_option maxRecDepth 100000
set_option maxHeartbeats 4000000
def matchS (l:List Rec) (p:Ex) (x w n:Int):Bool:=match madeS l x w n with | some d=>!d.dead&&holdsS p x d.v | none=>false
def matchesS (l:List Rec) (r:Rec):Bool:=r.es.all fun e=>e.m==matchS l r.p e.x e.w e.n
theorem f210 (ρ:Rho) {e:Ex} {M:Hp} {nx b lo hi m:Nat} {l:List Rec} {cs:List XV} (he:ExAt M b e cs) (hb:b<=nx) (hc:exN e<=1000) (hpos:exPos e) (h:MachAt M lo hi m l) (hh:hi<=nx) (x w n:Int) :
 FOk Tryz.prog ρ 210 [.mp m 0,.agg cs,.int .u64 x,.agg [.int .u64 w,.int .u64 n]] M nx (Ret nx M (.bool (matchS l e x w n))):=by
 have he0:=he
 obtain⟨k,p,q,ps⟩:=e
 simp only[ExAt]at he0
 obtain⟨pv,row,rfl,hsl,hps⟩:=he0
 have hv:=hsl.cell
 refine FOk.walk (m:=32) (rs:=[.tmp 8]) follows Tryz.func210 (by kernel_rfl) rfl rfl rfl ?_
 conv in W _ _ _ _ _ _ _=>arg 4;whnf
 refine xs3 gy46 hv.1 hv.2 ?_;try exact⟨⟩
 generalize hM1:tset (tset M nx (XObj.row [XV.int IntKind.i64 k,XV.int IntKind.u64 p,XV.int IntKind.u64 q,pv])) (nx+1) (XObj.row [XV.int IntKind.u64 w,XV.int IntKind.u64 n])=M1
 have a1:Agr nx M M1:=by rw[<-hM1];exact(by(repeat (refine Agr.set ?_ (by omega) _));exact Agr.refl _ _)
 have m1:tget M1 nx=some (.row [.int .i64 k,.int .u64 p,.int .u64 q,pv]):=by rw[<-hM1];simp[tget_tset]
 clear hM1
 refine CN_fok (f251 ρ (h.agr (a1.le hh) (Nat.le_refl _)) (by omega) x w n) ?_
 rintro⟨u,M2,n2⟩ ⟨g1,g2,g3⟩
 simp only at g1 g2 g3
 subst g1
 have a2:=a1.trans (g2.le (by omega))
 have y:=(g2 nx (by omega)).trans m1
 cases hm:madeS l x w n with
 | none =>
   simp (maxSteps:=10000000) (disch:=first|assumption|decide|omega|(simp only[zde, *];done)|(simp only[zdf,big];first|done|assumption|omega)) only [zst,argsE,spl,resXs,resX,vI,vB,vX,oneOr,Nat.reduceLT,Nat.reduceEqDiff,Nat.reduceAdd,Nat.reduceMul,Nat.reduceSub,reduceIte,Int.reduceLT,Int.reduceLE,Int.reduceEq,Int.reduceNeg,Int.reduceToNat,gy46,madeV,Ret]
   exact⟨by simp only[matchS,hm],(by(repeat (refine Agr.set ?_ (by omega) _));exact a2),by omega⟩
 | some d =>
   obtain⟨dv,dd⟩:=d
   cases dd with
   | true =>
     simp (maxSteps:=10000000) (disch:=first|assumption|decide|omega|(simp only[zde, *];done)|(simp only[zdf,big];first|done|assumption|omega)) only [zst,argsE,spl,resXs,resX,vI,vB,vX,oneOr,Nat.reduceLT,Nat.reduceEqDiff,Nat.reduceAdd,Nat.reduceMul,Nat.reduceSub,reduceIte,Int.reduceLT,Int.reduceLE,Int.reduceEq,Int.reduceNeg,Int.reduceToNat,gy46,madeV,encMd,Ret]
     exact⟨by simp only[matchS,hm,Bool.not_true,Bool.false_and],(by(repeat (refine Agr.set ?_ (by omega) _));exact a2),by omega⟩
   | false =>
     simp (maxSteps:=10000000) (disch:=first|assumption|decide|omega|(simp only[zde, *];done)|(simp only[zdf,big];first|done|assumption|omega)) only [zst,argsE,spl,resXs,resX,vI,vB,vX,oneOr,Nat.reduceLT,Nat.reduceEqDiff,Nat.reduceAdd,Nat.reduceMul,Nat.reduceSub,reduceIte,Int.reduceLT,Int.reduceLE,Int.reduceEq,Int.reduceNeg,Int.reduceToNat,gy46,madeV,encMd,y]
     have a3:=fun o o'=>((a2.set (show nx<=n2+3 by omega) o).set (show nx<=n2+3 by omega) o')
     refine CN_fok (f257 ρ (he.agr ((a3 _ _).le hb)) (by omega) hc hpos x dv) ?_
     rintro⟨u,M3,n3⟩ ⟨k1,k2,k3⟩
     simp only at k1 k2 k3
     subst k1
     refine xs2 gy46 @Ret.eq_1 ?_;try exact⟨⟩
     exact⟨by simp only[matchS,hm,Bool.not_false,Bool.true_and],(a3 _ _).trans (k2.le (by omega)),by omega⟩
theorem f204 (ρ:Rho) {M:Hp} {nx lo hi m k:Nat} {l:List Rec} (h:MachAt M lo hi m l) (hh:hi<=nx) (hk:tget M k=some (.row [.mp m 0])) (hkn:k<nx) (e:En):FOk Tryz.prog ρ 204 [.agg (encEn e),.mp k 0] M nx (Ret nx M (.bool (!(thereS l e.x e.w e.n)))):=by
 simp only[encEn]
 have a1:=fun o=>(Agr.refl nx M).set (Nat.le_refl nx) o
 refine FOk.walk (m:=11) (rs:=[.tmp 3]) follows Tryz.func204 (by kernel_rfl) rfl rfl rfl ?_
 conv in W _ _ _ _ _ _ _=>arg 4;whnf
 refine xs2 gy47 hk ?_;try exact⟨⟩
 refine CN_fok (f201 ρ (h.agr ((a1 _).le hh) (Nat.le_refl _)) (by omega) e.x e.w e.n) ?_
 rintro⟨u,M2,n2⟩ ⟨g1,g2,g3⟩
 simp only at g1 g2 g3
 subst g1
 refine xs2 gy47 @Ret.eq_1 ?_;try exact⟨⟩
 exact⟨(a1 _).trans (g2.le (by omega)),by omega⟩
theorem all_any {α:Type} (q:α->Bool) (l:List α):(!(l.any fun e=>!(q e)))=l.all q:=by
 induction l with
 | nil=>rfl
 | cons a l ih=>simp only[List.any_cons,List.all_cons,<-ih,Bool.not_or,Bool.not_not]
theorem f134 (ρ:Rho) {M:Hp} {nx lo hi m b:Nat} {l:List Rec} {r:Rec} {cs:List XV} (hr:RecAt M b r cs) (hb:b<=nx) (h:MachAt M lo hi m l) (hh:hi<=nx):FOk Tryz.prog ρ 134 [.mp m 0,.agg cs] M nx (Ret nx M (.bool (entriesS l r))):=by
 obtain⟨pk,pa,pb,pv,ve,rfl,⟨p1,p2⟩,⟨q1,q2⟩,hes,_⟩:=hr.cells
 unfold EnsAt at hes
 refine FOk.walk (m:=10) (rs:=[.tmp 4]) follows Tryz.func134 (by kernel_rfl) rfl rfl rfl ?_
 conv in W _ _ _ _ _ _ _=>arg 4;whnf
 refine xs5 gy48 p1 p2 q1 q2 ?_;try exact⟨⟩
 generalize hM1:tset (tset M nx _) (nx+1) _=M1
 have a1:Agr nx M M1:=by rw[<-hM1];exact(by(repeat (refine Agr.set ?_ (by omega) _));exact Agr.refl _ _)
 have m1:tget M1 nx=some (.row [.mp m 0]):=by rw[<-hM1];simp[tget_tset]
 clear hM1
 refine CN_fok (f203 ρ (hes.agr (a1.le hb)) (by omega) (fun e=>!(thereS l e.x e.w e.n)) fun e he M' nx' ha hn=>f204 ρ ((h.agr (a1.le hh) (Nat.le_refl _)).agr (ha.le (by omega)) (Nat.le_refl _)) (by omega) ((ha _ (by omega)).trans m1) (by omega) e) ?_
 rintro⟨u,M2,n2⟩ ⟨g1,g2,g3⟩
 simp only at g1 g2 g3
 subst g1
 have hz:=all_any (fun e:En=>thereS l e.x e.w e.n) r.es
 refine xs3 gy48 hz @Ret.eq_1 ?_;try exact⟨⟩
 exact⟨by simp only[entriesS],a1.trans (g2.le (by omega)),by omega⟩
end Go.Xs
namespace Go.Xs
open Go.Proofs
set_option maxRecDepth 100000
set_option maxHeartbeats 4000000
theorem f209 (ρ:Rho) {r:Rec} {M:Hp} {nx b lo hi m k1 k2:Nat} {l:List Rec} {cs:List XV} (hr:RecAt M b r cs) (hb:b<=nx) (hc:exN r.p<=1000) (hpos:exPos r.p) (h:MachAt M lo hi m l) (hh:hi<=nx)
 (m1:tget M k1=some (.row [.mp m 0])) (m2:tget M k2=some (.row cs)) (b1:k1<nx) (b2:k2<nx) (e:En) :
 FOk Tryz.prog ρ 209 [.agg (encEn e),.mp k1 0,.mp k2 0] M nx (Ret nx M (.bool (!(e.m==matchS l r.p e.x e.w e.n)))):=by
 refine FOk.closed fun hcl _=>?_
 obtain⟨pk,pa,pb,pv,ve,rfl,⟨p1,p2⟩,⟨q1,q2⟩,_,hp⟩:=hr.cells
 have hk:kltV nx pv=true:=by
  have:=(hcl k2 _ m2).2
  simp only[kltO,kltVs,kltV]at this
  cases hk:kltV nx pv with
  | true=>rfl
  | false=>rw[hk]at this;cases this
 have hmm:m<nx:=by obtain⟨_,_,_,_,_,_,_,_,h⟩:=h;have:=h.m_hi;omega
 have a1:=fun o=>(Agr.refl nx M).set (Nat.le_refl nx) o
 simp only[encEn]
 refine FOk.walk (m:=16) (rs:=[.tmp 4]) follows Tryz.func209 (by kernel_rfl) rfl rfl rfl ?_
 conv in W _ _ _ _ _ _ _=>arg 4;whnf
 refine xs3 gy49 m1 m2 ?_;try exact⟨⟩
 refine CD_sem (Csem.read (v:=.bool (matchS l r.p e.x e.w e.n)) ((hcl.le (by omega)).set (by omega) rfl) ?_ rfl fun N hN=>?_) (by decide) ?_
 ·have hb:∀c,Nat.blt m (nx+c)=true:=fun c=>by rw[Nat.blt_eq];omega
  simp only[kltVs,kltV,hb];rw[kltV.le (by omega) hk]
 ·exact f210 ρ (hp.agr (((a1 _).trans (hN.le (by omega))).le hb)) (by omega) hc hpos (h.agr (((a1 _).trans (hN.le (by omega))).le hh) (Nat.le_refl _)) (by omega) e.x e.w e.n
 ·refine xs4 gy49 @neqB @logOf_range @Ret.eq_1 ?_;try exact⟨⟩
  refine⟨?_,(by(repeat (refine Agr.set ?_ (by omega) _));exact Agr.refl _ _),by omega⟩
  cases e.m<;>cases matchS l r.p e.x e.w e.n<;>rfl
theorem f136 (ρ:Rho) {M:Hp} {nx lo hi m b:Nat} {l:List Rec} {r:Rec} {cs:List XV} (hr:RecAt M b r cs) (hb:b<=nx) (hc:exN r.p<=1000) (hpos:exPos r.p) (h:MachAt M lo hi m l) (hh:hi<=nx):FOk Tryz.prog ρ 136 [.mp m 0,.agg cs] M nx (Ret nx M (.bool (matchesS l r))):=by
 have hr0:=hr
 obtain⟨pk,pa,pb,pv,ve,rfl,⟨p1,p2⟩,⟨q1,q2⟩,hes,_⟩:=hr.cells
 unfold EnsAt at hes
 refine FOk.walk (m:=10) (rs:=[.tmp 4]) follows Tryz.func136 (by kernel_rfl) rfl rfl rfl ?_
 conv in W _ _ _ _ _ _ _=>arg 4;whnf
 refine xs5 gy48 p1 p2 q1 q2 ?_;try exact⟨⟩
 generalize hM1:tset (tset M nx _) (nx+1) _=M1
 have a1:Agr nx M M1:=by rw[<-hM1];exact(by(repeat (refine Agr.set ?_ (by omega) _));exact Agr.refl _ _)
 have m1:tget M1 nx=some (.row [.mp m 0]):=by rw[<-hM1];simp[tget_tset]
 have m2:tget M1 (nx+1)=some (.row [.int .i64 r.kind,.int .u64 r.t,.int .u64 r.x,.int .u64 r.w,.int .u64 r.n,.int .u64 r.v,.int .i64 pk,.int .u64 pa,.int .u64 pb,pv,ve]):=by rw[<-hM1];simp[tget_tset]
 clear hM1
 refine CN_fok (f203 ρ (hes.agr (a1.le hb)) (by omega) (fun e=>!(e.m==matchS l r.p e.x e.w e.n)) fun e he M' nx' ha hn=>f209 ρ ((hr0.agr (a1.le hb)).agr (ha.le (by omega))) (by omega) hc hpos ((h.agr (a1.le hh) (Nat.le_refl _)).agr (ha.le (by omega)) (Nat.le_refl _)) (by omega) ((ha _ (by omega)).trans m1) ((ha _ (by omega)).trans m2) (by omega) (by omega) e) ?_
 rintro⟨u,M2,n2⟩ ⟨g1,g2,g3⟩
 simp only at g1 g2 g3
 subst g1
 have hz:=all_any (fun e:En=>e.m==matchS l r.p e.x e.w e.n) r.es
 refine xs3 gy48 hz @Ret.eq_1 ?_;try exact⟨⟩
 exact⟨by simp only[matchesS],a1.trans (g2.le (by omega)),by omega⟩
theorem f208 (ρ:Rho) {M:Hp} {nx k1 k2:Nat} {x w n:Int} (m1:tget M k1=some (.row [.int .u64 x])) (m2:tget M k2=some (.row [.int .u64 w,.int .u64 n])) (b1:k1<nx) (b2:k2<nx) (e:En) :
 FOk Tryz.prog ρ 208 [.agg (encEn e),.mp k1 0,.mp k2 0] M nx (Ret nx M (.bool (decide (e.x=x)&&(decide (e.w=w)&&decide (e.n=n))))):=by
 simp only[encEn]
 have a1:=fun o=>(Agr.refl nx M).set (Nat.le_refl nx) o
 refine FOk.walk (m:=15) (rs:=[.tmp 4]) follows Tryz.func208 (by kernel_rfl) rfl rfl rfl ?_
 conv in W _ _ _ _ _ _ _=>arg 4;whnf
 by_cases c:e.x=x
 ·refine xs5 gy50 m1 m2 c @Ret.eq_1 ?_;try exact⟨⟩
  exact⟨a1 _,by omega⟩
 ·refine xs5 gy50 m1 m2 c @Ret.eq_1 ?_;try exact⟨⟩
  exact⟨by simp,a1 _,by omega⟩
def latW (t:Int) (k:Nat):Int×Int:=match k with | 0=>(0,0) | k+1=>(t,((k+1:Nat):Int))
theorem f207 (ρ:Rho) {M:Hp} {nx lo hi m b k1 k2:Nat} {l:List Rec} {r:Rec} {cs:List XV} (hr:RecAt M b r cs) (hb:b<=nx) (h:MachAt M lo hi m l) (hh:hi<=nx) (m1:tget M k1=some (.row [.mp m 0])) (m2:tget M k2=some (.row cs)) (b1:k1<nx) (b2:k2<nx) (x:Int) :
 FOk Tryz.prog ρ 207 [.int .u64 x,.mp k1 0,.mp k2 0] M nx (Ret nx M (.bool (!(r.es.any fun e=>decide (e.x=x)&&(decide (e.w=(latW r.t (rowOf l r.t x).length).1)&&decide (e.n=(latW r.t (rowOf l r.t x).length).2)))))):=by
 obtain⟨pk,pa,pb,pv,ve,rfl,⟨p1,p2⟩,⟨q1,q2⟩,hes,_⟩:=hr.cells
 unfold EnsAt at hes
 have a1:=fun o=>(Agr.refl nx M).set (Nat.le_refl nx) o
 have z1:=(a1 (.row [.int .u64 x]) k2 b2).trans m2
 refine FOk.walk (m:=20) (rs:=[.tmp 4]) follows Tryz.func207 (by kernel_rfl) rfl rfl rfl ?_
 conv in W _ _ _ _ _ _ _=>arg 4;whnf
 refine xs3 gy48 m1 m2 ?_;try exact⟨⟩
 refine CN_fok (f202 ρ (h.agr ((a1 _).le hh) (Nat.le_refl _)) (by omega) r.t x) ?_
 rintro⟨u,M2,n2⟩ ⟨g1,g2,g3⟩
 simp only at g1 g2 g3
 subst g1
 have a2:=(a1 (.row [.int .u64 x])).trans (g2.le (by omega))
 have y:=g2 nx (by omega)
 rw[tget_tset,if_pos rfl]at y
 have y2:=(a2 k2 b2).trans m2
 obtain⟨v1,hv1⟩:∃v,v=latW r.t (rowOf l r.t x).length:=⟨_,rfl⟩
 have hlat:∃f,latV r.t (rowOf l r.t x).length = .tup [.agg [.int .u64 v1.1,.int .u64 v1.2],.bool f]:=by
  rw[hv1]
  cases (rowOf l r.t x).length with
  | zero=>exact⟨_,rfl⟩
  | succ k=>exact⟨_,rfl⟩
 obtain⟨f,hf⟩:=hlat
 rw[<-hv1]
 refine xs3 gy48 hf y2 ?_;try exact⟨⟩
 generalize hM1:tset (tset M2 _ _) _ _=M3
 have a3:Agr n2 M2 M3:=by rw[<-hM1];exact(by(repeat (refine Agr.set ?_ (by omega) _));exact Agr.refl _ _)
 have m3:tget M3 (n2+3)=some (.row [.int .u64 v1.1,.int .u64 v1.2]):=by rw[<-hM1];simp[tget_tset]
 clear hM1
 refine CN_fok (f203 ρ (hes.agr ((a2.trans (a3.le (by omega))).le hb)) (by omega) (fun e=>decide (e.x=x)&&(decide (e.w=v1.1)&&decide (e.n=v1.2))) fun e he M' nx' ha hn=>f208 ρ ((ha _ (by omega)).trans ((a3 nx (by omega)).trans y)) ((ha _ (by omega)).trans m3) (by omega) (by omega) e) ?_
 rintro⟨u,M4,n4⟩ ⟨k1',k2',k3'⟩
 simp only at k1' k2' k3'
 subst k1'
 refine xs2 gy48 @Ret.eq_1 ?_;try exact⟨⟩
 exact⟨(a2.trans (a3.le (by omega))).trans (k2'.le (by omega)),by omega⟩
end Go.Xs
namespace Go.Xs
open Go.Proofs
set_option maxRecDepth 100000
set_option maxHeartbeats 4000000
def SortsU:Prop:=∀(ρ:Rho) (M:Hp) (nx k:Nat) (xs:List Int),xs.length<=1000->0<xs.length->k<nx->tget M k=some (.row (xs.map (XV.int .u64))) ->
 FOk Tryz.prog ρ 78 [.sl k 1 0 xs.length xs.length] M nx fun r=>r.1 = .tup []/\(∃ys:List Int,ys.Perm xs/\ys.Pairwise (· <= ·)/\tget r.2.1 k=some (.row (ys.map (XV.int .u64))))/\(∀j,j<nx->j≠k->tget r.2.1 j=tget M j)/\nx<=r.2.2
def SortsN:Prop:=∀(ρ:Rho) (M:Hp) (nx:Nat),FOk Tryz.prog ρ 78 [.nils] M nx (Ret nx M (.tup []))
def objsP (ps:List (Int×Int)) (t:Int):List Int:=(ps.filter fun p=>decide (p.1=t)).map (·.2)
theorem objsP_take {ps:List (Int×Int)} {t:Int} {i:Nat} {p:Int×Int} (h:ps[i]?=some p):objsP (ps.take (i+1)) t=if p.1=t then objsP (ps.take i) t++[p.2] else objsP (ps.take i) t:=by
 have:ps.take (i+1)=ps.take i++[p]:=by rw[List.take_add_one,h];rfl
 unfold objsP
 rw[this,List.filter_append,List.map_append]
 by_cases e:p.1=t<;>simp[e]
abbrev OwnU (M:Hp) (lo hi:Nat) (v:XV) (ys:List Int):Prop:=OwnSl M lo hi (fun _=>()) () v 1 ys.length (ys.map (XV.int .u64))
theorem f206 (hS:SortsU) (hN:SortsN) (ρ:Rho) {M:Hp} {nx lo hi m mn:Nat} {l:List Rec} {tag:Nat->Tg} {ps:List (Int×Int)} {vnum vnames vrows vend:XV} {rs:List XV} {le:List (Nat×Int×Bool)} (h:Mach M lo hi m mn l tag ps vnum vnames vrows vend rs le) (hh:hi<=nx) (few:ps.length<=1000) (t:Int) :
 FOk Tryz.prog ρ 206 [.mp m 0,.int .u64 t] M nx fun r=>(∃ys:List Int,ys.Perm (objsP ps t)/\ys.Pairwise (· <= ·)/\SlAt r.2.1 r.2.2 r.1 1 ys.length (ys.map (XV.int .u64)))/\Agr nx M r.2.1/\nx<=r.2.2:=by
 have hmm:=h.m_hi
 have a0:∀c,Agr (nx+c) M M:=fun c=>Agr.refl _ _
 refine FOk.walk (m:=40) (rs:=[.tmp 4]) follows Tryz.func206 (by kernel_rfl) rfl rfl rfl ?_
 conv in W _ _ _ _ _ _ _=>arg 4;whnf
 refine xs1 gy51 ?_;try exact⟨⟩
 refine CN_fok (f255 ρ h.row (by omega) h.names) ?_
 rintro⟨u,M1,n1⟩ ⟨g1,g2,g3⟩
 simp only at g1 g2 g3
 subst g1
 have ha1:Agr nx M M1:=g2.le (by omega)
 refine xs1 gy51 ?_;try exact⟨⟩
 refine W_loop (fun m' s=>∃(i:Nat) (v:XV),i<=ps.length/\m'=ps.length - i/\tget s.env 0=some (.mp m 0)/\tget s.env 1=some (.int .u64 t)/\tget s.env 4=some v/\tget s.env 14=some (.int .i64 ps.length)/\tget s.env 15=some (.int .i64 i)/\OwnU s.M nx s.nx v (objsP (ps.take i) t)/\Agr nx M s.M/\nx<=s.nx)
  ps.length ⟨0,.nils,by omega,by omega,?_⟩ ?_
 ·refine xs1 gy51 ?_;try exact⟨⟩
  exact⟨⟨by simp[objsP],by simp[objsP],.inl ⟨rfl,by simp[objsP]⟩⟩,(by(repeat (refine Agr.set ?_ (by omega) _));exact ha1),by omega⟩
 ·rintro m' ⟨env,M',nx'⟩ ⟨i,v,hi',hm',e0,e1,e4,e14,e15,hv,ha,hn⟩
  simp only at e0 e1 e4 e14 e15 hv ha hn
  have hfew:(objsP (ps.take i) t).length<=1000:=by
   unfold objsP
   rw[List.length_map]
   refine Nat.le_trans (List.length_filter_le _ _) ?_
   rw[List.length_take];omega
  by_cases hlt:(i:Int)<ps.length
  ·have hlt':i<ps.length:=by omega
   obtain⟨p,hp⟩:∃p,ps[i]?=some p:=⟨ps[i],by simp[hlt']⟩
   have hw2:IntKind.i64.wrap ((i:Int)+1)=((i+1:Nat):Int):=by rw[wrap_i64 (by omega) (by omega)];omega
   refine xs7 gy51 e0 e1 e4 e14 e15 hlt ?_;try exact⟨⟩
   refine CN_fok (f256 ρ ((ha m (by omega)).trans h.row) (by omega) (h.names.agr (ha.le hh) (Nat.le_refl _)) (by omega) hp) ?_
   rintro⟨u,M2,n2⟩ ⟨g1,g2,g3⟩
   simp only[encPr]at g1 g2 g3
   subst g1
   have hst:=objsP_take (t:=t) hp
   have ha2:=ha.trans (g2.le (by omega))
   by_cases hpt:p.1=t
   ·rw[if_pos hpt]at hst
    obtain⟨hz,hcl,⟨rfl,hl0⟩ | ⟨hl,k,rfl,k1,k2,_,k4⟩⟩:=hv
    ·have ho:objsP (ps.take i) t=[]:=List.length_eq_zero_iff.1 hl0
     refine xs8 gy51 e0 e1 e4 e14 e15 hpt hw2 ?_;try exact⟨⟩
     refine⟨ps.length - (i+1),by omega,i+1,_,by omega,rfl,rfl,rfl,?_,(by(repeat (refine Agr.set ?_ (by omega) _));exact ha2),by omega⟩
     rw[hst,ho]
     exact⟨by simp,by simp,.inr ⟨by simp,n2+14,rfl,by omega,by omega,rfl,(by(repeat (first | rw[tget_tset,if_pos rfl] | rw[tget_tset,if_neg (by omega)] | rw[tget_tdel,if_neg (by omega)]));try (first | rfl | assumption))⟩⟩
    ·have k4':=(g2 k (by omega)).trans k4
     have htk:List.take (objsP (ps.take i) t).length (List.map (XV.int .u64) (objsP (ps.take i) t))=List.map (XV.int .u64) (objsP (ps.take i) t):=List.take_of_length_le (by simp)
     refine xs10 gy51 e0 e1 e4 e14 e15 hpt hw2 k4' htk ?_;try exact⟨⟩
     refine⟨ps.length - (i+1),by omega,i+1,_,by omega,rfl,rfl,rfl,?_,?_,by omega⟩
     ·rw[hst]
      refine⟨by simp;omega,by simp,.inr ⟨by simp,n2+14,by simp,by omega,by omega,rfl,?_⟩⟩
      rw[List.map_append]
      exact(by(repeat (first | rw[tget_tset,if_pos rfl] | rw[tget_tset,if_neg (by omega)] | rw[tget_tdel,if_neg (by omega)]));try (first | rfl | assumption))
     ·exact fun j hj=>by
       have e1:j≠k:=by omega
       have:=ha2 j hj
       exact(by(repeat (first | rw[tget_tset,if_pos rfl] | rw[tget_tset,if_neg (by omega)] | rw[tget_tdel,if_neg (by omega)]));try (first | rfl | assumption))
   ·rw[if_neg hpt]at hst
    refine xs8 gy51 e0 e1 e4 e14 e15 hpt hw2 ?_;try exact⟨⟩
    refine⟨ps.length - (i+1),by omega,i+1,_,by omega,rfl,rfl,rfl,?_,(by(repeat (refine Agr.set ?_ (by omega) _));exact ha2),by omega⟩
    rw[hst]
    exact hv.keep (fun k hk _=>⟨by have:=g2 k (by omega);exact(by(repeat (first | rw[tget_tset,if_pos rfl] | rw[tget_tset,if_neg (by omega)] | rw[tget_tdel,if_neg (by omega)]));try (first | rfl | assumption)),rfl⟩) (by omega)
  ·have hie:i=ps.length:=by omega
   subst hie
   rw[List.take_length]at hv hfew
   obtain⟨hz,hcl,⟨rfl,hl0⟩ | ⟨hl,k,rfl,k1,k2,_,k4⟩⟩:=hv
   ·refine xs7 gy51 e0 e1 e4 e14 e15 hlt ?_;try exact⟨⟩
    refine CN_fok (hN ρ _ _) ?_
    rintro⟨u,M2,n2⟩ ⟨g1,g2,g3⟩
    simp only at g1 g2 g3
    subst g1
    have ho:objsP ps t=[]:=List.length_eq_zero_iff.1 hl0
    refine xs2 gy51 e4 ?_;try exact⟨⟩
    exact⟨⟨[],by rw[ho],.nil,by simp,.inl ⟨rfl,rfl,rfl⟩⟩,ha.trans (g2.le (by omega)),by omega⟩
   ·refine xs7 gy51 e0 e1 e4 e14 e15 hlt ?_;try exact⟨⟩
    refine CN_fok (hS ρ _ _ k (objsP ps t) hfew hl (by omega) k4) ?_
    rintro⟨u,M2,n2⟩ ⟨g1,⟨ys,y1,y2,y3⟩,g2,g3⟩
    simp only at g1 y3 g2 g3
    subst g1
    refine xs2 gy51 e4 ?_;try exact⟨⟩
    refine⟨⟨ys,y1,y2,?_⟩,fun j hj=>(g2 j (by omega) (by omega)).trans (ha j hj),by omega⟩
    have hyl:ys.length=(objsP ps t).length:=y1.length_eq
    have hyb:ys.length<=1000:=by rw[hyl];simpa using hfew
    rw[<-hyl]
    exact⟨by omega,.inr ⟨k,0,ys.length,ys.map (XV.int .u64),rfl,by omega,by unfold hrd;simp only[y3],by simp,by rw[List.drop_zero,List.take_of_length_le (by simp)]⟩⟩
theorem objsP_mem {M:Hp} {lo hi m mn:Nat} {l:List Rec} {tag:Nat->Tg} {ps:List (Int×Int)} {vnum vnames vrows vend:XV} {rs:List XV} {le:List (Nat×Int×Bool)} (h:Mach M lo hi m mn l tag ps vnum vnames vrows vend rs le) (t x:Int):x ∈ objsP ps t ↔ x ∈ objsOf l t:=by
 unfold objsP objsOf
 simp only[List.mem_map,List.mem_filter,decide_eq_true_eq,Bool.and_eq_true,Prod.exists]
 constructor
 ·rintro⟨a,b,⟨hm,rfl⟩,rfl⟩
  obtain⟨i,hi⟩:=List.getElem?_of_mem hm
  obtain⟨q,_⟩:=h.all i a b hi
  unfold rowOf at q
  have:l.filter (modIs a b)≠[]:=fun e=>q (by rw[e];rfl)
  obtain⟨r,hr⟩:=List.exists_mem_of_ne_nil _ this
  rw[List.mem_filter]at hr
  simp only[modIs,Bool.and_eq_true,decide_eq_true_eq]at hr
  exact⟨r,⟨hr.1,hr.2.1,hr.2.2.1⟩,hr.2.2.2⟩
 ·rintro⟨r,⟨h1,h2,h3⟩,rfl⟩
  refine⟨t,r.x,⟨h.whole t r.x fun e=>?_,rfl⟩,rfl⟩
  unfold rowOf at e
  have:r ∈ l.filter (modIs t r.x):=List.mem_filter.2 ⟨h1,by simp[modIs,h2,h3]⟩
  rw[List.map_eq_nil_iff]at e
  rw[e]at this
  cases this
theorem latW_pos {t:Int} {k:Nat} (h:0<k):latW t k=(t,(k:Int)):=by
 cases k with
 | zero=>omega
 | succ k=>rfl
theorem f135 (hS:SortsU) (hN:SortsN) (ρ:Rho) {M:Hp} {nx lo hi m b:Nat} {l:List Rec} {r:Rec} {cs:List XV} (hr:RecAt M b r cs) (hb:b<=nx) (h:MachAt M lo hi m l) (hh:hi<=nx) (few:l.length<=1000):FOk Tryz.prog ρ 135 [.mp m 0,.agg cs] M nx (Ret nx M (.bool (ownEntriesS l r))):=by
 have hr0:=hr
 have h0:=h
 obtain⟨pk,pa,pb,pv,ve,rfl,⟨p1,p2⟩,⟨q1,q2⟩,hes,_⟩:=hr.cells
 obtain⟨tag,ps,vnum,vnames,vrows,vend,rs,le,h⟩:=h
 refine FOk.walk (m:=15) (rs:=[.tmp 4]) follows Tryz.func135 (by kernel_rfl) rfl rfl rfl ?_
 conv in W _ _ _ _ _ _ _=>arg 4;whnf
 by_cases k5:r.kind=5
 ·refine xs6 gy48 p1 p2 q1 q2 k5 ?_;try exact⟨⟩
  generalize hM1:tset (tset M _ _) _ _=M1
  have a1:Agr nx M M1:=by rw[<-hM1];exact(by(repeat (refine Agr.set ?_ (by omega) _));exact Agr.refl _ _)
  have m1:tget M1 nx=some (.row [.mp m 0]):=by rw[<-hM1];exact(by(repeat (first | rw[tget_tset,if_pos rfl] | rw[tget_tset,if_neg (by omega)] | rw[tget_tdel,if_neg (by omega)]));try (first | rfl | assumption))
  have m2:tget M1 (nx+1)=some (.row [.int .i64 r.kind,.int .u64 r.t,.int .u64 r.x,.int .u64 r.w,.int .u64 r.n,.int .u64 r.v,.int .i64 pk,.int .u64 pa,.int .u64 pb,pv,ve]):=by rw[<-hM1,k5];exact(by(repeat (first | rw[tget_tset,if_pos rfl] | rw[tget_tset,if_neg (by omega)] | rw[tget_tdel,if_neg (by omega)]));try (first | rfl | assumption))
  clear hM1
  obtain⟨tag1,ps1,w0,w1,w2,w3,rs1,le1,h1⟩:=h0.agr (a1.le hh) (Nat.le_refl _)
  refine CN_fok (f206 hS hN ρ h1 (by omega) (by have:=h1.few;omega) r.t) ?_
  rintro⟨u,M2,n2⟩ ⟨⟨ys,y1,y2,y3⟩,g2,g3⟩
  simp only at y3 g2 g3
  have a2:=a1.trans (g2.le (by omega))
  have z1:=(g2 nx (by omega)).trans m1
  have z2:=(g2 (nx+1) (by omega)).trans m2
  have hcell:=y3.cell
  clear m1 m2
  refine xs1 gy48 ?_;try exact⟨⟩
  refine CN_fok (f205 ρ y3 (by omega) (fun x=>!(r.es.any fun e=>decide (e.x=x)&&(decide (e.w=(latW r.t (rowOf l r.t x).length).1)&&decide (e.n=(latW r.t (rowOf l r.t x).length).2)))) fun x hx M' nx' ha hn=>f207 ρ ((hr0.agr (a2.le hb)).agr (ha.le (by omega))) (by omega) ((h0.agr (a2.le hh) (Nat.le_refl _)).agr (ha.le (by omega)) (Nat.le_refl _)) (by omega) ((ha _ (by omega)).trans z1) ((ha _ (by omega)).trans z2) (by omega) (by omega) x) ?_
  rintro⟨u,M3,n3⟩ ⟨k1',k2',k3'⟩
  simp only at k1' k2' k3'
  subst k1'
  refine xs2 gy48 @Ret.eq_1 ?_;try exact⟨⟩
  refine⟨?_,a2.trans (k2'.le (by omega)),by omega⟩
  have hz:=all_any (fun x:Int=>r.es.any fun e=>decide (e.x=x)&&(decide (e.w=(latW r.t (rowOf l r.t x).length).1)&&decide (e.n=(latW r.t (rowOf l r.t x).length).2))) ys
  rw[hz]
  simp only[ownEntriesS,k5,decide_true,Bool.not_true,Bool.false_or]
  congr 1
  rw[Bool.eq_iff_iff,List.all_eq_true,List.all_eq_true]
  have hmem:∀x,x ∈ ys ↔ x ∈ objsOf l r.t:=fun x=>by rw[y1.mem_iff,objsP_mem h1]
  have hlen:∀x,x ∈ objsOf l r.t->latW r.t (rowOf l r.t x).length=(r.t,((rowOf l r.t x).length:Int)):=fun x hx=>by
   refine latW_pos (List.length_pos_iff.2 fun e=>?_)
   rw[<-objsP_mem h1]at hx
   unfold objsP at hx
   simp only[List.mem_map,List.mem_filter,decide_eq_true_eq,Prod.exists]at hx
   obtain⟨a,b',⟨hm,rfl⟩,rfl⟩:=hx
   obtain⟨i,hi⟩:=List.getElem?_of_mem hm
   exact(h1.all i _ _ hi).1 e
  constructor
  ·intro q x hx
   have:=q x ((hmem x).2 hx)
   rw[hlen x hx]at this
   exact this
  ·intro q x hx
   rw[hlen x ((hmem x).1 hx)]
   exact q x ((hmem x).1 hx)
 ·refine xs7 gy48 p1 p2 q1 q2 k5 @Ret.eq_1 ?_;try exact⟨⟩
  exact⟨by simp[ownEntriesS,k5],(by(repeat (refine Agr.set ?_ (by omega) _));exact Agr.refl _ _),by omega⟩
end Go.Xs
namespace Go.Xs
open Go.Proofs
set_option maxRecDepth 100000
set_option maxHeartbeats 4000000
def ruleNo (i:Nat):Int:=if i=0 then 4 else if i=1 then 5 else 9+i
def keepsS (i:Nat) (l:List Rec) (r:Rec):Bool:=match i with
 | 0=>decide (1<=r.kind)&&decide (r.kind<=7)
 | 1=>recRight r
 | 2=>!(decide (r.t=0))
 | 3=>!(decide (r.kind=1)) || !(endOf l r.t).isSome
 | 4=>decide (r.kind=1)||(endOf l r.t).isSome
 | 5=>!((endOf l r.t).getD false)
 | 6=>seenS l r
 | 7=>ownS l r
 | 8=>riseS r.es
 | 9=>entriesS l r
 | 10=>ownEntriesS l r
 | _=>matchesS l r
def ruleGo (l:List Rec) (r:Rec):Nat->Nat->Int
 | 0,_=>0
 | n+1,i=>if keepsS i l r then ruleGo l r n (i+1) else ruleNo i
def ruleS (l:List Rec) (r:Rec):Int:=ruleGo l r 12 0
def rulesV:List XV:=(List.range 12).flatMap fun i=>[.int .i64 (ruleNo i),.fn (.func (125+i)) [] []]
theorem rules_row:∀i,i<12->(rulesV.drop (i*2)).take 2=[.int .i64 (ruleNo i),.fn (.func (125+i)) [] []]:=by
 intro i hi
 have:i=0\/i=1\/i=2\/i=3\/i=4\/i=5\/i=6\/i=7\/i=8\/i=9\/i=10\/i=11:=by omega
 rcases this with rfl | rfl | rfl | rfl | rfl | rfl | rfl | rfl | rfl | rfl | rfl | rfl<;>rfl
theorem f91 (ρ:Rho) (M:Hp) (nx:Nat):FOk Tryz.prog ρ 91 [] M nx fun r=>∃k,r.1 = .sl k 2 0 12 12/\nx<=k/\k<r.2.2/\tget r.2.1 k=some (.row rulesV)/\Agr nx M r.2.1/\nx<=r.2.2:=by
 refine FOk.walk (m:=14) (rs:=[.tmp 0]) follows Tryz.func91 (by kernel_rfl) rfl rfl rfl ?_
 conv in W _ _ _ _ _ _ _=>arg 4;whnf
 refine xs1 gy52 ?_;try exact⟨⟩
 refine⟨nx+13,rfl,by omega,by omega,?_,(by(repeat (refine Agr.set ?_ (by omega) _));exact Agr.refl _ _),by omega⟩
 rw[if_pos (show KEq (nx+13) (nx+13) from rfl)]
 rfl
theorem f125s (hS:SortsU) (hN:SortsN) (ρ:Rho) {M:Hp} {nx lo hi m b:Nat} {l:List Rec} {r:Rec} {cs:List XV} (hr:RecAt M b r cs) (hb:b<=nx) (hc:exN r.p<=1000) (hpos:exPos r.p) (h:MachAt M lo hi m l) (hh:hi<=nx) (few:l.length<=1000) {i:Nat} (hi':i<12) :
 FOk Tryz.prog ρ (125+i) [.mp m 0,.agg cs] M nx (Ret nx M (.bool (keepsS i l r))):=by
 have hE:∃le,MEnd M nx m le/\∀t,alook le t=endOf l t:=by
  obtain⟨tag,ps,vnum,vnames,vrows,vend,rs,le,h⟩:=h
  refine⟨le,⟨Nat.lt_of_lt_of_le h.m_hi hh,_,_,_,_,_,h.row,?_⟩,h.ended⟩
  rcases h.ends with q | ⟨k,c,q1,q2,q3,q4,q5⟩
  ·exact .inl q
  ·exact .inr ⟨k,c,q1,by omega,q5⟩
 obtain⟨le,hE,hal⟩:=hE
 have:i=0\/i=1\/i=2\/i=3\/i=4\/i=5\/i=6\/i=7\/i=8\/i=9\/i=10\/i=11:=by omega
 rcases this with rfl | rfl | rfl | rfl | rfl | rfl | rfl | rfl | rfl | rfl | rfl | rfl
 ·exact f125 ρ hr
 ·exact f126 ρ hr hb hc
 ·exact f127 ρ hr
 ·have:=f128 ρ (hr.wk hb) hE (Nat.le_refl _)
  rw[hal]at this
  exact this
 ·have:=f129 ρ (hr.wk hb) hE (Nat.le_refl _)
  rw[hal]at this
  exact this
 ·have:=f130 ρ (hr.wk hb) hE (Nat.le_refl _)
  rw[hal]at this
  exact this
 ·exact f131 ρ hr h hh
 ·exact f132 ρ hr h hh
 ·exact f133 ρ hr hb
 ·exact f134 ρ hr hb h hh
 ·exact f135 hS hN ρ hr hb h hh few
 ·exact f136 ρ hr hb hc hpos h hh
theorem ruleGo_step {l:List Rec} {r:Rec} {i:Nat} (hi:i<12):ruleGo l r (12 - i) i=if keepsS i l r then ruleGo l r (12 - (i+1)) (i+1) else ruleNo i:=by
 rw[show 12 - i=(12 - (i+1))+1 by omega]
 rfl
theorem f63 (hS:SortsU) (hN:SortsN) (ρ:Rho) {M:Hp} {nx lo hi m b:Nat} {l:List Rec} {r:Rec} {cs:List XV} (hr:RecAt M b r cs) (hb:b<=nx) (hc:exN r.p<=1000) (hpos:exPos r.p) (h:MachAt M lo hi m l) (hh:hi<=nx) (few:l.length<=1000) :
 FOk Tryz.prog ρ 63 [.mp m 0,.agg cs] M nx fun o=>o.1 = .int .i64 (ruleS l r)/\MachAt o.2.1 lo o.2.2 m (if ruleS l r=0 then l++[r] else l)/\Agr lo M o.2.1/\nx<=o.2.2:=by
 have hlo:lo<=m/\m<hi:=by obtain⟨_,_,_,_,_,_,_,_,h⟩:=h;exact⟨h.lo_m,h.m_hi⟩
 have hr0:=hr
 obtain⟨pk,pa,pb,pv,ve,rfl,⟨p1,p2⟩,⟨q1,q2⟩,_,_⟩:=hr.cells
 refine FOk.walk (m:=27) (rs:=[.tmp 4]) follows Tryz.func63 (by kernel_rfl) rfl rfl rfl ?_
 conv in W _ _ _ _ _ _ _=>arg 4;whnf
 refine xs5 gy53 p1 p2 q1 q2 ?_;try exact⟨⟩
 refine CN_fok (f91 ρ _ _) ?_
 rintro⟨u,M1,n1⟩ ⟨k,g1,g2,g3,g4,g5,g6⟩
 simp only at g1 g2 g3 g4 g5 g6
 subst g1
 have ha1:Agr nx M M1:=((Agr.refl nx M).set (Nat.le_refl _) _).trans (g5.le (by omega))
 have hbox:=g5 nx (by omega)
 rw[tget_tset,if_pos rfl]at hbox
 have hsl:SlAt M1 n1 (.sl k 2 0 12 12) 2 12 rulesV:=⟨by omega,.inr ⟨k,0,12,rulesV,rfl,g3,by unfold hrd;rw[g4],by decide,rfl⟩⟩
 refine xs1 gy53 ?_;try exact⟨⟩
 refine W_loop (fun m' s=>∃i:Nat,i<=12/\m'=12 - i/\ruleGo l r (12 - i) i=ruleS l r/\tget s.env 0=some (.mp m 0)/\tget s.env 3=some (.mp nx 0)/\tget s.env 9=some (.sl k 2 0 12 12)/\tget s.env 10=some (.int .i64 12)/\tget s.env 11=some (.int .i64 i)/\Agr n1 M1 s.M/\n1<=s.nx)
  12 ⟨0,by omega,by omega,rfl,?_⟩ ?_
 ·refine xs1 gy53 ?_;try exact⟨⟩
  exact⟨(by(repeat (refine Agr.set ?_ (by omega) _));exact Agr.refl _ _),by omega⟩
 ·rintro m' ⟨env,M',nx'⟩ ⟨i,hi',hm',hid,e0,e3,e9,e10,e11,ha,hn⟩
  simp only at e0 e3 e9 e10 e11 ha hn
  have hbox':=(ha nx (by omega)).trans hbox
  have haM:Agr nx M M':=ha1.trans (ha.le (by omega))
  by_cases hlt:(i:Int)<12
  ·have hlt':i<12:=by omega
   obtain⟨n,o,hnb,hix,hld⟩:=hsl.elem (P:=Tryz.prog) hlt' (t:=211) (t':=215) ty211.2.2.2.1 ty215.1
   have hld:=hld M' ha
   rw[rules_row i hlt']at hld
   have hw2:IntKind.i64.wrap ((i:Int)+1)=((i+1:Nat):Int):=by rw[wrap_i64 (by omega) (by omega)];omega
   have hst:=ruleGo_step (l:=l) (r:=r) hlt'
   refine xs10 gy53 e0 e3 e9 e10 e11 hlt hix hld hbox' ?_;try exact⟨⟩
   refine CN_fok (f125s hS hN ρ (hr0.agr ((((haM.set (show nx<=nx'+3 by omega) _).set (show nx<=nx'+3 by omega) _)).le hb)) (by omega) hc hpos (h.agr ((((haM.set (show nx<=nx'+3 by omega) _).set (show nx<=nx'+3 by omega) _)).le hh) (Nat.le_refl _)) (by omega) few hlt') ?_
   rintro⟨u,M2,n2⟩ ⟨k1,k2,k3⟩
   simp only at k1 k2 k3
   subst k1
   have y:=k2 (nx'+3) (by omega)
   rw[tget_tset,if_pos rfl]at y
   have ha2:Agr n1 M1 M2:=((ha.set (show n1<=nx'+3 by omega) _).set (show n1<=nx'+3 by omega) _).trans (k2.le (by omega))
   cases hq:keepsS i l r with
   | true =>
     refine xs8 gy53 e0 e3 e9 e10 e11 hq hw2 ?_;try exact⟨⟩
     exact⟨12 - (i+1),by omega,i+1,by omega,rfl,by rw[<-hid,hst,hq];rfl,rfl,ha2,by omega⟩
   | false =>
     refine xs8 gy53 e0 e3 e9 e10 e11 hq y ?_;try exact⟨⟩
     have hrn:ruleS l r=ruleNo i:=by rw[<-hid,hst,hq];rfl
     have hne:ruleNo i≠0:=by unfold ruleNo;split<;>(try split)<;>omega
     have haF:Agr nx M M2:=ha1.trans (ha2.le (by omega))
     rw[hrn,if_neg hne]
     exact⟨rfl,h.agr (haF.le hh) (by omega),haF.le (by omega),by omega⟩
  ·have hie:i=12:=by omega
   subst hie
   have hr0':ruleS l r=0:=hid.symm
   refine xs8 gy53 e0 e3 e9 e10 e11 hlt hbox' ?_;try exact⟨⟩
   refine CN_fok (f92 ρ (hr0.agr (haM.le hb)) (h.agr (haM.le hh) (Nat.le_refl _)) (by omega) few) ?_
   rintro⟨u,M2,n2⟩ ⟨k1,k2,k3,k4⟩
   simp only at k1 k2 k3 k4
   subst k1
   refine xs1 gy53 ?_;try exact⟨⟩
   rw[hr0',if_pos rfl]
   exact⟨rfl,k2.agr (Agr.refl _ _) (by omega),(haM.le (by omega)).trans k3,by omega⟩
end Go.Xs
namespace Go.Xs
open Go.Proofs
set_option maxRecDepth 100000
set_option maxHeartbeats 4000000
def FitR (r:Rec):Prop:=exN r.p<=1000/\exPos r.p
def CheckR (L:List Rec) (n:Nat) (rl:Int):Prop :=
 (∀j r,j<n->L[j]?=some r->ruleS (L.take j) r=0)/\((n=L.length/\rl=0)\/∃r,L[n]?=some r/\ruleS (L.take n) r=rl/\rl≠0)
theorem mach_new {M:Hp} {nx m:Nat} (hm:nx<=m) (hM:tget M m=some (.row [.nilm,.nils,.nils,.int .i64 0,.nilm])):MachAt M nx (m+1) m [] :=
 ⟨fun _=>.mach,[],.nilm,.nils,.nils,.nilm,[],[],hm,by omega,rfl,hM,.inl ⟨rfl,rfl⟩,⟨by simp,rfl,.inl ⟨rfl,rfl⟩⟩,⟨by simp,rfl,.inl ⟨rfl,rfl⟩⟩,fun i t x h=>by simp at h,fun t x h=>(h rfl).elim,.nil,.inl ⟨rfl,rfl⟩,fun t=>rfl,Nat.le_refl _⟩
theorem f36 (hS:SortsU) (hN:SortsN) (ρ:Rho) {M:Hp} {nx b:Nat} {v:XV} {L:List Rec} (hL:RecsAt M b v L) (hb:b<=nx) (few:L.length<=1000) (fit:∀r ∈ L,FitR r) :
 FOk Tryz.prog ρ 36 [v] M nx fun o=>(∃n rl,o.1 = .tup [.int .i64 (n:Nat),.int .i64 rl]/\CheckR L n rl)/\Agr nx M o.2.1/\nx<=o.2.2:=by
 obtain⟨row,hsl,hrec⟩:=hL
 have hlen:=fun N=>hsl.len (P:=Tryz.prog) (t:=22) ty22.2.2.2.2.2 N
 have hcv:=hsl.cell
 refine FOk.walk (m:=24) (rs:=[.tmp 2,.tmp 3]) follows Tryz.func36 (by kernel_rfl) rfl rfl rfl ?_
 conv in W _ _ _ _ _ _ _=>arg 4;whnf
 refine xs2 gy54 hlen ?_;try exact⟨⟩
 refine W_loop (fun m' s=>∃i:Nat,i<=L.length/\m'=L.length - i/\(∀j r,j<i->L[j]?=some r->ruleS (L.take j) r=0)/\tget s.env 0=some v/\tget s.env 4=some (.mp (nx+2) 0)/\tget s.env 8=some v/\tget s.env 9=some (.int .i64 L.length)/\tget s.env 10=some (.int .i64 i) /\
  MachAt s.M nx s.nx (nx+2) (L.take i)/\Agr nx M s.M/\nx+3<=s.nx)
  L.length ⟨0,by omega,by omega,?_⟩ ?_
 ·refine xs1 gy54 ?_;try exact⟨⟩
  refine⟨fun j r hj=>by omega,?_,(by(repeat (refine Agr.set ?_ (by omega) _));exact Agr.refl _ _),by omega⟩
  exact(mach_new (by omega) (by(repeat (first | rw[tget_tset,if_pos rfl] | rw[tget_tset,if_neg (by omega)] | rw[tget_tdel,if_neg (by omega)]));try (first | rfl | assumption))).agr (Agr.refl _ _) (by omega)
 ·rintro m' ⟨env,M',nx'⟩ ⟨i,hi,hm',hwf,e0,e4,e8,e9,e10,hmach,ha,hn⟩
  simp only at e0 e4 e8 e9 e10 hmach ha hn
  by_cases hlt:(i:Int)<L.length
  ·have hlt':i<L.length:=by omega
   obtain⟨r,hri⟩:∃r,L[i]?=some r:=⟨L[i],by simp[hlt']⟩
   obtain⟨n,o,hnb,hix,hld⟩:=hsl.elem (P:=Tryz.prog) hlt' (t:=22) (t':=43) ty22.2.2.2.1 ty43.1
   have hld:=hld M' (ha.le hb)
   have hr0:=(hrec i r hri).agr (ha.le hb)
   obtain⟨pk,pa,pb,pv,ve,hcs,⟨p1,p2⟩,⟨q1,q2⟩,_,_⟩:=hr0.cells
   rw[hcs]at hld hr0
   have hw2:IntKind.i64.wrap ((i:Int)+1)=((i+1:Nat):Int):=by rw[wrap_i64 (by omega) (by omega)];omega
   obtain⟨f1,f2⟩:=fit r (List.mem_of_getElem? hri)
   have htk:L.take (i+1)=L.take i++[r]:=by rw[List.take_add_one,hri];rfl
   refine xs13 gy54 e0 e4 e8 e9 e10 hlt hix hld p1 p2 q1 q2 ?_;try exact⟨⟩
   generalize hM1:tset (tset M' _ _) _ _=M1
   have a1:Agr nx' M' M1:=by rw[<-hM1];exact(by(repeat (refine Agr.set ?_ (by omega) _));exact Agr.refl _ _)
   clear hM1
   refine CN_fok (f63 hS hN ρ (hr0.agr (a1.le (by omega))) (by omega) f1 f2 (hmach.agr a1 (Nat.le_refl _)) (by omega) (by rw[List.length_take];omega)) ?_
   rintro⟨u,M2,n2⟩ ⟨k1,k2,k3,k4⟩
   simp only at k1 k2 k3 k4
   subst k1
   have ha2:Agr nx M M2:=(ha.trans (a1.le (by omega))).trans k3
   by_cases hq:ruleS (L.take i) r=0
   ·rw[if_pos hq,<-htk]at k2
    refine xs8 gy54 e0 e4 e8 e9 e10 hq hw2 ?_;try exact⟨⟩
    refine⟨L.length - (i+1),by omega,i+1,by omega,rfl,fun j r' hj hr'=>?_,rfl,k2.agr (Agr.refl _ _) (by omega),ha2,by omega⟩
    by_cases hji:j=i
    ·subst hji
     rw[hri]at hr'
     cases hr'
     exact hq
    ·exact hwf j r' (by omega) hr'
   ·refine xs7 gy54 e0 e4 e8 e9 e10 hq ?_;try exact⟨⟩
    exact⟨⟨i,_,rfl,hwf,.inr ⟨r,hri,rfl,hq⟩⟩,ha2,by omega⟩
  ·have hie:i=L.length:=by omega
   refine xs8 gy54 e0 e4 e8 e9 e10 hlt hlen ?_;try exact⟨⟩
   subst hie
   exact⟨⟨_,_,rfl,hwf,.inl ⟨rfl,rfl⟩⟩,ha,by omega⟩
end Go.Xs
namespace Go.Xs
noncomputable section
open Go.Proofs
set_option maxRecDepth 100000
set_option maxHeartbeats 4000000
def histN (L:List Rec):Nat->HS
 | 0=>HS0
 | n+1=>match L[n]? with | some r=>(histN L n).take n r | none=>histN L n
theorem preds_wr (S:HS) (n:Nat) (cr:List XV) (i:Int) (r:Rec):∀k,(S.wr n cr).preds i r k=(S.preds i r k).wr n cr
 | 0=>rfl
 | k+1=>by
   unfold HS.preds
   rw[preds_wr S n cr i r k]
   cases r.es[k]? <;> rfl
theorem take_wr (S:HS) (n:Nat) (cr:List XV) (i:Nat) (r:Rec):(S.wr n cr).take i r=(S.take i r).wr n cr:=by
 unfold HS.take
 by_cases h1:r.kind=1
 ·rw[if_pos h1,if_pos h1];rfl
 rw[if_neg h1,if_neg h1]
 by_cases h2:r.kind=2
 ·rw[if_pos h2,if_pos h2];rfl
 rw[if_neg h2,if_neg h2]
 by_cases h3:r.kind=3\/r.kind=4
 ·rw[if_pos h3,if_pos h3];rfl
 rw[if_neg h3,if_neg h3]
 by_cases h5:r.kind=5
 ·rw[if_pos h5,if_pos h5];exact preds_wr ..
 rw[if_neg h5,if_neg h5]
 by_cases h6:r.kind=6
 ·rw[if_pos h6,if_pos h6]
  show (match S.txs[((S.num r.t).getD 0).toNat]? with | some a=>_ | none=>_)=_
  cases S.txs[((S.num r.t).getD 0).toNat]? <;> rfl
 rw[if_neg h6,if_neg h6]
 show (match S.txs[((S.num r.t).getD 0).toNat]? with | some a=>_ | none=>_)=_
 cases S.txs[((S.num r.t).getD 0).toNat]? <;> rfl
theorem TakeOk.wr {S:HS} {r:Rec} (h:TakeOk S r) (n:Nat) (cr:List XV):TakeOk (S.wr n cr) r:=⟨h.kind,h.tx,h.txs,h.mods,h.com,h.looks,h.cnt⟩
theorem TakeOk.addr {S:HS} {r:Rec} (h:TakeOk S r) (cs:List XV):TakeOk (S.addr cs) r:=⟨h.kind,h.tx,h.txs,h.mods,h.com,h.looks,h.cnt⟩
structure PlacesOk (S:HS):Prop where
 here:∀(k:Nat) (x j:Int),j ∈ S.places k x->0<=j/\j<S.mods.length
 few:S.txs.length<=100000/\S.mods.length<=100000/\∀k x,(S.places k x).length<=100000
def lastIs (S:HS) (k:Nat) (j:Nat):Prop:=∃x,(S.places k x).getLast?=some (j:Int)
def histS (L:List Rec):HS:=(histN L L.length).done L.length (histN L L.length).txs.length fun j=>∃k,k<(histN L L.length).txs.length/\lastIs (histN L L.length) k j
def FitS (r:Rec):Prop:=FitR r/\r.es.length<=1000
theorem nodup_fst {α β:Type} {f:α->β}:∀{l:List α},(l.map f).Nodup->∀{a b:α},a ∈ l->b ∈ l->f a=f b->a=b
 | [],_,a,b,ha,_,_=>by cases ha
 | c::l,hn,a,b,ha,hb,h=>by
   rw[List.map_cons,List.nodup_cons]at hn
   rcases List.mem_cons.1 ha with e1 | ha' <;> rcases List.mem_cons.1 hb with e2 | hb'
   ·rw[e1,e2]
   ·exact(hn.1 (by rw[<-e1,h];exact List.mem_map.2 ⟨b,hb',rfl⟩)).elim
   ·exact(hn.1 (by rw[<-e2,<-h];exact List.mem_map.2 ⟨a,ha',rfl⟩)).elim
   ·exact nodup_fst hn.2 ha' hb' h
theorem filt_le {α:Type} {f:α->Nat} {seen:List Nat} {b:Nat}:∀(l:List α),(l.filter fun e=>decide (f e ∉ seen++[b])).length<=(l.filter fun e=>decide (f e ∉ seen)).length
 | []=>Nat.le_refl _
 | a::l=>by
   have ih:=filt_le (f:=f) (seen:=seen) (b:=b) l
   rw[List.filter_cons,List.filter_cons]
   by_cases h:f a ∈ seen
   ·have h':f a ∈ seen++[b]:=List.mem_append_left _ h
    simp only[h,h',not_true_eq_false,decide_false]
    simpa using ih
   ·by_cases h':f a ∈ seen++[b]
    ·simp only[h,h',not_true_eq_false,not_false_eq_true,decide_false,decide_true,if_true,List.length_cons]
     simp only[Bool.false_eq_true,if_false]
     omega
    ·simp only[h,h',not_false_eq_true,decide_true,if_true,List.length_cons]
     omega
theorem filt_lt {α:Type} {f:α->Nat} {seen:List Nat}:∀{l:List α} {e:α},f e ∉ seen->e ∈ l->(l.filter fun a=>decide (f a ∉ seen++[f e])).length<(l.filter fun a=>decide (f a ∉ seen)).length
 | [],e,_,he=>by cases he
 | a::l,e,hns,he=>by
   rw[List.filter_cons,List.filter_cons]
   rcases List.mem_cons.1 he with rfl | he
   ·have h':f e ∈ seen++[f e]:=by simp
    have:=filt_le (f:=f) (seen:=seen) (b:=f e) l
    simp only[hns,h',not_true_eq_false,not_false_eq_true,decide_false,decide_true,if_true,List.length_cons]
    simp only[Bool.false_eq_true,if_false]
    omega
   ·have ih:=filt_lt (f:=f) hns he
    by_cases h:f a ∈ seen
    ·have h':f a ∈ seen++[f e]:=List.mem_append_left _ h
     simp only[h,h',not_true_eq_false,decide_false]
     simpa using ih
    ·by_cases h':f a ∈ seen++[f e]
     ·simp only[h,h',not_true_eq_false,not_false_eq_true,decide_false,decide_true,if_true,List.length_cons]
      simp only[Bool.false_eq_true,if_false]
      omega
     ·simp only[h,h',not_false_eq_true,decide_true,if_true,List.length_cons]
      omega
structure NewPost (L:List Rec) (M:Hp) (nx b:Nat) (o:Out):Prop where
 post:∃n rl,CheckR L n rl/\nx<=o.2.2/\((rl≠0/\o.1 = .tup [.nilp,.int .i64 (n:Nat),.int .i64 rl]/\Agr nx M o.2.1) \/
  (rl=0/\∃h N cr,o.1 = .tup [.mp h 0,.int .i64 (n:Nat),.int .i64 0]/\HF o.2.1 o.2.2 N nx h ((histS L).wr L.length cr)/\Agr nx M o.2.1 /\
    ∀j r,L[j]?=some r->RecAtP o.2.1 (OutOf o.2.2 N) r ((cr.drop (j*11)).take 11)))
theorem f10 (hS:SortsU) (hN:SortsN) (ρ:Rho) (hdet:ρ.det=false) {M:Hp} {nx b:Nat} {v:XV} {L:List Rec} (hL:RecsAt M b v L) (hb:b<=nx) (few:L.length<=1000) (fit:∀r ∈ L,FitS r)
 (hT:(∀j r,L[j]?=some r->ruleS (L.take j) r=0)->(∀i r,L[i]?=some r->TakeOk (histN L i) r)/\PlacesOk (histN L L.length)) :
 FOk Tryz.prog ρ 10 [v] M nx (NewPost L M nx b):=by
 have hcv:cellsOf v=[v]/\plain1 v=true:=by
  obtain⟨row,hsl,_⟩:=hL
  exact hsl.cell
 refine FOk.walk (m:=97) (rs:=[.tmp 2,.tmp 3,.tmp 4]) follows Tryz.func10 (by kernel_rfl) rfl rfl rfl ?_
 conv in W _ _ _ _ _ _ _=>arg 4;whnf
 refine xs1 gy55 ?_;try exact⟨⟩
 refine CN_fok (f36 hS hN ρ (hL.agr (Agr.refl _ _)) (by omega) few fun r hr=>(fit r hr).1) ?_
 rintro⟨u,M1,n1⟩ ⟨⟨n,rl,k1,k2⟩,k3,k4⟩
 simp only at k1 k3 k4
 subst k1
 have hA1:Agr nx M M1:=k3.le (by omega)
 by_cases hrl:rl=0
 ·subst hrl
  have hlen:∀N,lenX Tryz.prog N 22 v=some ⟨.int .i64 L.length,[],[]⟩:=fun N=>by
   obtain⟨row,hsl,_⟩:=hL
   exact hsl.len (P:=Tryz.prog) (t:=22) ty22.2.2.2.2.2 N
  have hwf:∀j r,L[j]?=some r->ruleS (L.take j) r=0:=by
   obtain⟨q1,q2 | ⟨r,_,q3,q4⟩⟩:=k2
   ·intro j r hj
    have:=(List.getElem?_eq_some_iff.1 hj).1
    exact q1 j r (by omega) hj
   ·exact(q4 rfl).elim
  obtain⟨hT,hPl⟩:=hT hwf
  clear hwf
  refine xs2 gy55 hlen ?_;try exact⟨⟩
  generalize hM0:tset (tset (tset (tset M1 (n1+7) (XObj.map [] 0)) (n1+8) (XObj.map [] 0)) (n1+9) (XObj.map [] 0)) (n1+11) _=M0
  obtain⟨N0,hF0,hN0⟩:=hf_new (M:=M0) (nx:=n1+12) (lo:=nx) (h:=n1+11) (a:=n1+7) (b:=n1+8) (c:=n1+9) (by omega) (by omega) (by omega) (by omega) (by omega) (by omega) (by omega) (by omega) (by omega) (by omega) (by omega) (by omega) (by omega) (by omega) (by rw[<-hM0];exact(by(repeat (first | rw[tget_tset,if_pos rfl] | rw[tget_tset,if_neg (by omega)] | rw[tget_tdel,if_neg (by omega)]));try (first | rfl | assumption))) (by rw[<-hM0];exact(by(repeat (first | rw[tget_tset,if_pos rfl] | rw[tget_tset,if_neg (by omega)] | rw[tget_tdel,if_neg (by omega)]));try (first | rfl | assumption))) (by rw[<-hM0];exact(by(repeat (first | rw[tget_tset,if_pos rfl] | rw[tget_tset,if_neg (by omega)] | rw[tget_tdel,if_neg (by omega)]));try (first | rfl | assumption))) (by rw[<-hM0];exact(by(repeat (first | rw[tget_tset,if_pos rfl] | rw[tget_tset,if_neg (by omega)] | rw[tget_tdel,if_neg (by omega)]));try (first | rfl | assumption)))
  have hA0:Agr nx M M0:=by rw[<-hM0];exact(by(repeat (refine Agr.set ?_ (by omega) _));exact hA1)
  clear hM0
  refine W_loop (fun m' s=>∃(i:Nat) (N:Hp) (cr:List XV),i<=L.length/\m'=L.length - i/\tget s.env 0=some v/\tget s.env 5=some (.int .i64 n)/\tget s.env 7=some (.mp (n1+11) 0)/\tget s.env 28=some v/\tget s.env 29=some (.int .i64 L.length)/\tget s.env 30=some (.int .i64 i) /\
   HF s.M s.nx N nx (n1+11) ((histN L i).wr i cr)/\Agr nx M s.M/\(∀j r,j<i->L[j]?=some r->RecAtP s.M (OutOf s.nx N) r ((cr.drop (j*11)).take 11))/\n1+12<=s.nx)
   L.length ⟨0,N0,[],by omega,by omega,?_⟩ ?_
  ·refine xs1 gy55 ?_;try exact⟨⟩
   exact⟨hF0.agr (Agr.refl _ _) (by omega),hA0,fun j r hj=>by omega,by omega⟩
  ·rintro m' ⟨env,M',nx'⟩ ⟨i,N,cr,hi,hm',e0,e5,e7,e28,e29,e30,hF,hin,hcp,hn⟩
   simp only at e0 e5 e7 e28 e29 e30 hF hin hcp hn
   by_cases hlt:(i:Int)<L.length
   ·have hlt':i<L.length:=by omega
    obtain⟨r,hri⟩:∃r,L[i]?=some r:=⟨L[i],by simp[hlt']⟩
    obtain⟨row,hsl,hrec⟩:=hL.agr (hin.le hb)
    obtain⟨n,o,hnb,hix,hld⟩:=hsl.elem (P:=Tryz.prog) hlt' (t:=22) (t':=43) ty22.2.2.2.1 ty43.1
    have hld:=hld M' (Agr.refl _ _)
    have hr0:=hrec i r hri
    obtain⟨pk,pa,pb,pv,ve,hcs,⟨p1,p2⟩,⟨q1,q2⟩,_,_⟩:=hr0.cells
    rw[hcs]at hld hr0
    clear hrec hsl hcs
    have hw2:IntKind.i64.wrap ((i:Int)+1)=((i+1:Nat):Int):=by rw[wrap_i64 (by omega) (by omega)];omega
    obtain⟨⟨f1,f2⟩,f3⟩:=fit r (List.mem_of_getElem? hri)
    have hok:=hT i r hri
    clear hT fit hL hA1 k3 hA0 hlen
    refine xs14 gy55 e0 e5 e7 e28 e29 e30 hlt hix hld p1 p2 q1 q2 ?_;try exact⟨⟩
    generalize hM2:tset (tset M' (nx'+4) _) (nx'+4) _=M2
    have a2:Agr (nx'+4) M' M2:=by rw[<-hM2];exact(by(repeat (refine Agr.set ?_ (by omega) _));exact Agr.refl _ _)
    have y2:tget M2 (nx'+4)=some (.row [.int .i64 r.kind,.int .u64 r.t,.int .u64 r.x,.int .u64 r.w,.int .u64 r.n,.int .u64 r.v,.int .i64 pk,.int .u64 pa,.int .u64 pb,pv,ve]):=by rw[<-hM2];exact(by(repeat (first | rw[tget_tset,if_pos rfl] | rw[tget_tset,if_neg (by omega)] | rw[tget_tdel,if_neg (by omega)]));try (first | rfl | assumption))
    clear hM2
    refine CN_fok (f37 ρ (hr0.agr (a2.le (by omega))) (show b<=nx'+8 by omega) (by omega) (by omega)) ?_
    rintro⟨u,M3,n3⟩ ⟨⟨cs',g1,g2⟩,g3,g4⟩
    simp only at g1 g2 g3 g4
    subst g1
    obtain⟨pk',pa',pb',pv',ve',hcs',⟨p1',p2'⟩,⟨q1',q2'⟩,_,_⟩:=(g2.lt (b:=n3) fun k hk=>hk.2).cells
    have hcl:cs'.length=11:=by rw[hcs'];rfl
    have a3:Agr (nx'+4) M' M3:=a2.trans (g3.le (by omega))
    have y3:=(g3 (nx'+4) (by omega)).trans y2
    have hF3:HF M3 n3 N nx (n1+11) ((histN L i).wr i cr):=hF.agr (a3.le (by omega)) (by omega)
    have hNb:tget N (nx'+4)=none:=hF.out (by omega)
    have hout:∀q,PK b (nx'+8) n3 q->OutOf n3 N q/\q≠nx'+4:=fun q hq=>by
     obtain⟨h1,h2⟩:(q<b\/nx'+8<=q)/\q<n3:=hq
     refine⟨⟨h2,?_⟩,by omega⟩
     cases hn:tget N q with
     | none=>rfl
     | some x =>
       have:=hF.lt q x hn
       have:=hF.ge q x hn
       omega
    have hSn:histN L (i+1)=(histN L i).take i r:=by
     conv=>lhs;unfold histN
     rw[hri]
    obtain⟨M4,hM4⟩:∃M4,M4=tset M3 (nx'+4) (.row cs'):=⟨_,rfl⟩
    have o4:∀q,q≠nx'+4->tget M4 q=tget M3 q:=fun q hq=>by rw[hM4,tget_tset,if_neg fun e=>hq e.symm]
    have a4:Agr (nx'+4) M3 M4:=fun q hq=>o4 q (by omega)
    have y4:tget M4 (nx'+4)=some (.row cs'):=by rw[hM4,tget_tset,if_pos rfl]
    have hF4:HF M4 n3 N nx (n1+11) ((histN L i).wr i cr):=hF3.keep (fun k x hk=>o4 k fun e=>by rw[e,hNb]at hk;cases hk) (Nat.le_refl _)
    have g5:RecAtP M4 (OutOf n3 N) r cs':=g2.keep fun q hq=>⟨o4 q (hout q hq).2,(hout q hq).1⟩
    have hcp4:∀j r',j<i->L[j]?=some r'->RecAtP M4 (OutOf n3 N) r' ((cr.drop (j*11)).take 11):=fun j r' h1 h2=>(hcp j r' h1 h2).keep fun q hq=>by
     have:=hq.1
     exact⟨(o4 q (by omega)).trans (a3 q (by omega)),by omega,hq.2⟩
    obtain⟨vrec,c1,nk,c3,c4,vm,c6,om,old,hrow,hhn,hcl2,hcase,hupd⟩:=hF4.addr hcl (show i<=100000 by omega)
    have hd:KEq (n1+11) (nx'+4)=False/\KEq (nx'+4) (n1+11)=False:=by simp only[KEq,eq_iff_iff,iff_false];omega
    have hrow3:=(o4 (n1+11) (by omega)).symm.trans hrow
    have hcl3:cr.length=i*11:=hcl2
    clear g2 g3 y2 a2 hcp hF hF3 hF4 hout hr0
    rcases hcase with ⟨rfl,hn0,rfl⟩ | ⟨sk,rfl,hn1,hsk,hne,hskr,hskN,hskG,rfl⟩
    ·rw[hcs']at hM4
     refine xs15 gy55 e0 e5 e7 e28 e29 e30 y3 hrow3 hd p1' p2' q1' q2' hcs' ?_;try exact⟨⟩
     rw[<-hM4]
     refine⟨okP2_ap _ _ _ _ _ _ (fun q hq=>by simp only[List.mem_singleton]at hq ⊢;omega) (fun q hq=>by simp) (fun q hq=>by simp at hq),?_⟩
     have hi0:i=0:=hn0
     have hcr0:cr=[]:=List.length_eq_zero_iff.1 (by omega)
     generalize hM5:tset (tset (tset M4 (n3+7) _) (n3+8) _) (n1+11) _=M5
     obtain⟨N5,hF5,hA5⟩:=hupd M5 (n3+15) (n3+8) (by omega) (by omega) (fun j h1 h2 _=>by rw[<-hM5];exact(by(repeat (first | rw[tget_tset,if_pos rfl] | rw[tget_tset,if_neg (by omega)] | rw[tget_tdel,if_neg (by omega)]));try (first | rfl | assumption))) (by rw[<-hM5];subst hi0;exact(by(repeat (first | rw[tget_tset,if_pos rfl] | rw[tget_tset,if_neg (by omega)] | rw[tget_tdel,if_neg (by omega)]));try (first | rfl | assumption))) (by rw[<-hM5];show _=some (XObj.row (cr++cs'));rw[hcr0,hcs'];exact(by(repeat (first | rw[tget_tset,if_pos rfl] | rw[tget_tset,if_neg (by omega)] | rw[tget_tdel,if_neg (by omega)]));try (first | rfl | assumption)))
     have hG5:Agr (n1+11) M4 M5:=by rw[<-hM5];exact(by(repeat (refine Agr.set ?_ (by omega) _));exact Agr.refl _ _)
     clear hM5 hM4 hupd
     have hP5:=g5.aside hA5 (q:=OutOf (n3+15) N5) fun q hq=>⟨by have:=hq.1;omega,hq.2⟩
     rw[<-hcs']
     refine CN_fok (f38 ρ hP5 hF5 i ((hok.wr i cr).addr _)) ?_
     rintro⟨u,M6,n6⟩ ⟨k1,k2',N6,k3,k4',k5⟩
     simp only at k1 k2' k3 k4' k5
     subst k1
     rw[show (((histN L i).wr i cr).addr cs')=(histN L i).wr (i+1) (cr++cs') from rfl,take_wr,<-hSn]at k3
     refine xs8 gy55 e0 e5 e7 e28 e29 e30 hw2 ?_;try exact⟨⟩
     refine⟨L.length - (i+1),by omega,i+1,N6,cr++cs',by omega,rfl,rfl,k3.agr (Agr.refl _ _) (by omega),((hin.trans (a3.le (by omega))).trans (a4.le (by omega))).trans ((hG5.le (by omega)).trans (k5.le (by omega))),fun j r' hj hr'=>?_,by omega⟩
     by_cases hji:j=i
     ·subst hji
      rw[hri]at hr'
      cases hr'
      rw[List.drop_append_of_le_length (by omega),List.drop_eq_nil_of_le (by omega),List.nil_append,List.take_of_length_le (by omega)]
      exact hP5.aside k4' fun q hq=>⟨by have:=hq.1;omega,hq.2⟩
     ·have hj':j<i:=by omega
      have hjm:(j+1)*11<=i*11:=Nat.mul_le_mul_right _ hj'
      rw[List.drop_append_of_le_length (by omega),List.take_append_of_le_length (by rw[List.length_drop];omega)]
      exact((hcp4 j r' hj' hr').aside hA5 (q:=OutOf (n3+15) N5) fun q hq=>⟨by have:=hq.1;omega,hq.2⟩).aside k4' fun q hq=>⟨by have:=hq.1;omega,hq.2⟩
    ·have hskn:sk≠nx'+4:=fun e=>hskN (by rw[e];exact hNb)
     have hskr3:tget M3 sk=some (.row cr):=(o4 sk hskn).symm.trans hskr
     have htk:List.take (i*11) cr=cr:=List.take_of_length_le (by omega)
     have hd2:KEq (n1+11) (nx'+4)=False/\KEq (nx'+4) (n1+11)=False/\KEq (n1+11) sk=False/\KEq sk (n1+11)=False/\KEq (nx'+4) sk=False/\KEq sk (nx'+4)=False:=by simp only[KEq,eq_iff_iff,iff_false];omega
     have hn1':1<=i:=hn1
     have hii:((histN L i).wr i cr).nrec=i:=rfl
     rw[hii]at hrow3
     rw[hcs']at hM4
     refine xs18 gy55 e0 e5 e7 e28 e29 e30 y3 hrow3 hskr3 hcl3 htk hd2 p1' p2' q1' q2' hcs' ?_;try exact⟨⟩
     rw[<-hM4]
     refine⟨okP2_ap _ _ _ _ _ _ (fun q hq=>by simp only[List.mem_singleton]at hq ⊢;omega) (fun q hq=>by simp) (fun q hq=>by simp at hq),?_⟩
     generalize hM5:tset (tset (tdel (tset M4 (n3+7) _) sk) (n3+8) _) (n1+11) _=M5
     obtain⟨N5,hF5,hA5⟩:=hupd M5 (n3+15) (n3+8) (by omega) (by omega) (fun j h1 h2 h3=>by
      have h4:j≠sk:=by simpa using h3
      rw[<-hM5];exact(by(repeat (first | rw[tget_tset,if_pos rfl] | rw[tget_tset,if_neg (by omega)] | rw[tget_tdel,if_neg (by omega)]));try (first | rfl | assumption))) (by rw[<-hM5];exact(by(repeat (first | rw[tget_tset,if_pos rfl] | rw[tget_tset,if_neg (by omega)] | rw[tget_tdel,if_neg (by omega)]));try (first | rfl | assumption))) (by rw[<-hM5];show _=some (XObj.row (cr++cs'));rw[hcs'];exact(by(repeat (first | rw[tget_tset,if_pos rfl] | rw[tget_tset,if_neg (by omega)] | rw[tget_tdel,if_neg (by omega)]));try (first | rfl | assumption)))
     have hskx:nx<=sk:=hskG
     have hG5:Agr nx M4 M5:=by rw[<-hM5];exact fun q hq=>(by(repeat (first | rw[tget_tset,if_pos rfl] | rw[tget_tset,if_neg (by omega)] | rw[tget_tdel,if_neg (by omega)]));try (first | rfl | assumption))
     clear hM5 hM4 hupd
     have hP5:=g5.aside hA5 (q:=OutOf (n3+15) N5) fun q hq=>⟨by have:=hq.1;omega,hq.2⟩
     rw[<-hcs']
     refine CN_fok (f38 ρ hP5 hF5 i ((hok.wr i cr).addr _)) ?_
     rintro⟨u,M6,n6⟩ ⟨k1,k2',N6,k3,k4',k5⟩
     simp only at k1 k2' k3 k4' k5
     subst k1
     rw[show (((histN L i).wr i cr).addr cs')=(histN L i).wr (i+1) (cr++cs') from rfl,take_wr,<-hSn]at k3
     refine xs8 gy55 e0 e5 e7 e28 e29 e30 hw2 ?_;try exact⟨⟩
     refine⟨L.length - (i+1),by omega,i+1,N6,cr++cs',by omega,rfl,rfl,k3.agr (Agr.refl _ _) (by omega),((hin.trans (a3.le (by omega))).trans (a4.le (by omega))).trans (hG5.trans (k5.le (by omega))),fun j r' hj hr'=>?_,by omega⟩
     by_cases hji:j=i
     ·subst hji
      rw[hri]at hr'
      cases hr'
      rw[List.drop_append_of_le_length (by omega),List.drop_eq_nil_of_le (by omega),List.nil_append,List.take_of_length_le (by omega)]
      exact hP5.aside k4' fun q hq=>⟨by have:=hq.1;omega,hq.2⟩
     ·have hj':j<i:=by omega
      have hjm:(j+1)*11<=i*11:=Nat.mul_le_mul_right _ hj'
      rw[List.drop_append_of_le_length (by omega),List.take_append_of_le_length (by rw[List.length_drop];omega)]
      exact((hcp4 j r' hj' hr').aside hA5 (q:=OutOf (n3+15) N5) fun q hq=>⟨by have:=hq.1;omega,hq.2⟩).aside k4' fun q hq=>⟨by have:=hq.1;omega,hq.2⟩
   ·have hie:i=L.length:=by omega
    obtain⟨S,hS0⟩:∃S,S=(histN L L.length).wr L.length cr:=⟨_,rfl⟩
    rw[hie,<-hS0]at hF
    have hPl:PlacesOk S:=by rw[hS0];exact⟨hPl.here,hPl.few⟩
    rw[hie]at hcp
    have hcpy:∀j r,L[j]?=some r->RecAtP M' (OutOf nx' N) r ((cr.drop (j*11)).take 11):=fun j r hj=>hcp j r (List.getElem?_eq_some_iff.1 hj).1 hj
    clear hcp hT hF0 hN0 hA0 hL
    obtain⟨mu,lt,ge,top,htop,tag,vrec,vtxs,vcom,vmods,vlook,nk,vk,ok,cn,cv,co,ptrs,lnum,lver,lobj,H⟩:=hF
    have hrow:tget M' (n1+11)=some (.row [vrec,vtxs,.mm nk,vcom,vmods,.mm vk,vlook,.mm ok]):=(mu _ _ H.row).1
    have htl:=fun N=>(H.txs.sl).len (P:=Tryz.prog) (t:=86) ty86.2.2.2.2.2 N
    refine xs10 gy55 e0 e5 e7 e28 e29 e30 hlt hrow htl ?_;try exact⟨⟩
    have e0':=e0
    have e5':=e5
    have e7':=e7
    have hTl:=hPl.few.1
    clear e0 e5 e7 e28 e29 e30 hrow htl hlt
    refine W_loop (fun m2 s=>∃(k:Nat) (N2:Hp),k<=S.txs.length/\m2=S.txs.length - k/\tget s.env 0=some v/\tget s.env 5=some (.int .i64 n)/\tget s.env 7=some (.mp (n1+11) 0)/\tget s.env 55=some vtxs/\tget s.env 56=some (.int .i64 S.txs.length)/\tget s.env 57=some (.int .i64 k) /\
     Mu N2 s.M/\(∀q x,tget N2 q=some x->q<nx'/\nx<=q)/\Hist N2 nx top (n1+11) (S.done L.length k fun j=>∃q,q<k/\lastIs S q j) tag vrec vtxs vcom vmods vlook nk vk ok cn cv co ptrs lnum lver lobj/\Aside nx' N M' N2 s.M/\Agr nx M s.M/\nx'<=s.nx)
     S.txs.length ⟨0,N,by omega,by omega,?_⟩ ?_
    ·refine xs1 gy55 ?_;try exact⟨⟩
     refine⟨by rw[e0'],by rw[e5'],by rw[e7'],mu,fun q x hq=>⟨lt q x hq,ge q x hq⟩,?_,fun q x h1 h2 h3=>⟨h3,h2⟩,hin,by omega⟩
     have:(S.done L.length 0 fun j=>∃q,q<0/\lastIs S q j)=S:=by
      unfold HS.done
      rw[markT_zero,markM_congr (Q:=fun _=>False) (fun j=>by simp),markM_none]
     rw[this];exact H
    ·rintro m2 ⟨env,M2,n2⟩ ⟨k,N2,hk,hm2,e0,e5,e7,e55,e56,e57,mu2,lt2,H2,hA2,hG2,hn2⟩
     simp only at e0 e5 e7 e55 e56 e57 mu2 H2 hA2 hG2 hn2
     by_cases hlt:(k:Int)<S.txs.length
     ·have hlt':k<S.txs.length:=by omega
      obtain⟨a,hak⟩:∃a,S.txs[k]?=some a:=⟨S.txs[k],by simp[hlt']⟩
      have hak2:(S.done L.length k fun j=>∃q,q<k/\lastIs S q j).txs[k]?=some a:=by
       show (markT _ _ _)[k]?=_
       rw[markT_get,hak];simp
      obtain⟨w,hpk,hkn⟩:=H2.known k a hak2
      obtain⟨rk,mk,cm,lm,rfl,r1,r2,r3,r4,m1,m2',m3,m4,⟨hbo,l0⟩,l1⟩:=hkn
      have ms2:MSub N2 M2:=fun q x h _=>(mu2 q x h).1
      have hTx:=H2.txs
      rw[show (S.done L.length k fun j=>∃q,q<k/\lastIs S q j).txs.length=S.txs.length from markT_len ..]at hTx
      obtain⟨q,o,hqb,hix,hld⟩:=(hTx.sub ms2).sl.fldG (P:=Tryz.prog) hlt' (t:=86) ty86.2.2.2.1
      have hld:=hld 0 (.mp rk 0) (by omega) (by rw[Nat.mul_one,List.getElem?_take,if_pos (by omega),List.getElem?_drop,Nat.add_zero];exact hpk) 91 1 ty91.1 M2 (Agr.refl _ _)
      rw[Nat.add_zero]at hld
      have hrk:=(mu2 _ _ r4).1
      have hmk:=(mu2 _ _ m4).1
      have m4x:=m4
      have g0:=e0
      have g5:=e5
      have g7:=e7
      have g55:=e55
      have g56:=e56
      have g57:=e57
      simp only[encTx,List.cons_append,List.nil_append]at hrk
      have dmr:mk≠rk:=tag_ne m3 r3 (by simp)
      have hd3:KEq rk mk=False/\KEq mk rk=False:=by simp only[KEq,eq_iff_iff,iff_false];omega
      have hw2:IntKind.i64.wrap ((k:Int)+1)=((k+1:Nat):Int):=by rw[wrap_i64 (by omega) (by omega)];omega
      have hlenL:∀N,lenX Tryz.prog N 22 v=some ⟨.int .i64 L.length,[],[]⟩:=fun N=>hlen N
      have hpk0:=hpk
      clear hTx hpk
      have hkr:∀q,q<top->tag q ≠ .known k->q≠rk:=fun q _ h e=>h (by rw[e];exact r3)
      by_cases ha3:a.s=3
      case' pos =>
       refine xs20 gy55 e0 e5 e7 e55 e56 e57 hlt hix hld hrk hmk ha3 hlenL hd3 @RN_next @x_range @range_eq @rgC_map ty92.2.2.2.2 ?_;try exact⟨⟩
       obtain⟨it,hit⟩:∃it,it=n2+21:=⟨_,rfl⟩
       rw[<-hit]
       generalize hM3:tset M2 rk _=M3
       have hrk3:tget M3 rk=some (.row (encTx { a with e:=L.length } ++ [.mm mk])):=by rw[<-hM3];simp only[encTx,List.cons_append,List.nil_append,ha3];exact(by(repeat (first | rw[tget_tset,if_pos rfl] | rw[tget_tset,if_neg (by omega)] | rw[tget_tdel,if_neg (by omega)]));try (first | rfl | assumption))
       have o3:∀q,q≠rk->tget M3 q=tget M2 q:=fun q hq=>by rw[<-hM3];exact(by(repeat (first | rw[tget_tset,if_pos rfl] | rw[tget_tset,if_neg (by omega)] | rw[tget_tdel,if_neg (by omega)]));try (first | rfl | assumption))
       have hitn:nx'<=it/\it+1<=n2+22:=by omega
       clear hM3 hit
       obtain⟨N3,hN3⟩:∃N3,N3=tset N2 rk (.row (encTx { a with e:=L.length } ++ [.mm mk])):=⟨_,rfl⟩
       obtain⟨mu3,lt3',A3⟩:=part_set mu2 (fun q x h=>(lt2 q x h).1) (show rk<nx' by omega) (by rw[r4];simp) (x:=.row (encTx { a with e:=L.length } ++ [.mm mk])) rfl hrk3 (fun q _ hq=>o3 q hq)
       rw[<-hN3]at mu3 lt3' A3
       have K3:∀q,q<top->tag q ≠ .known k->tget N3 q=tget N2 q:=fun q h1 h2=>by rw[hN3,tget_tset,if_neg fun e=>hkr q h1 h2 e.symm]
       have lt3:∀q x,tget N3 q=some x->q<nx'/\nx<=q:=fun q x h=>by
        rw[hN3,tget_tset]at h
        split at h
        ·rename_i e;subst e;omega
        ·exact lt2 q x h
       have G3:Agr nx M M3:=fun q hq=>(o3 q (by omega)).trans (hG2 q hq)
       have A3':Aside nx' N M' N3 M3:=hA2.trans A3 (Nat.le_refl _)
       have H3:Hist N3 nx top (n1+11) (S.done L.length (k+1) fun j=>∃q,q<k/\lastIs S q j) tag vrec vtxs vcom vmods vlook nk vk ok cn cv co ptrs lnum lver lobj:=by
        refine H2.setTx (ts:=markT L.length (k+1) S.txs) (i:=k) (a:=a) (a':={ a with e:=L.length }) (by rw[markT_len];exact(markT_len ..).symm) (fun j hj=>?_) ?_ r3 hpk0 hak2 r4 (fun q h1 h2=>by rw[hN3,tget_tset,if_neg fun e=>h2 e.symm]) (by rw[hN3,tget_tset,if_pos rfl])
        ·show _=(markT _ _ _)[j]?
         rw[markT_succ,List.getElem?_modify]
         have:¬ k=j:=fun e=>hj e.symm
         cases (markT (L.length:Int) k S.txs)[j]? <;> simp[this]
        ·rw[markT_get,hak]
         simp[ha3]
       have hmk3:tget M3 mk=some (.map (entU vX lm) cm):=(o3 mk dmr).trans hmk
       have ha3:=True.intro
      case' neg =>
       refine xs20 gy55 e0 e5 e7 e55 e56 e57 hlt hix hld hrk hmk ha3 hlenL hd3 @RN_next @x_range @range_eq @rgC_map ty92.2.2.2.2 ?_;try exact⟨⟩
       obtain⟨it,hit⟩:∃it,it=n2+14:=⟨_,rfl⟩
       rw[<-hit]
       obtain⟨M3,hM3⟩:∃M3,M3=M2:=⟨_,rfl⟩
       obtain⟨N3,hN3⟩:∃N3,N3=N2:=⟨_,rfl⟩
       have hitn:nx'<=it/\it+1<=n2+15:=by omega
       rw[<-hM3]
       have mu3:Mu N3 M3:=by rw[hN3,hM3];exact mu2
       have K3:∀q,q<top->tag q ≠ .known k->tget N3 q=tget N2 q:=fun q h1 h2=>by rw[hN3]
       have lt3:∀q x,tget N3 q=some x->q<nx'/\nx<=q:=by rw[hN3];exact lt2
       have G3:Agr nx M M3:=by rw[hM3];exact hG2
       have A3':Aside nx' N M' N3 M3:=by rw[hM3,hN3];exact hA2
       have H3:Hist N3 nx top (n1+11) (S.done L.length (k+1) fun j=>∃q,q<k/\lastIs S q j) tag vrec vtxs vcom vmods vlook nk vk ok cn cv co ptrs lnum lver lobj:=by
        have:markT (L.length:Int) (k+1) S.txs=markT L.length k S.txs:=by
         refine List.ext_getElem? fun j=>?_
         rw[markT_succ,List.getElem?_modify]
         by_cases hj:k=j
         ·subst hj
          rw[markT_get,hak]
          simp[ha3]
         ·cases (markT (L.length:Int) k S.txs)[j]? <;> simp[hj]
        rw[hN3]
        unfold HS.done at H2 ⊢
        rw[this];exact H2
       have hmk3:tget M3 mk=some (.map (entU vX lm) cm):=by rw[hM3];exact hmk
       clear hM3 hN3 hit
       have ha3:=True.intro
      all_goals
       clear hak2 hix hld hrk hd3 H2 hA2 hG2 lt2 hpk0 ha3 e0 e5 e7 e55 e56 e57 hmk
       refine W_loop (fun m4 s=>∃(seen:List Nat) (st:Nat) (N4:Hp),m4=(lm.filter fun e=>decide (e.1 ∉ seen)).length/\tget s.env 0=some v/\tget s.env 5=some (.int .i64 n)/\tget s.env 7=some (.mp (n1+11) 0)/\tget s.env 55=some vtxs/\tget s.env 56=some (.int .i64 S.txs.length)/\tget s.env 57=some (.int .i64 k)/\tget s.env 77=some (.mp it 0) /\
        tget s.M it=some (.iter (some mk) cm seen st)/\cm<=st/\Mu N4 s.M/\(∀q x,tget N4 q=some x->q<nx'/\nx<=q) /\
        Hist N4 nx top (n1+11) (S.done L.length (k+1) fun j=>(∃q,q<k/\lastIs S q j)\/∃e ∈ lm,e.1 ∈ seen/\(S.places k e.2.1).getLast?=some (j:Int)) tag vrec vtxs vcom vmods vlook nk vk ok cn cv co ptrs lnum lver lobj /\
        (∀q,q<top->tag q ≠ .mods->tget N4 q=tget N3 q)/\Aside nx' N M' N4 s.M/\Agr nx M s.M/\it<s.nx)
        _ ⟨[],cm,N3,rfl,?_⟩ ?_
       ·refine xs1 gy55 ?_;try exact⟨⟩
        refine⟨g0,g5,g7,g55,g56,g57,Nat.le_refl _,fun q x hq=>?_,lt3,?_,fun _ _ _=>trivial,fun q x h1 h2 h3=>?_,fun q hq=>?_,by omega⟩
        ·obtain⟨q1,q2⟩:=mu3 q x hq
         have:=(lt3 q x hq).1
         exact⟨by rw[tget_tset,if_neg (by omega)];exact q1,q2⟩
        ·have:(S.done L.length (k+1) fun j=>(∃q,q<k/\lastIs S q j)\/∃e ∈ lm,e.1 ∈ ([]:List Nat)/\(S.places k e.2.1).getLast?=some (j:Int))=S.done L.length (k+1) fun j=>∃q,q<k/\lastIs S q j:=by
          unfold HS.done
          rw[markM_congr (Q:=fun j=>∃q,q<k/\lastIs S q j) fun j=>by simp]
         rw[this];exact H3
        ·obtain⟨q1,q2⟩:=A3' q x h1 h2 h3
         exact⟨by rw[tget_tset,if_neg (by omega)];exact q1,q2⟩
        ·rw[tget_tset,if_neg (by omega)];exact G3 q hq
       ·rintro m4 ⟨env4,M4,n4⟩ ⟨seen,st,N4,hm4,f0,f5,f7,f55,f56,f57,f77,hitr,hst,mu4,lt4,H4,K4,A4,G4,hn4⟩
        simp only at f0 f5 f7 f55 f56 f57 f77 hitr mu4 H4 A4 G4 hn4
        have hmk4:tget M4 mk=some (.map (entU vX lm) cm):=(mu4 mk _ (by rw[K4 mk m2' (by rw[m3];simp),K3 mk m2' (by rw[m3];simp)];exact m4x)).1
        refine xs3 gy55 @f77 @RN_next ?_;try exact⟨⟩
        refine NX_map hdet hitr hmk4 hbo.lt hst (Nat.le_refl _) ?_ ?_
        ·intro hall
         have hP:Hist N4 nx top (n1+11) (S.done L.length (k+1) fun j=>∃q,q<k+1/\lastIs S q j) tag vrec vtxs vcom vmods vlook nk vk ok cn cv co ptrs lnum lver lobj:=by
          have:(S.done L.length (k+1) fun j=>(∃q,q<k/\lastIs S q j)\/∃e ∈ lm,e.1 ∈ seen/\(S.places k e.2.1).getLast?=some (j:Int))=S.done L.length (k+1) fun j=>∃q,q<k+1/\lastIs S q j:=by
           unfold HS.done
           rw[markM_congr (Q:=fun j=>∃q,q<k+1/\lastIs S q j) fun j=>?_]
           constructor
           ·rintro(⟨q,h1,h2⟩ | ⟨e,h1,h2,h3⟩)
            ·exact⟨q,by omega,h2⟩
            ·exact⟨k,by omega,e.2.1,h3⟩
           ·rintro⟨q,h1,h2⟩
            by_cases hq:q=k
            ·subst hq
             obtain⟨x,hx⟩:=h2
             right
             cases hl:alook lm x with
             | none =>
               rw[show S.places q x=[] from l0 x hl]at hx
               cases hx
             | some u =>
               obtain⟨b',hb'⟩:=mem_of_alook hl
               exact⟨(b',x,u),hb',hall _ hb',hx⟩
            ·exact .inl ⟨q,by omega,h2⟩
          rw[<-this];exact H4
         clear K4 K3 hall
         refine xt8 gy55 f0 @f5 @f7 @f55 @f56 @f57 hw2 ?_;try exact⟨⟩
         exact⟨S.txs.length - (k+1),by omega,k+1,N4,by omega,rfl,rfl,mu4,lt4,hP,A4,G4,by omega⟩
        ·intro e he hns
         have hal:=alook_of_mem hbo.kd e he
         obtain⟨hne,hown⟩:=l1 e.2.1 e.2.2 hal
         have ms4:MSub N4 M4:=fun q x h _=>(mu4 q x h).1
         have hsl:=((hown.keep (M':=N4) (tag':=tag) (fun q h1 h2=>⟨by rw[K4 q h1 (by rw[h2];simp),K3 q h1 (by rw[h2];simp)],h2⟩) (Nat.le_refl _)).sub ms4).sl
         have hnel:0<(S.places k e.2.1).length:=List.length_pos_iff.2 hne
         have hpf:=hPl.few.2.2 k e.2.1
         obtain⟨j0,hj0,hj0l,hlast⟩:∃j0:Nat,(S.places k e.2.1)[(S.places k e.2.1).length - 1]?=some (j0:Int)/\j0<S.mods.length/\(S.places k e.2.1).getLast?=some (j0:Int):=by
          obtain⟨z,hz⟩:∃z,(S.places k e.2.1)[(S.places k e.2.1).length - 1]?=some z:=⟨(S.places k e.2.1)[(S.places k e.2.1).length - 1],by simp[hnel]⟩
          obtain⟨h1,h2⟩:=hPl.here k e.2.1 z (List.mem_of_getElem? hz)
          refine⟨z.toNat,by rw[hz];congr 1;omega,by omega,?_⟩
          rw[List.getLast?_eq_getElem?,hz]
          congr 1;omega
         obtain⟨q,o,hqb,hix,hld⟩:=hsl.fldG (P:=Tryz.prog) (i:=(S.places k e.2.1).length - 1) (by show _<(S.places k e.2.1).length;omega) (t:=58) ty58.2.2.2.1
         have hlx:∀N,lenX Tryz.prog N 58 e.2.2=some ⟨.int .i64 ((S.places k e.2.1).length:Nat),[],[]⟩:=fun N=>hsl.len (P:=Tryz.prog) (t:=58) ty58.2.2.2.2.2 N
         have hld:=hld 0 (.int .i64 j0) (by omega) (by
          rw[Nat.mul_one,List.getElem?_take,if_pos (by omega),List.getElem?_drop,Nat.add_zero,List.getElem?_map]
          show Option.map _ (S.places k e.2.1)[_]?=_
          rw[hj0];rfl) 3 1 ty3.1
         rw[Nat.add_zero]at hld
         obtain⟨z1,z2,z3⟩:=H4.mods
         obtain⟨P4,hP4⟩:∃P4:Nat->Prop,P4=fun j=>(∃q,q<k/\lastIs S q j)\/∃e ∈ lm,e.1 ∈ seen/\(S.places k e.2.1).getLast?=some (j:Int):=⟨_,rfl⟩
         rw[<-hP4]at H4 z1 z2 z3
         have hml:(S.done L.length (k+1) P4).mods.length=S.mods.length:=markM_len ..
         rw[hml]at z1 z2 z3
         obtain⟨crow,hcrow⟩:∃crow,crow=(S.done L.length (k+1) P4).mods.flatMap encMod:=⟨_,rfl⟩
         rw[<-hcrow]at z2 z3
         rcases z3 with ⟨_,z0⟩ | ⟨_,mkey,hvm,y1,y2,y3,y4⟩
         ·omega
         have hmb:=hPl.few.2.1
         have hixm:∀κ,indexAddrX Tryz.prog 64 vmods (.int κ (j0:Int))=some (.mp mkey (j0*8)):=fun κ=>by
          rw[hvm,indexAddr_eq,ty64.2.2.2.1,iaC_some _ _ _ _ _ (by omega) (by omega)];simp
         have hw3:IntKind.i64.wrap (((S.places k e.2.1).length:Int) - 1)=(((S.places k e.2.1).length - 1:Nat):Int):=by rw[wrap_i64 (by omega) (by omega)];omega
         have hlen2:((S.done L.length (k+1) fun j=>∃q,q<k/\lastIs S q j).places k e.2.1).length=(S.places k e.2.1).length:=rfl
         have hrow4:=(mu4 _ _ H4.row).1
         have hmr4:=(mu4 _ _ y4).1
         have hhh:=H4.h_hi
         generalize hM5:tset M4 it _=M5
         have hent:entryX M5 (.mp it 0)=some ⟨.tup [.int .u64 e.2.1,e.2.2],[it,mk],[]⟩:=entry_map (vf:=vX) (l:=lm) (by rw[<-hM5];exact(by(repeat (first | rw[tget_tset,if_pos rfl] | rw[tget_tset,if_neg (by omega)] | rw[tget_tdel,if_neg (by omega)]));try (first | rfl | assumption))) (by rw[<-hM5];exact(by(repeat (first | rw[tget_tset,if_pos rfl] | rw[tget_tset,if_neg (by omega)] | rw[tget_tdel,if_neg (by omega)]));try (first | rfl | assumption))) hbo.nd he
         have w1:tget M5 (n1+11)=some (.row [vrec,vtxs,.mm nk,vcom,vmods,.mm vk,vlook,.mm ok]):=by rw[<-hM5];exact(by(repeat (first | rw[tget_tset,if_pos rfl] | rw[tget_tset,if_neg (by omega)] | rw[tget_tdel,if_neg (by omega)]));try (first | rfl | assumption))
         have w2:tget M5 mkey=some (.row crow):=by rw[<-hM5];exact(by(repeat (first | rw[tget_tset,if_pos rfl] | rw[tget_tset,if_neg (by omega)] | rw[tget_tdel,if_neg (by omega)]));try (first | rfl | assumption))
         have w3:tget M5 it=some (.iter (some mk) cm (seen++[e.1]) cm):=by rw[<-hM5];exact(by(repeat (first | rw[tget_tset,if_pos rfl] | rw[tget_tset,if_neg (by omega)] | rw[tget_tdel,if_neg (by omega)]));try (first | rfl | assumption))
         have hld5:=hld M5 (by rw[<-hM5];exact(Agr.refl _ _).set (by omega) _)
         have G5:Agr nx M M5:=by rw[<-hM5];exact(by(repeat (refine Agr.set ?_ (by omega) _));exact G4)
         have mu5:Mu N4 M5:=fun q x hq=>by
          obtain⟨q1,q2⟩:=mu4 q x hq
          have:=(lt4 q x hq).1
          exact⟨by rw[<-hM5,tget_tset,if_neg (by omega)];exact q1,q2⟩
         have A5:Aside nx' N M' N4 M5:=fun q x h1 h2 h3=>by
          obtain⟨q1,q2⟩:=A4 q x h1 h2 h3
          exact⟨by rw[<-hM5,tget_tset,if_neg (by omega)];exact q1,q2⟩
         clear hM5 hld A4 G4 mu4 hown hsl
         clear K3 hlen2
         refine xt18 gy55 f0 @f5 @f7 @f55 @f56 @f57 @f77 @x_entry hent w1 w2 hlx hix hld5 hixm hw3 z2 ?_;try exact⟨⟩
         generalize hcw:putAt crow (j0*8+7) [XV.bool true]=crow'
         have hcw2:crow'=(markM (fun j=>P4 j\/j=j0) S.mods).flatMap encMod:=by
          rw[<-hcw,hcrow];exact(enc_fin P4 S.mods hj0l).symm
         obtain⟨mu6,lt6,A6⟩:=part_set mu5 (fun q x h=>(lt4 q x h).1) (show mkey<nx' by omega) (by rw[y4];simp) (x:=.row crow') rfl (M':=tset M5 mkey (.row crow')) (by rw[tget_tset,if_pos rfl]) (fun q _ hq=>by rw[tget_tset,if_neg fun e=>hq e.symm])
         have lt7:∀q x,tget (tset N4 mkey (.row crow')) q=some x->q<nx'/\nx<=q:=fun q x h=>by
          rw[tget_tset]at h
          split at h
          ·rename_i e1;subst e1;omega
          ·exact lt4 q x h
         have hH6:=H4.setMods (ms:=markM (fun j=>P4 j\/j=j0) S.mods) (M':=tset N4 mkey (.row crow')) (fun q h1 h2=>by rw[tget_tset,if_neg fun e1=>h2 (by rw[<-e1];exact y3)])
          ⟨by rw[markM_len];exact z1,by rw[<-hcw2,markM_len,<-hcw,putAt_len _ _ _ (by simp only[List.length_cons,List.length_nil];omega)];exact z2,.inr ⟨by rw[markM_len];omega,mkey,by rw[markM_len];exact hvm,y1,y2,y3,by rw[tget_tset,if_pos rfl,hcw2]⟩⟩
         have hH7:Hist (tset N4 mkey (.row crow')) nx top (n1+11) (S.done L.length (k+1) fun j=>(∃q,q<k/\lastIs S q j)\/∃e' ∈ lm,e'.1 ∈ seen++[e.1]/\(S.places k e'.2.1).getLast?=some (j:Int)) tag vrec vtxs vcom vmods vlook nk vk ok cn cv co ptrs lnum lver lobj:=by
          have:markM (fun j=>(∃q,q<k/\lastIs S q j)\/∃e' ∈ lm,e'.1 ∈ seen++[e.1]/\(S.places k e'.2.1).getLast?=some (j:Int)) S.mods=markM (fun j=>P4 j\/j=j0) S.mods:=by
           refine markM_congr (fun j=>?_) _
           rw[hP4]
           constructor
           ·rintro(h | ⟨e',h1,h2,h3⟩)
            ·exact .inl (.inl h)
            ·rcases List.mem_append.1 h2 with h2 | h2
             ·exact .inl (.inr ⟨e',h1,h2,h3⟩)
             ·rw[List.mem_singleton]at h2
              have:e'=e:=nodup_fst hbo.nd h1 he h2
              subst this
              rw[hlast]at h3
              right
              simp only[Option.some.injEq]at h3
              omega
           ·rintro((h | ⟨e',h1,h2,h3⟩) | h)
            ·exact .inl h
            ·exact .inr ⟨e',h1,List.mem_append_left _ h2,h3⟩
            ·subst h
             exact .inr ⟨e,he,by simp,hlast⟩
          unfold HS.done
          rw[this]
          exact hH6
         refine⟨_,?_,seen++[e.1],cm,tset N4 mkey (.row crow'),rfl,(by(repeat (first | rw[tget_tset,if_pos rfl] | rw[tget_tset,if_neg (by omega)] | rw[tget_tdel,if_neg (by omega)]));try (first | rfl | assumption)),Nat.le_refl _,mu6,lt7,hH7,fun q h1 h2=>?_,A5.trans A6 (Nat.le_refl _),(by(repeat (refine Agr.set ?_ (by omega) _));exact G5),by omega⟩
         ·rw[hm4]
          exact filt_lt hns he
         ·rw[tget_tset,if_neg fun e1=>h2 (by rw[<-e1];exact y3)]
          exact K4 q h1 h2
     ·have hke:k=S.txs.length:=by omega
      refine xs8 gy55 e0 e5 e7 e55 e56 e57 hlt ?_;try exact⟨⟩
      refine⟨n,0,k2,by simp only;omega,.inr ⟨rfl,n1+11,N2,cr,rfl,⟨mu2,fun q x hq=>by have:=(lt2 q x hq).1;simp only;omega,fun q x hq=>(lt2 q x hq).2,top,by simp only;omega,tag,vrec,vtxs,vcom,vmods,vlook,nk,vk,ok,cn,cv,co,ptrs,lnum,lver,lobj,?_⟩,hG2,fun j r hj=>(hcpy j r hj).aside hA2 fun q hq=>⟨by have:=hq.1;simp only;omega,hq.2⟩⟩⟩
      rw[hke,hS0]at H2
      exact H2
 ·refine xs2 gy55 hrl ?_;try exact⟨⟩
  exact⟨n,rl,k2,by simp only;omega,.inl ⟨hrl,rfl,hA1⟩⟩
end
end Go.Xs
namespace Go.Xs
noncomputable section
theorem ruleNo_ne (i:Nat):ruleNo i≠0:=by
 unfold ruleNo
 split
 ·decide
 ·split
  ·decide
  ·omega
theorem ruleGo_keeps {l:List Rec} {r:Rec}:∀(n i:Nat),ruleGo l r n i=0->∀j,i<=j->j<i+n->keepsS j l r=true
 | 0,i,_,j,h1,h2=>by omega
 | n+1,i,h,j,h1,h2=>by
   unfold ruleGo at h
   split at h
   ·rename_i hk
    by_cases e:j=i
    ·subst e;exact hk
    ·exact ruleGo_keeps n (i+1) h j (by omega) (by omega)
   ·exact(ruleNo_ne i h).elim
theorem rule_keeps {l:List Rec} {r:Rec} (h:ruleS l r=0) (j:Nat) (hj:j<12):keepsS j l r=true:=ruleGo_keeps 12 0 h j (by omega) (by omega)
theorem rule_kind {l:List Rec} {r:Rec} (h:ruleS l r=0):1<=r.kind/\r.kind<=7:=by
 have:=rule_keeps h 0 (by omega)
 simp only[keepsS,Bool.and_eq_true,decide_eq_true_eq]at this
 exact this
theorem rule_fresh {l:List Rec} {r:Rec} (h:ruleS l r=0) (h1:r.kind=1):endOf l r.t=none:=by
 have:=rule_keeps h 3 (by omega)
 simp only[keepsS,h1,decide_true,Bool.not_true,Bool.false_or,Bool.not_eq_true']at this
 cases he:endOf l r.t with
 | none=>rfl
 | some b=>rw[he]at this;cases this
theorem rule_begun {l:List Rec} {r:Rec} (h:ruleS l r=0) (h1:r.kind≠1):∃b,endOf l r.t=some b:=by
 have:=rule_keeps h 4 (by omega)
 simp only[keepsS,h1,decide_false,Bool.false_or]at this
 exact Option.isSome_iff_exists.1 this
structure HOk (S:HS) (l:List Rec):Prop where
 num:∀t k,S.num t=some k->∃(j:Nat) (a:TxS),k=(j:Int)/\S.txs[j]?=some a/\a.t=t
 txs:∀(j:Nat) a,S.txs[j]?=some a->S.num a.t=some (j:Int)
 fresh:∀t,endOf l t=none->S.num t=none
 begun:∀t b,endOf l t=some b->S.num t≠none
 com:∀(j j':Nat) a b,S.txs[j]?=some a->S.txs[j']?=some b->a.s=1->b.s=1->j=j'\/(a.n<b.n/\a.e<b.e)\/(b.n<a.n/\b.e<a.e)
 comb:∀(j:Nat) a,S.txs[j]?=some a->a.s=1->a.n<S.com.length/\0<=a.e/\a.e<l.length
 com0:∀(j:Nat) a,S.txs[j]?=some a->a.s=1->0<=a.n
 mods:∀(j:Nat) m,S.mods[j]?=some m->∃k:Nat,S.num m.t=some (k:Int)/\(j:Int) ∈ S.places k m.x/\m.w=m.t/\1<=m.n/\m.n<=((S.places k m.x).length:Int)/\S.ver m.x m.w m.n=some (j:Int)/\m.fin=false
 places:∀(k:Nat) x z,z ∈ S.places k x->∃(j:Nat) (m:ModS),z=(j:Int)/\S.mods[j]?=some m/\m.x=x/\S.num m.t=some (k:Int)
 vers:∀x w n z,S.ver x w n=some z->∃(j:Nat) (m:ModS),z=(j:Int)/\S.mods[j]?=some m/\m.x=x/\m.w=w/\m.n=n
 ntx:S.txs.length<=l.length
 nmod:S.mods.length<=l.length
 ncom:S.com.length<=l.length
 npl:∀k x,(S.places k x).length<=l.length
 nlook:S.looks.length<=1001*l.length
 nobj:∀x,0<=(S.obj x).getD 0/\(S.obj x).getD 0<=1001*(l.length:Int)
theorem endStep_other {t:Int} {o:Option Bool} {r:Rec} (h:r.kind≠1) (h6:r.kind≠6) (h7:r.kind≠7):endStep t o r=o:=by
 unfold endStep
 by_cases e:r.t=t
 ·rw[if_pos e,if_neg h,if_neg (by rintro(q | q)<;>contradiction)]
 ·rw[if_neg e]
theorem HOk.start:HOk HS0 []:=by
 exact⟨(fun t k h=>by cases h),(fun j a h=>by simp[HS0]at h),(fun t _=>rfl),(fun t b h=>by cases h),(fun j j' a b h=>by simp[HS0]at h),(fun j a h=>by simp[HS0]at h),(fun j a h=>by simp[HS0]at h),(fun j m h=>by simp[HS0]at h),(fun k x z h=>by simp[HS0]at h),(fun x w n z h=>by cases h),by simp[HS0],by simp[HS0],by simp[HS0],by simp[HS0],by simp[HS0],by simp[HS0]⟩
variable {S:HS} {l:List Rec} {r:Rec}
theorem HOk.looks {S':HS} (h:HOk S l) (he:∀t,endOf (l++[r]) t=endOf l t) (e1:S'.num=S.num) (e2:S'.txs=S.txs) (e3:S'.com=S.com) (e4:S'.mods=S.mods) (e5:S'.places=S.places) (e6:S'.ver=S.ver)
 (h1:S'.looks.length<=S.looks.length+1001) (h2:∀x,0<=(S'.obj x).getD 0/\(S'.obj x).getD 0<=(S.obj x).getD 0+1001):HOk S' (l++[r]):=by
 refine⟨?_,?_,?_,?_,?_,?_,?_,?_,?_,?_,?_,?_,?_,?_,?_,?_⟩
 ·rw[e1,e2];exact h.num
 ·rw[e1,e2];exact h.txs
 ·intro t ht;rw[he]at ht;rw[e1];exact h.fresh t ht
 ·intro t b ht;rw[he]at ht;rw[e1];exact h.begun t b ht
 ·rw[e2];exact h.com
 ·intro j a h1 h2
  rw[e2]at h1
  have:=h.comb j a h1 h2
  rw[e3,List.length_append]
  simp only[List.length_cons,List.length_nil]
  omega
 ·rw[e2];exact h.com0
 ·rw[e1,e4,e5,e6];exact h.mods
 ·rw[e1,e4,e5];exact h.places
 ·rw[e4,e6];exact h.vers
 ·rw[e2,List.length_append];have:=h.ntx;omega
 ·rw[e4,List.length_append];have:=h.nmod;omega
 ·rw[e3,List.length_append];have:=h.ncom;omega
 ·intro k x;rw[e5,List.length_append];have:=h.npl k x;omega
 ·rw[List.length_append];have:=h.nlook;simp only[List.length_cons,List.length_nil];omega
 ·intro x
  have:=h.nobj x
  have:=h2 x
  rw[List.length_append]
  simp only[List.length_cons,List.length_nil]
  omega
theorem HOk.begin (h:HOk S l) (h1:r.kind=1) (hf:endOf l r.t=none) (i:Int):HOk (S.begin i r) (l++[r]):=by
 have hnone:=h.fresh _ hf
 have hend:∀t,endOf (l++[r]) t=if r.t=t then some false else endOf l t:=fun t=>by
  rw[endOf_snoc];unfold endStep;rw[if_pos h1]
 have hnumlt:∀t (k:Nat),S.num t=some (k:Int)->k<S.txs.length:=fun t k hk=>by
  obtain⟨j,a,e,h2,_⟩:=h.num t _ hk
  have:=(List.getElem?_eq_some_iff.1 h2).1
  omega
 have hget:∀(j:Nat) a,(S.txs++[(⟨r.t,i,0,3,-1⟩:TxS)])[j]?=some a->S.txs[j]?=some a\/(j=S.txs.length/\a=⟨r.t,i,0,3,-1⟩):=fun j a hj=>by
  by_cases hl:j<S.txs.length
  ·rw[List.getElem?_append_left hl]at hj;exact .inl hj
  ·have:=(List.getElem?_eq_some_iff.1 hj).1
   simp only[List.length_append,List.length_cons,List.length_nil]at this
   have e:j=S.txs.length:=by omega
   subst e
   rw[List.getElem?_concat_length]at hj
   cases hj
   exact .inr ⟨rfl,rfl⟩
 have hpl:∀(k:Nat) t x,S.num t=some (k:Int)->(S.begin i r).places k x=S.places k x:=fun k t x hk=>by
  have:=hnumlt t k hk
  exact if_neg (by omega)
 have hplN:∀x,S.places S.txs.length x=[]\/True:=fun _=>.inr trivial
 refine⟨fun t k hk=>?_,fun j a hj=>?_,fun t ht=>?_,fun t b ht=>?_,fun j j' a b hj hj' ha hb=>?_,fun j a hj ha=>?_,fun j a hj ha=>?_,fun j m hm=>?_,fun k x z hz=>?_,h.vers,?_,?_,?_,fun k x=>?_,?_,fun x=>?_⟩
 ·have hk':(if t=r.t then some (S.txs.length:Int) else S.num t)=some k:=hk
  split at hk'
  ·rename_i e
   cases hk'
   exact⟨S.txs.length,⟨r.t,i,0,3,-1⟩,rfl,by show (S.txs++[_])[S.txs.length]?=_;rw[List.getElem?_concat_length],e.symm⟩
  ·obtain⟨j,a,e,h2,h3⟩:=h.num t k hk'
   have:=(List.getElem?_eq_some_iff.1 h2).1
   exact⟨j,a,e,by show (S.txs++[_])[j]?=_;rw[List.getElem?_append_left this];exact h2,h3⟩
 ·show (if a.t=r.t then some (S.txs.length:Int) else S.num a.t)=_
  rcases hget j a hj with hj | ⟨e,rfl⟩
  ·have:=h.txs j a hj
   rw[if_neg fun e=>by rw[e,hnone]at this;cases this]
   exact this
  ·rw[if_pos rfl,e]
 ·rw[hend]at ht
  split at ht
  ·cases ht
  ·rename_i e
   show (if t=r.t then some (S.txs.length:Int) else S.num t)=_
   rw[if_neg fun q=>e q.symm]
   exact h.fresh t ht
 ·rw[hend]at ht
  show (if t=r.t then some (S.txs.length:Int) else S.num t)≠_
  split at ht
  ·rename_i e;rw[if_pos e.symm];simp
  ·rename_i e
   rw[if_neg fun q=>e q.symm]
   exact h.begun t b ht
 ·rcases hget j a hj with hj | ⟨_,rfl⟩
  ·rcases hget j' b hj' with hj' | ⟨_,rfl⟩
   ·exact h.com j j' a b hj hj' ha hb
   ·cases hb
  ·cases ha
 ·rcases hget j a hj with hj | ⟨_,rfl⟩
  ·have:=h.comb j a hj ha
   rw[List.length_append]
   simp only[List.length_cons,List.length_nil]
   show a.n<S.com.length/\_
   omega
  ·cases ha
 ·rcases hget j a hj with hj | ⟨_,rfl⟩
  ·exact h.com0 j a hj ha
  ·cases ha
 ·obtain⟨k,h2,h3,h4,h5,h6,h7,h8⟩:=h.mods j m hm
  have hne:m.t≠r.t:=fun e=>by rw[e,hnone]at h2;cases h2
  refine⟨k,?_,?_,h4,h5,?_,h7,h8⟩
  ·show (if m.t=r.t then some (S.txs.length:Int) else S.num m.t)=_
   rw[if_neg hne];exact h2
  ·rw[hpl k _ _ h2];exact h3
  ·rw[hpl k _ _ h2];exact h6
 ·have hz':z ∈ (if k=S.txs.length then [] else S.places k x):=hz
  split at hz'
  ·cases hz'
  ·obtain⟨j,m,e1,e2,e3,e4⟩:=h.places k x z hz'
   refine⟨j,m,e1,e2,e3,?_⟩
   show (if m.t=r.t then some (S.txs.length:Int) else S.num m.t)=_
   rw[if_neg fun e=>by rw[e,hnone]at e4;cases e4]
   exact e4
 ·show (S.txs++[_]).length<=_
  have:=h.ntx
  simp only[List.length_append,List.length_cons,List.length_nil]
  omega
 ·rw[List.length_append];have:=h.nmod;show S.mods.length<=_;omega
 ·rw[List.length_append];have:=h.ncom;show S.com.length<=_;omega
 ·show (if k=S.txs.length then [] else S.places k x).length<=_
  have:=h.npl k x
  rw[List.length_append]
  split
  ·simp
  ·omega
 ·rw[List.length_append];have:=h.nlook;show S.looks.length<=_;omega
 ·have:=h.nobj x
  rw[List.length_append]
  simp only[List.length_cons,List.length_nil]
  show 0<=(S.obj x).getD 0/\(S.obj x).getD 0<=_
  omega
theorem HOk.modify (h:HOk S l) (h34:r.kind=3\/r.kind=4) {k:Nat} (hk:S.num r.t=some (k:Int)) (i:Int):HOk (S.modify i r k) (l++[r]):=by
 have he:∀t,endOf (l++[r]) t=endOf l t:=fun t=>by rw[endOf_snoc,endStep_other (by omega) (by omega) (by omega)]
 obtain⟨nm,hnm⟩:∃nm:ModS,nm=⟨i,r.t,r.x,r.t,(((S.places k r.x).length+1:Nat):Int),r.v,decide (r.kind=4),false⟩:=⟨_,rfl⟩
 have hms:(S.modify i r k).mods=S.mods++[nm]:=by rw[hnm];rfl
 have hget:∀(j:Nat) m,(S.mods++[nm])[j]?=some m->S.mods[j]?=some m\/(j=S.mods.length/\m=nm):=fun j m hj=>by
  by_cases hl:j<S.mods.length
  ·rw[List.getElem?_append_left hl]at hj;exact .inl hj
  ·have:=(List.getElem?_eq_some_iff.1 hj).1
   simp only[List.length_append,List.length_cons,List.length_nil]at this
   have e:j=S.mods.length:=by omega
   subst e
   rw[List.getElem?_concat_length]at hj
   cases hj
   exact .inr ⟨rfl,rfl⟩
 have hold:∀(j:Nat) m,S.mods[j]?=some m->(S.mods++[nm])[j]?=some m:=fun j m hj=>by
  rw[List.getElem?_append_left (List.getElem?_eq_some_iff.1 hj).1];exact hj
 have hpl:∀(j:Nat) x,(S.modify i r k).places j x=if j=k/\x=r.x then S.places k r.x++[(S.mods.length:Int)] else S.places j x:=fun _ _=>rfl
 have hver:∀x w n,(S.modify i r k).ver x w n=if x=r.x/\w=r.t/\n=(((S.places k r.x).length+1:Nat):Int) then some (S.mods.length:Int) else S.ver x w n:=fun _ _ _=>rfl
 refine⟨h.num,h.txs,fun t ht=>h.fresh t (by rw[he]at ht;exact ht),fun t b ht=>h.begun t b (by rw[he]at ht;exact ht),h.com,fun j a hj ha=>?_,h.com0,fun j m hm=>?_,fun k' x z hz=>?_,fun x w n z hz=>?_,?_,?_,?_,fun k' x=>?_,?_,fun x=>?_⟩
 ·have:=h.comb j a hj ha
  rw[List.length_append]
  simp only[List.length_cons,List.length_nil]
  show a.n<S.com.length/\_
  omega
 ·rw[hms]at hm
  rcases hget j m hm with hm | ⟨e,rfl⟩
  ·obtain⟨k',h2,h3,h4,h5,h6,h7,h8⟩:=h.mods j m hm
   refine⟨k',h2,?_,h4,h5,?_,?_,h8⟩
   ·rw[hpl]
    split
    ·rename_i e;obtain⟨e1,e2⟩:=e;subst e1;rw[e2]at h3;exact List.mem_append_left _ h3
    ·exact h3
   ·rw[hpl]
    split
    ·rename_i e;obtain⟨e1,e2⟩:=e;subst e1;rw[e2]at h6
     rw[List.length_append]
     simp only[List.length_cons,List.length_nil]
     omega
    ·exact h6
   ·rw[hver,if_neg]
    ·exact h7
    ·rintro⟨e1,e2,e3⟩
     rw[h4]at e2
     rw[e2,hk]at h2
     cases h2
     rw[e1,e3]at h6
     omega
  ·subst hnm
   refine⟨k,hk,?_,rfl,?_,?_,?_,rfl⟩
   ·rw[hpl,if_pos ⟨rfl,rfl⟩,e];simp
   ·simp only;omega
   ·rw[hpl,if_pos ⟨rfl,rfl⟩,List.length_append]
    simp only[List.length_cons,List.length_nil]
    omega
   ·rw[hver,if_pos ⟨rfl,rfl,rfl⟩,e]
 ·rw[hpl]at hz
  rw[hms]
  split at hz
  ·rename_i e
   obtain⟨rfl,rfl⟩:=e
   rcases List.mem_append.1 hz with hz | hz
   ·obtain⟨j,m,e1,e2,e3,e4⟩:=h.places _ _ z hz
    exact⟨j,m,e1,hold j m e2,e3,e4⟩
   ·rw[List.mem_singleton]at hz
    exact⟨S.mods.length,nm,hz,List.getElem?_concat_length,by rw[hnm],by rw[hnm];exact hk⟩
  ·obtain⟨j,m,e1,e2,e3,e4⟩:=h.places _ _ z hz
   exact⟨j,m,e1,hold j m e2,e3,e4⟩
 ·rw[hver]at hz
  rw[hms]
  split at hz
  ·rename_i e
   cases hz
   exact⟨S.mods.length,nm,rfl,List.getElem?_concat_length,by rw[hnm];exact e.1.symm,by rw[hnm];exact e.2.1.symm,by rw[hnm];exact e.2.2.symm⟩
  ·obtain⟨j,m,e1,e2,e3⟩:=h.vers x w n z hz
   exact⟨j,m,e1,hold j m e2,e3⟩
 ·rw[List.length_append];have:=h.ntx;show S.txs.length<=_;omega
 ·rw[hms];have:=h.nmod;simp only[List.length_append,List.length_cons,List.length_nil];omega
 ·rw[List.length_append];have:=h.ncom;show S.com.length<=_;omega
 ·rw[hpl,List.length_append]
  have:=h.npl k' x
  have:=h.npl k r.x
  split
  ·simp only[List.length_append,List.length_cons,List.length_nil];omega
  ·omega
 ·rw[List.length_append];have:=h.nlook;show S.looks.length<=_;omega
 ·have:=h.nobj x
  rw[List.length_append]
  simp only[List.length_cons,List.length_nil]
  show 0<=(if x=r.x then some ((S.obj r.x).getD 0+1) else S.obj x).getD 0/\(if x=r.x then some ((S.obj r.x).getD 0+1) else S.obj x).getD 0<=_
  split
  ·rename_i e;subst e;simp only[Option.getD_some];omega
  ·omega
theorem HOk.endTx (h:HOk S l) (h67:r.kind=6\/r.kind=7) {k:Nat} {a a':TxS} (hk:S.num r.t=some (k:Int)) (ha:S.txs[k]?=some a) (ht:a'.t=r.t) {com':List Int} (hc:S.com.length<=com'.length/\com'.length<=l.length+1)
 (hs:a'.s=1->a'.n=(S.com.length:Int)/\S.com.length<com'.length/\a'.e=(l.length:Int)):HOk (S.endTx k a' com') (l++[r]):=by
 have hkl:=(List.getElem?_eq_some_iff.1 ha).1
 have hat:a.t=r.t:=by
  obtain⟨j,b,e,h2,h3⟩:=h.num _ _ hk
  have:j=k:=by omega
  subst this
  rw[ha]at h2
  cases h2
  exact h3
 have hget:∀(j:Nat),(S.txs.set k a')[j]?=if j=k then some a' else S.txs[j]?:=fun j=>by
  by_cases e:j=k
  ·subst e;rw[List.getElem?_set_self hkl,if_pos rfl]
  ·rw[List.getElem?_set_ne fun q=>e q.symm,if_neg e]
 have hend:∀t,endOf (l++[r]) t=if r.t=t then some true else endOf l t:=fun t=>by
  rw[endOf_snoc];unfold endStep
  by_cases e:r.t=t
  ·rw[if_pos e,if_pos e,if_neg (by omega),if_pos h67]
  ·rw[if_neg e,if_neg e]
 refine⟨fun t k' hk'=>?_,fun j b hj=>?_,fun t ht'=>?_,fun t b ht'=>?_,fun j j' b c hj hj' hb hc'=>?_,fun j b hj hb=>?_,fun j b hj hb=>?_,h.mods,h.places,h.vers,?_,?_,?_,fun k x=>?_,?_,fun x=>?_⟩
 ·obtain⟨j,b,e,h2,h3⟩:=h.num t k' hk'
  by_cases ej:j=k
  ·subst ej
   rw[ha]at h2
   cases h2
   exact⟨j,a',e,by show (S.txs.set j a')[j]?=_;rw[hget,if_pos rfl],by rw[ht,<-hat];exact h3⟩
  ·exact⟨j,b,e,by show (S.txs.set k a')[j]?=_;rw[hget,if_neg ej];exact h2,h3⟩
 ·have hj':(S.txs.set k a')[j]?=some b:=hj
  rw[hget]at hj'
  split at hj'
  ·rename_i e
   cases hj'
   rw[ht,e];exact hk
  ·exact h.txs j b hj'
 ·rw[hend]at ht'
  split at ht'
  ·cases ht'
  ·exact h.fresh t ht'
 ·rw[hend]at ht'
  split at ht'
  ·rename_i e
   rw[<-e]
   show S.num r.t≠none
   rw[hk];simp
  ·exact h.begun t b ht'
 ·have hj1:(S.txs.set k a')[j]?=some b:=hj
  have hj2:(S.txs.set k a')[j']?=some c:=hj'
  rw[hget]at hj1 hj2
  split at hj1
  ·rename_i e
   cases hj1
   split at hj2
   ·rename_i e';left;omega
   ·have h1:=h.comb j' c hj2 hc'
    obtain⟨h2,h3,h4⟩:=hs hb
    right;right;omega
  ·split at hj2
   ·cases hj2
    have h1:=h.comb j b hj1 hb
    obtain⟨h2,h3,h4⟩:=hs hc'
    right;left;omega
   ·exact h.com j j' b c hj1 hj2 hb hc'
 ·have hj1:(S.txs.set k a')[j]?=some b:=hj
  rw[hget]at hj1
  rw[List.length_append]
  simp only[List.length_cons,List.length_nil]
  show b.n<com'.length/\_
  split at hj1
  ·cases hj1
   obtain⟨h2,h3,h4⟩:=hs hb
   omega
  ·have h1:=h.comb j b hj1 hb
   omega
 ·have hj1:(S.txs.set k a')[j]?=some b:=hj
  rw[hget]at hj1
  split at hj1
  ·cases hj1
   obtain⟨h2,h3,h4⟩:=hs hb
   omega
  ·exact h.com0 j b hj1 hb
 ·show (S.txs.set k a').length<=_
  have:=h.ntx
  simp only[List.length_set,List.length_append,List.length_cons,List.length_nil]
  omega
 ·rw[List.length_append];have:=h.nmod;show S.mods.length<=_;omega
 ·rw[List.length_append]
  simp only[List.length_cons,List.length_nil]
  exact hc.2
 ·rw[List.length_append];have:=h.npl k x;show (S.places k x).length<=_;omega
 ·rw[List.length_append];have:=h.nlook;show S.looks.length<=_;omega
 ·have:=h.nobj x
  rw[List.length_append]
  simp only[List.length_cons,List.length_nil]
  show 0<=(S.obj x).getD 0/\(S.obj x).getD 0<=_
  omega
theorem preds_same (S:HS) (i:Int) (r:Rec):∀n,(S.preds i r n).num=S.num/\(S.preds i r n).txs=S.txs/\(S.preds i r n).com=S.com/\(S.preds i r n).mods=S.mods/\(S.preds i r n).places=S.places/\(S.preds i r n).ver=S.ver
 | 0=>⟨rfl,rfl,rfl,rfl,rfl,rfl⟩
 | n+1=>by
   have ih:=preds_same S i r n
   unfold HS.preds
   cases r.es[n]? with
   | none=>exact ih
   | some e=>exact ih
theorem HOk.take (h:HOk S l) (hr:ruleS l r=0) (he:r.es.length<=1000):HOk (S.take l.length r) (l++[r]):=by
 obtain⟨k1,k2⟩:=rule_kind hr
 by_cases e1:r.kind=1
 ·have:S.take l.length r=S.begin l.length r:=by simp only[HS.take,if_pos e1]
  rw[this];exact h.begin e1 (rule_fresh hr e1) _
 obtain⟨b,hb⟩:=rule_begun hr e1
 have hne:=h.begun _ _ hb
 obtain⟨kk,hkk⟩:=Option.ne_none_iff_exists'.1 hne
 obtain⟨k,a,rfl,ha,hat⟩:=h.num _ _ hkk
 have hk:((S.num r.t).getD 0).toNat=k:=by rw[hkk];rfl
 by_cases e2:r.kind=2
 ·have:S.take l.length r=S.look ⟨l.length,0,r.t,r.x,r.w,r.n,false,false⟩:=by simp[HS.take,e2]
  rw[this]
  refine h.looks (fun t=>by rw[endOf_snoc,endStep_other (by omega) (by omega) (by omega)]) rfl rfl rfl rfl rfl rfl (by simp[HS.look]) fun x=>?_
  have:=h.nobj x
  have:=h.nobj r.x
  show 0<=(if x=r.x then some ((S.obj r.x).getD 0+1) else S.obj x).getD 0/\(if x=r.x then some ((S.obj r.x).getD 0+1) else S.obj x).getD 0<=_
  split
  ·rename_i e;subst e;simp only[Option.getD_some];omega
  ·omega
 by_cases e34:r.kind=3\/r.kind=4
 ·have:S.take l.length r=S.modify l.length r k:=by simp only[HS.take,if_neg e1,if_neg e2,if_pos e34,hk]
  rw[this];exact h.modify e34 hkk _
 by_cases e5:r.kind=5
 ·have:S.take l.length r=S.preds l.length r r.es.length:=by simp[HS.take,e5]
  rw[this]
  obtain⟨q1,q2,q3,q4,q5,q6⟩:=preds_same S l.length r r.es.length
  obtain⟨b1,b2⟩:=preds_bound (S:=S) (i:=l.length) (r:=r) r.es.length
  refine h.looks (fun t=>by rw[endOf_snoc,endStep_other (by omega) (by omega) (by omega)]) q1 q2 q3 q4 q5 q6 (by omega) fun x=>?_
  have h1:=h.nobj x
  have h2:=b2 x
  omega
 by_cases e6:r.kind=6
 ·have:S.take l.length r=S.endTx k ⟨r.t,a.b,l.length,1,(S.com.length:Int)⟩ (S.com++[r.t]):=by simp only[HS.take,if_neg e1,if_neg e2,if_neg e34,if_neg e5,if_pos e6,hk,ha]
  rw[this]
  have:=h.ncom
  exact h.endTx (.inl e6) hkk ha rfl (by simp only[List.length_append,List.length_cons,List.length_nil];omega) fun _=>⟨rfl,by simp only[List.length_append,List.length_cons,List.length_nil];omega,rfl⟩
 ·have:S.take l.length r=S.endTx k ⟨r.t,a.b,l.length,2,a.n⟩ S.com:=by simp only[HS.take,if_neg e1,if_neg e2,if_neg e34,if_neg e5,if_neg e6,hk,ha]
  rw[this]
  have:=h.ncom
  exact h.endTx (.inr (by omega)) hkk ha rfl (by omega) fun q=>by cases q
theorem hist_ok {L:List Rec} (hw:∀j r,L[j]?=some r->ruleS (L.take j) r=0) (he:∀r ∈ L,r.es.length<=1000):∀i,i<=L.length->HOk (histN L i) (L.take i)
 | 0,_=>by rw[List.take_zero];exact HOk.start
 | i+1,hi=>by
   have ih:=hist_ok hw he i (by omega)
   obtain⟨r,hr⟩:∃r,L[i]?=some r:=⟨L[i],by simp⟩
   have htk:L.take (i+1)=L.take i++[r]:=by rw[List.take_add_one,hr];rfl
   have hl:(L.take i).length=i:=by rw[List.length_take];omega
   have:=ih.take (hw i r hr) (he r (List.mem_of_getElem? hr))
   rw[hl]at this
   rw[htk]
   unfold histN
   rw[hr]
   exact this
theorem HOk.takeOk (h:HOk S l) (hl:l.length<=60) (hr:ruleS l r=0) (he:r.es.length<=1000):TakeOk S r:=by
 have h1:=h.ntx;have h2:=h.nmod;have h3:=h.ncom;have h4:=h.nlook
 refine⟨rule_kind hr,fun e1=>?_,by omega,by omega,by omega,by omega,fun x=>?_⟩
 ·obtain⟨b,hb⟩:=rule_begun hr e1
  obtain⟨kk,hkk⟩:=Option.ne_none_iff_exists'.1 (h.begun _ _ hb)
  obtain⟨k,a,rfl,ha,hat⟩:=h.num _ _ hkk
  exact⟨k,a,hkk,ha,hat,by have:=h.npl k r.x;omega⟩
 ·have:=h.nobj x;omega
theorem HOk.placesOk (h:HOk S l) (hl:l.length<=60):PlacesOk S:=by
 have h1:=h.ntx;have h2:=h.nmod
 refine⟨fun k x j hj=>?_,by omega,by omega,fun k x=>by have:=h.npl k x;omega⟩
 obtain⟨j',m,e1,e2,_⟩:=h.places k x j hj
 have:=(List.getElem?_eq_some_iff.1 e2).1
 omega
theorem hist_takes {L:List Rec} (hl:L.length<=60) (he:∀r ∈ L,r.es.length<=1000) (hw:∀j r,L[j]?=some r->ruleS (L.take j) r=0):(∀i r,L[i]?=some r->TakeOk (histN L i) r)/\PlacesOk (histN L L.length):=by
 refine⟨fun i r hr=>?_,?_⟩
 ·have hi:=(List.getElem?_eq_some_iff.1 hr).1
  exact(hist_ok hw he i (by omega)).takeOk (by rw[List.length_take];omega) (hw i r hr) (he r (List.mem_of_getElem? hr))
 ·have:=hist_ok hw he L.length (Nat.le_refl _)
  rw[List.take_length]at this
  exact this.placesOk hl
end
end Go.Xs
namespace Go.Xs
noncomputable section
inductive OTg where
 | none | ord | map | row (x:Int) | sl (x:Int)
structure OrdM (M:Hp) (lo hi o rm c:Nat) (l:List (Nat×Int×XV)) (tag:Nat->OTg) (f:Int->List Ins):Prop where
 olo:lo<=o
 ohi:o<hi
 otg:tag o = .ord
 orow:tget M o=some (.row [.mm rm])
 rlo:lo<=rm
 rhi:rm<hi
 rtg:tag rm = .map
 map:tget M rm=some (.map (entU vX l) c)
 born:BornOk l c
 none:∀x,alook l x = .none->f x=[]
 some:∀x v,alook l x = .some v->∃rk sv,v = .mp rk 0/\lo<=rk/\rk<hi/\tag rk = .row x/\tget M rk = .some (.row [sv])/\f x≠[]/\OwnSl M lo hi tag (.sl x) sv 4 (f x).length ((f x).flatMap encIns)
variable {M M':Hp} {lo hi hi' o rm c c':Nat} {l l':List (Nat×Int×XV)} {tag tag':Nat->OTg} {f:Int->List Ins}
theorem OrdM.agr (H:OrdM M lo hi o rm c l tag f) (ha:Agr hi M M'):OrdM M' lo hi o rm c l tag f :=
 { olo:=H.olo,ohi:=H.ohi,otg:=H.otg,orow:=(ha o H.ohi).trans H.orow,rlo:=H.rlo,rhi:=H.rhi,rtg:=H.rtg,map:=(ha rm H.rhi).trans H.map,born:=H.born,none:=H.none
   some:=fun x v hx=>by
    obtain⟨rk,sv,h1,h2,h3,h4,h5,h6,h7⟩:=H.some x v hx
    exact⟨rk,sv,h1,h2,h3,h4,(ha rk h3).trans h5,h6,h7.agr ha (Nat.le_refl _)⟩ }
theorem OrdM.up (H:OrdM M lo hi o rm c l tag f) (hh:hi<=hi') (htag:∀k,k<hi->tag' k=tag k):OrdM M lo hi' o rm c l tag' f :=
 { olo:=H.olo,ohi:=Nat.lt_of_lt_of_le H.ohi hh,otg:=by rw[htag o H.ohi];exact H.otg,orow:=H.orow,rlo:=H.rlo,rhi:=Nat.lt_of_lt_of_le H.rhi hh,rtg:=by rw[htag rm H.rhi];exact H.rtg,map:=H.map,born:=H.born,none:=H.none
   some:=fun x v hx=>by
    obtain⟨rk,sv,h1,h2,h3,h4,h5,h6,h7⟩:=H.some x v hx
    exact⟨rk,sv,h1,h2,Nat.lt_of_lt_of_le h3 hh,by rw[htag rk h3];exact h4,h5,h6,h7.keep (fun k hk hg=>⟨rfl,by rw[htag k hk];exact hg⟩) hh⟩ }
theorem OrdM.set {x:Int} {rk:Nat} {sv':XV} {g:List Ins} (H:OrdM M lo hi o rm c l tag f) (hx:alook l x = .some (.mp rk 0))
 (keep:∀k,k<hi->tag k ≠ .row x->tag k ≠ .sl x->tget M' k=tget M k) (htag:∀k,k<hi->tag' k=tag k) (hh:hi<=hi') (hrow:tget M' rk = .some (.row [sv'])) (hg:g≠[]) (hsl:OwnSl M' lo hi' tag' (.sl x) sv' 4 g.length (g.flatMap encIns)) :
 OrdM M' lo hi' o rm c l tag' (fun y=>if y=x then g else f y) :=
 { olo:=H.olo,ohi:=Nat.lt_of_lt_of_le H.ohi hh,otg:=by rw[htag o H.ohi];exact H.otg,orow:=(keep o H.ohi (by rw[H.otg];simp) (by rw[H.otg];simp)).trans H.orow
   rlo:=H.rlo,rhi:=Nat.lt_of_lt_of_le H.rhi hh,rtg:=by rw[htag rm H.rhi];exact H.rtg,map:=(keep rm H.rhi (by rw[H.rtg];simp) (by rw[H.rtg];simp)).trans H.map,born:=H.born
   none:=fun y hy=>by
    have:y≠x:=fun e=>by rw[e,hx]at hy;cases hy
    simp only[if_neg this]
    exact H.none y hy
   some:=fun y v hy=>by
    by_cases e:y=x
    ·subst e
     rw[hx]at hy
     cases hy
     obtain⟨rk',sv,h1,h2,h3,h4,h5,h6,h7⟩:=H.some y _ hx
     cases h1
     simp only[if_true]
     exact⟨rk,sv',rfl,h2,Nat.lt_of_lt_of_le h3 hh,by rw[htag rk h3];exact h4,hrow,hg,hsl⟩
    ·obtain⟨rk',sv,h1,h2,h3,h4,h5,h6,h7⟩:=H.some y v hy
     simp only[if_neg e]
     exact⟨rk',sv,h1,h2,Nat.lt_of_lt_of_le h3 hh,by rw[htag rk' h3];exact h4,(keep rk' h3 (by rw[h4];simp[e]) (by rw[h4];simp)).trans h5,h6,h7.keep (fun k hk hg=>⟨keep k hk (by rw[hg];simp) (by rw[hg];simp[e]),by rw[htag k hk];exact hg⟩) hh⟩ }
theorem OrdM.add {x:Int} {rk:Nat} {sv':XV} {g:List Ins} (H:OrdM M lo hi o rm c l tag f) (hx:alook l x = .none)
 (keep:∀k,k<hi->k≠rm->tget M' k=tget M k) (htag:∀k,k<hi->tag' k=tag k) (hh:hi<=hi') (hmap:tget M' rm = .some (.map (entU vX (aput l c x (.mp rk 0))) (acl l c x))) (rlo:hi<=rk) (rhi:rk<hi') (rtg:tag' rk = .row x) (hrow:tget M' rk = .some (.row [sv'])) (hg:g≠[]) (hsl:OwnSl M' lo hi' tag' (.sl x) sv' 4 g.length (g.flatMap encIns)) :
 OrdM M' lo hi' o rm (acl l c x) (aput l c x (.mp rk 0)) tag' (fun y=>if y=x then g else f y) :=
 { olo:=H.olo,ohi:=Nat.lt_of_lt_of_le H.ohi hh,otg:=by rw[htag o H.ohi];exact H.otg,orow:=(keep o H.ohi fun e=>by have:=H.otg;rw[e,H.rtg]at this;cases this).trans H.orow
   rlo:=H.rlo,rhi:=Nat.lt_of_lt_of_le H.rhi hh,rtg:=by rw[htag rm H.rhi];exact H.rtg,map:=hmap,born:=born_put H.born
   none:=fun y hy=>by
    rw[alook_put]at hy
    split at hy
    ·cases hy
    ·rename_i e
     simp only[if_neg e]
     exact H.none y hy
   some:=fun y v hy=>by
    rw[alook_put]at hy
    split at hy
    ·rename_i e
     subst e
     cases hy
     simp only[if_true]
     exact⟨rk,sv',rfl,by have:=H.olo;have:=H.ohi;omega,rhi,rtg,hrow,hg,hsl⟩
    ·rename_i e
     obtain⟨rk',sv,h1,h2,h3,h4,h5,h6,h7⟩:=H.some y v hy
     simp only[if_neg e]
     have ne:∀k,k<hi->tag k ≠ .map->k≠rm:=fun k _ h e=>h (by rw[e];exact H.rtg)
     exact⟨rk',sv,h1,h2,Nat.lt_of_lt_of_le h3 hh,by rw[htag rk' h3];exact h4,(keep rk' h3 (ne rk' h3 (by rw[h4];simp))).trans h5,h6,h7.keep (fun k hk hg=>⟨keep k hk (ne k hk (by rw[hg];simp)),by rw[htag k hk];exact hg⟩) hh⟩ }
end
end Go.Xs
namespace Go.Xs
noncomputable section
open Go.Proofs
set_option maxRecDepth 100000
set_option maxHeartbeats 4000000
def NumsOk (S:HS):Prop:=∀t k,S.num t=some k->∃(j:Nat) (a:TxS),k=(j:Int)/\S.txs[j]?=some a
def txOf (S:HS) (t:Int):Option TxS:=match S.num t with | some k=>S.txs[k.toNat]? | none=>none
def tx0:TxS:=⟨0,0,0,0,0⟩
def txR (S:HS) (t:Int):TxS×Bool:=match txOf S t with | some a=>(a,true) | none=>(tx0,false)
theorem f29 (ρ:Rho) {M:Hp} {nx lo hi h:Nat} {S:HS} (H:HistAt M lo hi h S) (hh:hi<=nx) (hn:NumsOk S) (t:Int) :
 FOk Tryz.prog ρ 29 [.mp h 0,.int .u64 t] M nx (Ret nx M (.tup [.agg (encTx (txR S t).1),.bool (txR S t).2])):=by
 obtain⟨tag,vrec,vtxs,vcom,vmods,vlook,nk,vk,ok,cn,cv,co,ptrs,lnum,lver,lobj,H⟩:=H
 have hr:=H.row
 have hnum:=H.num
 have hal:=H.numS t
 have hhi:=H.h_hi
 have hnhi:=H.nhi
 refine FOk.walk (m:=29) (rs:=[.cell 4 67,.tmp 5]) follows Tryz.func29 (by kernel_rfl) rfl rfl rfl ?_
 conv in W _ _ _ _ _ _ _=>arg 4;whnf
 cases hs:S.num t with
 | none =>
   rw[hs]at hal
   refine xs5 gy56 hr hnum hal @Ret.eq_1 ?_;try exact⟨⟩
   exact⟨by simp[txR,txOf,hs,encTx,tx0],(by(repeat (refine Agr.set ?_ (by omega) _));exact Agr.refl _ _),by omega⟩
 | some k =>
   obtain⟨j,a,rfl,hja⟩:=hn t k hs
   rw[hs]at hal
   obtain⟨v,hv,rk,mk,cm,lm,rfl,r1,r2,r3,r4,r5⟩:=H.known j a hja
   simp only[encTx,List.cons_append,List.nil_append]at r4
   have hjl:=(List.getElem?_eq_some_iff.1 hja).1
   refine xs4 gy56 hr hnum hal ?_;try exact⟨⟩
   generalize hM1:tset M nx _=M1
   have a1:Agr nx M M1:=by rw[<-hM1];exact(by(repeat (refine Agr.set ?_ (by omega) _));exact Agr.refl _ _)
   have z1:∃z,tget M1 nx=some (.row z):=by rw[<-hM1];exact⟨_,(by(repeat (first | rw[tget_tset,if_pos rfl] | rw[tget_tset,if_neg (by omega)] | rw[tget_tdel,if_neg (by omega)]));try (first | rfl | assumption))⟩
   have z2:tget M1 nx=some (.row [.int .u64 0,.int .i64 0,.int .i64 0,.int .i64 0,.int .i64 0]):=by rw[<-hM1];exact(by(repeat (first | rw[tget_tset,if_pos rfl] | rw[tget_tset,if_neg (by omega)] | rw[tget_tdel,if_neg (by omega)]));try (first | rfl | assumption))
   clear hM1
   refine CN_fok (f58 ρ (H.agr (a1.le hh)) (by omega) hs hv hjl) ?_
   rintro⟨u,M2,n2⟩ ⟨g1,g2,g3⟩
   simp only at g1 g2 g3
   subst g1
   have y4:=(g2 rk (by omega)).trans ((a1 rk (by omega)).trans r4)
   have y2:=(g2 nx (by omega)).trans z2
   refine xs4 gy56 y4 y2 @Ret.eq_1 ?_;try exact⟨⟩
   exact⟨by simp[txR,txOf,hs,hja,encTx],(by(repeat (refine Agr.set ?_ (by omega) _));exact a1.trans (g2.le (by omega))),by omega⟩
theorem mods_plain:∀(es:List ModS),(es.flatMap encMod).all plain1=true
 | []=>rfl
 | e::es=>by
   rw[List.flatMap_cons,List.all_append,mods_plain es]
   rfl
theorem f28 (ρ:Rho) {M:Hp} {nx lo hi h:Nat} {S:HS} (H:HistAt M lo hi h S) (hh:hi<=nx) (few:S.mods.length<=100000) :
 FOk Tryz.prog ρ 28 [.mp h 0] M nx fun r=>SlAtP r.2.1 (fun k=>nx<=k/\k<r.2.2) r.1 8 S.mods.length (S.mods.flatMap encMod)/\Agr nx M r.2.1/\nx<=r.2.2:=by
 obtain⟨tag,vrec,vtxs,vcom,vmods,vlook,nk,vk,ok,cn,cv,co,ptrs,lnum,lver,lobj,H⟩:=H
 have hr:=H.row
 have hsl:=H.mods.sl
 refine FOk.walk (m:=10) (rs:=[.tmp 2]) follows Tryz.func28 (by kernel_rfl) rfl rfl rfl ?_
 conv in W _ _ _ _ _ _ _=>arg 4;whnf
 refine xs2 gy57 hr ?_;try exact⟨⟩
 refine CN_fok (f57 ρ (hsl.agr (Agr.refl _ _)) (by omega) few (mods_plain _)) ?_
 rintro⟨u,M2,n2⟩ ⟨c1,c2,c3⟩
 simp only at c1 c2 c3
 rcases c3 with ⟨e1,e2⟩ | ⟨_,K,e1,e2,e3,e4⟩
 ·subst e2
  subst e1
  refine xs1 gy57 ?_;try exact⟨⟩
  rcases hsl.2 with ⟨_,g2,g3⟩ | ⟨_,_,_,_,g1,_⟩
  ·exact⟨⟨hsl.1,.inl ⟨rfl,g2,g3⟩⟩,c1.le (by omega),by omega⟩
  ·cases g1
 ·subst e1
  refine xs1 gy57 ?_;try exact⟨⟩
  have:=hsl.row_len
  exact⟨⟨hsl.1,.inr ⟨K,0,S.mods.length,_,rfl,⟨by omega,by omega⟩,by unfold hrd;rw[e4],by omega,by rw[List.drop_zero,List.take_of_length_le (by omega)]⟩⟩,c1.le (by omega),by omega⟩
theorem mods_row:∀(es:List ModS) (i:Nat) (e:ModS),es[i]?=some e->((es.flatMap encMod).drop (i*8)).take 8=encMod e
 | [],i,e,h=>by simp at h
 | a::es,0,e,h=>by
   simp only[List.getElem?_cons_zero,Option.some.injEq]at h
   subst h
   rfl
 | a::es,i+1,e,h=>by
   simp only[List.getElem?_cons_succ]at h
   rw[List.flatMap_cons,show (i+1)*8=(encMod a).length+i*8 by simp[encMod];omega,List.drop_length_add_append]
   exact mods_row es i e h
def VersOk (S:HS):Prop:=∀x w n k,S.ver x w n=some k->∃(j:Nat) (m:ModS),k=(j:Int)/\S.mods[j]?=some m
def mod0:ModS:=⟨0,0,0,0,0,0,false,false⟩
def modR (S:HS) (x w n:Int):ModS×Bool:=match S.ver x w n with | some k=>(match S.mods[k.toNat]? with | some m=>(m,true) | none=>(mod0,false)) | none=>(mod0,false)
theorem f30 (ρ:Rho) {M:Hp} {nx lo hi h:Nat} {S:HS} (H:HistAt M lo hi h S) (hh:hi<=nx) (hv:VersOk S) (few:S.mods.length<=100000) (x w n:Int) :
 FOk Tryz.prog ρ 30 [.mp h 0,.int .u64 x,.agg [.int .u64 w,.int .u64 n]] M nx (Ret nx M (.tup [.agg (encMod (modR S x w n).1),.bool (modR S x w n).2])):=by
 obtain⟨tag,vrec,vtxs,vcom,vmods,vlook,nk,vk,ok,cn,cv,co,ptrs,lnum,lver,lobj,H⟩:=H
 have hr:=H.row
 have hver:=H.ver
 have hal:=H.verS x w n
 have hhi:=H.h_hi
 have hvhi:=H.vhi
 have hvr:=H.vrow
 refine FOk.walk (m:=34) (rs:=[.cell 6 71,.tmp 7]) follows Tryz.func30 (by kernel_rfl) rfl rfl rfl ?_
 conv in W _ _ _ _ _ _ _=>arg 4;whnf
 cases hs:S.ver x w n with
 | none =>
   rw[hs]at hal
   refine xs6 gy58 hr hver hal hvr @Ret.eq_1 ?_;try exact⟨⟩
   exact⟨by simp[modR,hs,encMod,mod0],(by(repeat (refine Agr.set ?_ (by omega) _));exact Agr.refl _ _),by omega⟩
 | some k =>
   obtain⟨j,a,rfl,hja⟩:=hv x w n k hs
   rw[hs]at hal
   have hjl:=(List.getElem?_eq_some_iff.1 hja).1
   obtain⟨q,o,hqb,hix,hld⟩:=H.mods.sl.elem (P:=Tryz.prog) hjl (t:=64) (t':=71) ty64.2.2.2.1 ty71.1
   have hld:=fun N hN=>hld N hN
   rw[mods_row _ _ _ hja]at hld
   simp only[encMod]at hld
   have hld1:=hld (tset (tset M nx (.row [.int .u64 w,.int .u64 n])) (nx+1) (.row [.int .i64 0,.int .u64 0,.int .u64 0,.int .u64 0,.int .u64 0,.int .u64 0,.bool false,.bool false])) (by(repeat (refine Agr.set ?_ (by omega) _));exact Agr.refl _ _)
   refine xs8 gy58 hr hver hal hvr hix hld1 @Ret.eq_1 ?_;try exact⟨⟩
   exact⟨by simp[modR,hs,hja,encMod],(by(repeat (refine Agr.set ?_ (by omega) _));exact Agr.refl _ _),by omega⟩
end
end Go.Xs
