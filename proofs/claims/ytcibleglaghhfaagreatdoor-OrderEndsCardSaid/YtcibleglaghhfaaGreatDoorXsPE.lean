/- A part of the proof: the layers and contracts it rests on. -/
import Derived.Test.YtcibleglaghhfaaGreatDoorXsPC
import Derived.Test.YtcibleglaghhfaaGreatDoorXsPD
import Derived.Sort.LotA
import Derived.Sort.LotB
import Derived.Sort.LotC
import Derived.Sort.LotD3
set_option linter.all false
set_option linter.deprecated false
namespace Go.Xs
noncomputable section
open Go.Proofs
set_option maxRecDepth 100000
set_option maxHeartbeats 4000000
theorem nodup_of_map {α β:Type} {f:α->β}:∀{l:List α},(l.map f).Nodup->l.Nodup
 | [],_=>.nil
 | a::l,h=>by
   rw[List.map_cons,List.nodup_cons]at h
   exact List.nodup_cons.2 ⟨fun hm=>h.1 (List.mem_map.2 ⟨a,hm,rfl⟩),nodup_of_map h.2⟩
theorem nodup_fst' {α β:Type} {f:α->β}:∀{l:List α},(l.map f).Nodup->∀{a b:α},a ∈ l->b ∈ l->f a=f b->a=b
 | [],_,a,b,ha,_,_=>by cases ha
 | c::l,hn,a,b,ha,hb,h=>by
   rw[List.map_cons,List.nodup_cons]at hn
   rcases List.mem_cons.1 ha with e1 | ha' <;> rcases List.mem_cons.1 hb with e2 | hb'
   ·rw[e1,e2]
   ·exact(hn.1 (by rw[<-e1,h];exact List.mem_map.2 ⟨b,hb',rfl⟩)).elim
   ·exact(hn.1 (by rw[<-e2,<-h];exact List.mem_map.2 ⟨a,ha',rfl⟩)).elim
   ·exact nodup_fst' hn.2 ha' hb' h
theorem nodup_len:∀{l l':List Nat},l.Nodup->(∀a ∈ l,a ∈ l')->l.length<=l'.length
 | [],_,_,_=>Nat.zero_le _
 | a::l,l',h,hs=>by
   rw[List.nodup_cons]at h
   have ha:=hs a List.mem_cons_self
   have ih:=nodup_len (l:=l) (l':=l'.erase a) h.2 fun b hb=>(List.mem_erase_of_ne fun e=>h.1 (by rw[<-e];exact hb)).2 (hs b (List.mem_cons_of_mem _ hb))
   rw[List.length_erase_of_mem ha]at ih
   have:=List.length_pos_of_mem ha
   simp only[List.length_cons]
   omega
theorem filt_le' {α:Type} {f:α->Nat} {seen:List Nat} {b:Nat}:∀(l:List α),(l.filter fun e=>decide (f e ∉ seen++[b])).length<=(l.filter fun e=>decide (f e ∉ seen)).length
 | []=>Nat.le_refl _
 | a::l=>by
   have ih:=filt_le' (f:=f) (seen:=seen) (b:=b) l
   rw[List.filter_cons,List.filter_cons]
   by_cases h:f a ∈ seen
   ·have h':f a ∈ seen++[b]:=List.mem_append_left _ h
    simp only[h,h',not_true_eq_false,decide_false]
    simpa using ih
   ·by_cases h':f a ∈ seen++[b]
    ·simp only[h,h',not_true_eq_false,not_false_eq_true,decide_false,decide_true,if_true,List.length_cons]
     simp only[Bool.false_eq_true,if_false]
     omega
    ·simp only[h,h',not_false_eq_true,decide_true,if_true,List.length_cons]
     omega
theorem filt_lt' {α:Type} {f:α->Nat} {seen:List Nat}:∀{l:List α} {e:α},f e ∉ seen->e ∈ l->(l.filter fun a=>decide (f a ∉ seen++[f e])).length<(l.filter fun a=>decide (f a ∉ seen)).length
 | [],e,_,he=>by cases he
 | a::l,e,hns,he=>by
   rw[List.filter_cons,List.filter_cons]
   rcases List.mem_cons.1 he with rfl | he
   ·have h':f e ∈ seen++[f e]:=by simp
    have:=filt_le' (f:=f) (seen:=seen) (b:=f e) l
    simp only[hns,h',not_true_eq_false,not_false_eq_true,decide_false,decide_true,if_true,List.length_cons]
    simp only[Bool.false_eq_true,if_false]
    omega
   ·have ih:=filt_lt' (f:=f) hns he
    by_cases h:f a ∈ seen
    ·have h':f a ∈ seen++[f e]:=List.mem_append_left _ h
     simp only[h,h',not_true_eq_false,decide_false]
     simpa using ih
    ·by_cases h':f a ∈ seen++[f e]
     ·simp only[h,h',not_true_eq_false,not_false_eq_true,decide_false,decide_true,if_true,List.length_cons]
      simp only[Bool.false_eq_true,if_false]
      omega
     ·simp only[h,h',not_false_eq_true,decide_true,if_true,List.length_cons]
      omega
theorem f106 (ρ:Rho) (hdet:ρ.det=false) {M:Hp} {nx box rm c:Nat} {l:List (Nat×Int×XV)} (hbox:tget M box=some (.row [.mm rm])) (hrm:tget M rm=some (.map (entU vX l) c)) (hb:BornOk l c) (h1:box<nx) (h2:rm<nx) (few:l.length<=100000) :
 FOk Tryz.prog ρ 106 [.nils,.fn (.func 79) [] [.mp box 0]] M nx fun r=>(∃ys:List Int,ys.Perm (l.map (·.2.1))/\OwnSl r.2.1 nx r.2.2 (fun _=>()) () r.1 1 ys.length (ys.map (XV.int .u64)))/\Agr nx M r.2.1/\nx<=r.2.2:=by
 refine FOk.walkR (m:=13) (rs:=[.tmp 4]) follows hdet Tryz.func106 (by kernel_rfl) rfl rfl rfl ?_
 conv in wxR _ _ _ _ _ _ _=>arg 5;whnf
 refine wxR_sq ?_
 refine xs2 gy59 @seqK_n ?_;try exact⟨⟩
 refine wxR_sq' ?_
 refine wxR_sq ?_
 refine xs2 gy59 @seqK_n ?_;try exact⟨⟩
 refine wxR_bk ?_
 refine⟨79,[.mp box 0],fun M' nx'=>∃(ys:List Int) (v:XV),ys.Perm (l.map (·.2.1))/\tget M' nx=some (.row [v])/\OwnSl M' (nx+1) nx' (fun _=>()) () v 1 ys.length (ys.map (XV.int .u64))/\Agr nx M M'/\nx+4<=nx',?_,?_,?_⟩
 ·rfl
 ·generalize hY:roundW Tryz.prog ρ 13 _ _ _ _=H
  refine IOk.walk follows (m:=14) Tryz.func79 (by kernel_rfl) rfl rfl rfl ?_
  conv in wxR _ _ _ _ _ _ _=>arg 5;whnf
  refine wxR_sq ?_
  refine xs8 gy60 @seqK_n @x_range @range_eq @rgC_map ty95.2.2.2.2 hbox hrm ?_;try exact⟨⟩
  refine wxR_bk ?_
  refine wxR_loop (fun m s=>∃(es:List (Nat×Int×XV)) (st:Nat) (v:XV),m=(l.filter fun e=>decide (e.1 ∉ es.map (·.1))).length/\(es.map (·.1)).Nodup/\(∀e ∈ es,e ∈ l)/\tget s.env 0=some (.yd (nx+3))/\tget s.env 5=some (.mp (nx+5) 0)/\tget s.M (nx+5)=some (.iter (some rm) c (es.map (·.1)) st)/\c<=st /\
   tget s.M nx=some (.row [v])/\OwnSl s.M (nx+6) s.nx (fun _=>()) () v 1 es.length (es.map fun e=>XV.int .u64 e.2.1)/\Agr nx M s.M/\nx+6<=s.nx) _ ⟨[],c,.nils,rfl,?_⟩ ?_
  ·refine xs1 gy60 ?_;try exact⟨⟩
   exact⟨by simp,by simp,rfl,Nat.le_refl _,⟨by omega,rfl,.inl ⟨rfl,rfl⟩⟩,(by(repeat (refine Agr.set ?_ (by omega) _));exact Agr.refl _ _),by omega⟩
  ·rintro m ⟨env,M',nx'⟩ ⟨es,st,v,hm,hnd,hsub,e0,e5,hit,hst,hbx,hown,ha,hn⟩
   simp only at e0 e5 hit hbx hown ha hn
   have hrm':=(ha rm h2).trans hrm
   refine wxR_sq ?_
   refine xs4 gy60 @seqK_n e5 @RN_next ?_;try exact⟨⟩
   refine NX_map hdet hit hrm' hb.lt hst (Nat.le_refl _) ?_ ?_
   ·intro hall
    have hperm:(es.map (·.2.1)).Perm (l.map (·.2.1)):=by
     have:es.Perm l:=(List.perm_ext_iff_of_nodup (nodup_of_map hnd) (nodup_of_map hb.nd)).2 fun e=>⟨hsub e,fun he=>by
      obtain⟨e',h1',h2'⟩:=List.mem_map.1 (hall e he)
      have:=nodup_fst' hb.nd (hsub e' h1') he h2'
      rw[<-this];exact h1'⟩
     exact this.map _
    clear hall
    refine xs2 gy60 @seqK_n ?_;try exact⟨⟩
    refine wxR_sq ?_
    refine xs4 gy60 @seqK_x @loopK_x @inB_x ?_;try exact⟨⟩
    refine⟨(fun id h=>by cases h),es.map (·.2.1),v,hperm,hbx,?_,ha,by omega⟩
    obtain⟨o1,o2,o3⟩:=hown
    refine⟨by simpa using o1,by simp,?_⟩
    rcases o3 with ⟨q1,q2⟩ | ⟨q0,q,q1,q2,q3,q4,q5⟩
    ·exact .inl ⟨q1,by simpa using q2⟩
    ·exact .inr ⟨by simpa using q0,q,by simpa using q1,by omega,by omega,rfl,by rw[q5];simp⟩
   ·intro e he hns
    have hent:entryX (tset M' (nx+5) (.iter (some rm) c (es.map (·.1)++[e.1]) c)) (.mp (nx+5) 0)=some ⟨.tup [.int .u64 e.2.1,e.2.2],[nx+5,rm],[]⟩:=entry_map (vf:=vX) (l:=l) (by(repeat (first | rw[tget_tset,if_pos rfl] | rw[tget_tset,if_neg (by omega)] | rw[tget_tdel,if_neg (by omega)]));try (first | rfl | assumption)) (by(repeat (first | rw[tget_tset,if_pos rfl] | rw[tget_tset,if_neg (by omega)] | rw[tget_tdel,if_neg (by omega)]));try (first | rfl | assumption)) hb.nd he
    refine xs2 gy60 @seqK_n ?_;try exact⟨⟩
    refine wxR_sq ?_
    refine xs2 gy60 @seqK_n ?_;try exact⟨⟩
    refine wxR_bk ?_
    refine wxR_sq ?_
    refine xs6 gy60 @seqK_n e0 e5 @x_entry hent ?_;try exact⟨⟩
    refine wxR_sq' ?_
    refine wxR_yl (RNY_pre [_,_] _ ?_)
    refine xs2 gy60 e0 ?_;try exact⟨⟩
    refine RNY_yield (args:=[.int .u64 e.2.1]) (by simp only[yldX];(refine xs2 gy60 e0 ?_;try exact⟨⟩)) ?_
    refine Eq.mp (congrFun (congrFun (congrFun (congrFun hY _) _) _) _) (roundW_mk rfl ?_)
    have hfew:es.length<=100000:=by
     have h1':(es.map (·.1)).length<=(l.map (·.1)).length:=nodup_len hnd fun b hb'=>by
      obtain⟨e',h1',rfl⟩:=List.mem_map.1 hb'
      exact List.mem_map.2 ⟨e',hsub e' h1',rfl⟩
     simp only[List.length_map]at h1'
     omega
    have hnd':((es++[e]).map (·.1)).Nodup:=by
     rw[List.map_append,List.nodup_append]
     refine⟨hnd,by simp,fun a ha' b hb'=>?_⟩
     simp only[List.map_cons,List.map_nil,List.mem_singleton]at hb'
     subst hb'
     exact fun e1=>hns (by rw[<-e1];exact ha')
    have hsub':∀a ∈ es++[e],a ∈ l:=fun a ha'=>by
     rcases List.mem_append.1 ha' with h | h
     ·exact hsub a h
     ·rw[List.mem_singleton]at h;subst h;exact he
    have hms:(l.filter fun a=>decide (a.1 ∉ (es++[e]).map (·.1))).length<m:=by
     rw[hm,List.map_append]
     exact filt_lt' hns he
    have hmap:(es++[e]).map (·.1)=es.map (·.1)++[e.1]:=by simp
    have hq:∀q,nx'+8<=q->tget (tset M' (nx+5) (.iter (some rm) c (es.map (·.1)++[e.1]) c)) q=tget M' q:=fun q hq=>by rw[tget_tset,if_neg (by omega)]
    obtain⟨o1,o2,⟨rfl,o3⟩ | ⟨o3,K,rfl,K1,K2,_,K4⟩⟩:=hown
    ·have hes0:es=[]:=List.length_eq_zero_iff.1 o3
     clear hnd hsub hns hm o1 o2 hmap hq
     refine xs2 gy59 hbx ?_;try exact⟨⟩
     refine⟨_,rfl,RNY_pre [_] _ ?_⟩
     refine xs2 gy60 @seqK_n ?_;try exact⟨⟩
     refine wxR_W ?_
     refine xs4 gy60 @seqK_n @loopK_n @inB_n ?_;try exact⟨⟩
     refine⟨_,hms,es++[e],c,_,rfl,hnd',hsub',e0,e5,by rw[List.map_append];rfl,Nat.le_refl _,rfl,⟨by simp[hes0],by simp,.inr ⟨by simp,nx'+11,by simp[hes0],by omega,by omega,rfl,?_⟩⟩,fun q hq=>?_,by omega⟩
     ·rw[hes0]
      exact(by(repeat (first | rw[tget_tset,if_pos rfl] | rw[tget_tset,if_neg (by omega)] | rw[tget_tdel,if_neg (by omega)]));try (first | rfl | assumption))
     ·have:=ha q hq
      exact(by(repeat (first | rw[tget_tset,if_pos rfl] | rw[tget_tset,if_neg (by omega)] | rw[tget_tdel,if_neg (by omega)]));try (first | rfl | assumption))
    ·have htk:List.take es.length (es.map fun e=>XV.int .u64 e.2.1)=es.map fun e=>XV.int .u64 e.2.1:=List.take_of_length_le (by simp)
     have K5:KEq (nx+5) K=False/\KEq K (nx+5)=False/\KEq nx K=False/\KEq K nx=False:=by simp only[KEq,eq_iff_iff,iff_false];omega
     clear hnd hsub hns hm o2 hmap hq
     simp (maxSteps:=10000000) (disch:=first|assumption|decide|omega|(simp only[zde, *];done)|(simp only[zdf,big];first|done|assumption|omega)) only [zst,argsE,spl,resXs,resX,vI,vB,vX,oneOr,Nat.reduceLT,Nat.reduceEqDiff,Nat.reduceAdd,Nat.reduceMul,Nat.reduceSub,reduceIte,Int.reduceLT,Int.reduceLE,Int.reduceEq,Int.reduceNeg,Int.reduceToNat,gy59,hbx,K4,htk,K5]
     refine⟨_,rfl,RNY_pre [_] _ ?_⟩
     refine xs2 gy60 @seqK_n ?_;try exact⟨⟩
     refine wxR_W ?_
     simp (maxSteps:=10000000) (disch:=first|assumption|decide|omega|(simp only[zde, *];done)|(simp only[zdf,big];first|done|assumption|omega)) only [zst,argsE,spl,resXs,resX,vI,vB,vX,oneOr,Nat.reduceLT,Nat.reduceEqDiff,Nat.reduceAdd,Nat.reduceMul,Nat.reduceSub,reduceIte,Int.reduceLT,Int.reduceLE,Int.reduceEq,Int.reduceNeg,Int.reduceToNat,gy60,seqK_n,loopK_n,inB_n,K5]
     refine⟨_,hms,es++[e],c,_,rfl,hnd',hsub',e0,e5,by rw[List.map_append];rfl,Nat.le_refl _,rfl,⟨by simp only[List.length_append,List.length_cons,List.length_nil];omega,by simp,.inr ⟨by simp,nx'+11,by simp,by omega,by omega,rfl,?_⟩⟩,fun q hq=>?_,by omega⟩
     ·rw[List.map_append]
      exact(by(repeat (first | rw[tget_tset,if_pos rfl] | rw[tget_tset,if_neg (by omega)] | rw[tget_tdel,if_neg (by omega)]));try (first | rfl | assumption))
     ·have:=ha q hq
      exact(by(repeat (first | rw[tget_tset,if_pos rfl] | rw[tget_tset,if_neg (by omega)] | rw[tget_tdel,if_neg (by omega)]));try (first | rfl | assumption))
 ·rintro M' nx' ⟨ys,v,y1,y2,y3,y4,y5⟩
  show wxR _ _ _ _ _ _ _
  refine wxR_W ?_
  refine xs2 gy59 y2 ?_;try exact⟨⟩
  refine⟨⟨ys,y1,?_⟩,y4,by omega⟩
  obtain⟨o1,o2,o3 | ⟨o3,K,q1,K1,K2,K3,K4⟩⟩:=y3
  ·exact⟨o1,o2,.inl o3⟩
  ·exact⟨o1,o2,.inr ⟨o3,K,q1,by omega,by omega,K3,K4⟩⟩
end
end Go.Xs
namespace Go.Xs
noncomputable section
open Go.Proofs
set_option maxRecDepth 100000
set_option maxHeartbeats 4000000
theorem f77 (ρ:Rho) (hdet:ρ.det=false) {M:Hp} {nx box rm c:Nat} {l:List (Nat×Int×XV)} (hbox:tget M box=some (.row [.mm rm])) (hrm:tget M rm=some (.map (entU vX l) c)) (hb:BornOk l c) (h1:box<nx) (h2:rm<nx) (few:l.length<=100000) :
 FOk Tryz.prog ρ 77 [.fn (.func 79) [] [.mp box 0]] M nx fun r=>(∃ys:List Int,ys.Perm (l.map (·.2.1))/\OwnSl r.2.1 nx r.2.2 (fun _=>()) () r.1 1 ys.length (ys.map (XV.int .u64)))/\Agr nx M r.2.1/\nx<=r.2.2:=by
 refine FOk.walk (m:=5) (rs:=[.tmp 2]) follows Tryz.func77 (by kernel_rfl) rfl rfl rfl ?_
 conv in W _ _ _ _ _ _ _=>arg 4;whnf
 refine xs0 ?_;try exact⟨⟩
 refine CN_fok (f106 ρ hdet hbox hrm hb (show box<nx+2 by omega) (by omega) few) ?_
 rintro⟨u,M2,n2⟩ ⟨⟨ys,y1,y2⟩,g2,g3⟩
 simp only at y2 g2 g3
 refine xs0 ?_;try exact⟨⟩
 refine⟨⟨ys,y1,?_⟩,g2.le (by omega),by omega⟩
 obtain⟨o1,o2,o3 | ⟨o3,K,q1,K1,K2,K3,K4⟩⟩:=y2
 ·exact⟨o1,o2,.inl o3⟩
 ·exact⟨o1,o2,.inr ⟨o3,K,q1,by omega,by omega,K3,K4⟩⟩
theorem f46 (hS:SortsU) (hN:SortsN) (ρ:Rho) (hdet:ρ.det=false) {M:Hp} {nx box rm c:Nat} {l:List (Nat×Int×XV)} (hbox:tget M box=some (.row [.mm rm])) (hrm:tget M rm=some (.map (entU vX l) c)) (hb:BornOk l c) (h1:box<nx) (h2:rm<nx) (few:l.length<=1000) :
 FOk Tryz.prog ρ 46 [.fn (.func 79) [] [.mp box 0]] M nx fun r=>(∃ys:List Int,ys.Perm (l.map (·.2.1))/\ys.Pairwise (· <= ·)/\OwnSl r.2.1 nx r.2.2 (fun _=>()) () r.1 1 ys.length (ys.map (XV.int .u64)))/\Agr nx M r.2.1/\nx<=r.2.2:=by
 refine FOk.walk (m:=9) (rs:=[.tmp 2]) follows Tryz.func46 (by kernel_rfl) rfl rfl rfl ?_
 conv in W _ _ _ _ _ _ _=>arg 4;whnf
 refine xs0 ?_;try exact⟨⟩
 refine CN_fok (f77 ρ hdet hbox hrm hb (show box<nx+2 by omega) (by omega) (by omega)) ?_
 rintro⟨u,M2,n2⟩ ⟨⟨ys,y1,y2⟩,g2,g3⟩
 simp only at y2 g2 g3
 have hyl:ys.length<=1000:=by rw[y1.length_eq,List.length_map];exact few
 obtain⟨o1,o2,⟨rfl,o3⟩ | ⟨o3,K,rfl,K1,K2,K3,K4⟩⟩:=y2
 ·have hy0:ys=[]:=List.length_eq_zero_iff.1 o3
  refine xs0 ?_;try exact⟨⟩
  refine CN_fok (hN ρ _ _) ?_
  rintro⟨u,M3,n3⟩ ⟨k1,k2,k3⟩
  simp only at k1 k2 k3
  subst k1
  refine xs0 ?_;try exact⟨⟩
  exact⟨⟨ys,y1,by rw[hy0];exact .nil,⟨o1,o2,.inl ⟨rfl,o3⟩⟩⟩,(g2.le (by omega)).trans (k2.le (by omega)),by omega⟩
 ·refine xs0 ?_;try exact⟨⟩
  refine CN_fok (hS ρ _ _ K ys hyl o3 (by omega) K4) ?_
  rintro⟨u,M3,n3⟩ ⟨k1,⟨zs,z1,z2,z3⟩,k2,k3⟩
  simp only at k1 k2 k3 z3
  subst k1
  refine xs0 ?_;try exact⟨⟩
  have hzl:zs.length=ys.length:=z1.length_eq
  refine⟨⟨zs,z1.trans y1,z2,⟨by omega,by simp,.inr ⟨by omega,K,by rw[hzl],by omega,by omega,rfl,z3⟩⟩⟩,fun q hq=>(k2 q (by omega) (by omega)).trans (g2 q (by omega)),by omega⟩
theorem f47 (ρ:Rho) (M:Hp) (nx rm:Nat):FOk Tryz.prog ρ 47 [.mm rm] M nx fun r=>∃box,r.1 = .fn (.func 79) [] [.mp box 0]/\nx<=box/\box<r.2.2/\tget r.2.1 box=some (.row [.mm rm])/\Agr nx M r.2.1/\nx<=r.2.2:=by
 refine FOk.walk (m:=4) (rs:=[.tmp 2]) follows Tryz.func47 (by kernel_rfl) rfl rfl rfl ?_
 conv in W _ _ _ _ _ _ _=>arg 4;whnf
 refine xs1 gy61 ?_;try exact⟨⟩
 exact⟨nx,rfl,by omega,by omega,if_pos rfl,(by(repeat (refine Agr.set ?_ (by omega) _));exact Agr.refl _ _),by omega⟩
def OrdB (M:Hp) (o:Nat):Prop:=∃rm c l,tget M o=some (.row [.mm rm])/\tget M rm=some (.map (entU vX l) c)/\BornOk l c/\l.length<=1000
theorem entU_inj:∀{l l':List (Nat×Int×XV)},entU vX l=entU vX l'->l=l'
 | [],[],_=>rfl
 | [],_::_,h=>by simp[entU]at h
 | _::_,[],h=>by simp[entU]at h
 | (a,b,c)::l,(a',b',c')::l',h=>by
   simp only[entU,List.map_cons,List.cons.injEq,Prod.mk.injEq,XV.int.injEq,true_and,vX]at h
   obtain⟨⟨h1,h2,h3⟩,h4⟩:=h
   rw[h1,h2,h3,entU_inj (l:=l) (l':=l') h4]
theorem alook_isSome {l:List (Nat×Int×XV)} (h:(l.map (·.2.1)).Nodup) (x:Int):x ∈ l.map (·.2.1) ↔ (alook l x).isSome=true:=by
 constructor
 ·intro hx
  obtain⟨e,he,rfl⟩:=List.mem_map.1 hx
  rw[alook_of_mem h e he];rfl
 ·intro hx
  obtain⟨v,hv⟩:=Option.isSome_iff_exists.1 hx
  obtain⟨b,hb⟩:=mem_of_alook hv
  exact List.mem_map.2 ⟨_,hb,rfl⟩
theorem f15 (hS:SortsU) (hN:SortsN) (ρ:Rho) (hdet:ρ.det=false) {M:Hp} {nx b o:Nat} {f:Int->Option (List Ins)} (h:OrdAt M b o f) (hb:b<=nx) (h':OrdB M o) :
 FOk Tryz.prog ρ 15 [.mp o 0] M nx fun r=>(∃ys:List Int,(∀x,x ∈ ys ↔ (f x).isSome=true)/\ys.Nodup/\ys.Pairwise (· <= ·)/\ys.length<=1000/\OwnSl r.2.1 nx r.2.2 (fun _=>()) () r.1 1 ys.length (ys.map (XV.int .u64)))/\Agr nx M r.2.1/\nx<=r.2.2:=by
 obtain⟨ho,rm,c,l,h1,h2,h3,h4,h5⟩:=h
 obtain⟨rm',c',l',q1,q2,q3,q4⟩:=h'
 rw[h1]at q1
 simp only[Option.some.injEq,XObj.row.injEq,List.cons.injEq,XV.mm.injEq,and_true]at q1
 subst q1
 rw[h3]at q2
 simp only[Option.some.injEq,XObj.map.injEq]at q2
 obtain⟨q5,q6⟩:=q2
 have q5:=entU_inj q5
 subst q5
 subst q6
 refine FOk.walk (m:=11) (rs:=[.tmp 2]) follows Tryz.func15 (by kernel_rfl) rfl rfl rfl ?_
 conv in W _ _ _ _ _ _ _=>arg 4;whnf
 refine xs2 gy62 h1 ?_;try exact⟨⟩
 refine CN_fok (f47 ρ _ _ rm) ?_
 rintro⟨u,M1,n1⟩ ⟨box,g1,g2,g3,g4,g5,g6⟩
 simp only at g1 g3 g4 g5 g6
 subst g1
 refine xs1 gy62 ?_;try exact⟨⟩
 refine CN_fok (f46 hS hN ρ hdet g4 ((g5 rm (by omega)).trans h3) q3 (by omega) (by omega) q4) ?_
 rintro⟨u,M2,n2⟩ ⟨⟨ys,y1,y2,y3⟩,k2,k3⟩
 simp only at y3 k2 k3
 refine xs1 gy62 ?_;try exact⟨⟩
 have hnd:(l.map (·.2.1)).Nodup:=q3.kd
 refine⟨⟨ys,fun x=>?_,y1.nodup_iff.2 hnd,y2,by rw[y1.length_eq,List.length_map];exact q4,?_⟩,(g5.le (by omega)).trans (k2.le (by omega)),by omega⟩
 ·rw[y1.mem_iff,alook_isSome hnd]
  cases hx:alook l x with
  | none=>rw[h4 x hx];simp
  | some v =>
    obtain⟨ins,h6,_⟩:=h5 x v hx
    rw[h6];rfl
 ·obtain⟨o1,o2,o3 | ⟨o3,K,q1,K1,K2,K3,K4⟩⟩:=y3
  ·exact⟨o1,o2,.inl o3⟩
  ·exact⟨o1,o2,.inr ⟨o3,K,q1,by omega,by omega,K3,K4⟩⟩
end
end Go.Xs
namespace Go.Xs
noncomputable section
open Go.Proofs
set_option maxRecDepth 100000
set_option maxHeartbeats 4000000
def RowN (M:Hp) (b nx n':Nat) (v:XV) (l:List Ins):Prop:=∃rk sv,v = .mp rk 0/\(rk<b\/nx<=rk)/\rk<n'/\tget M rk=some (.row [sv])/\SlAt M b sv 4 l.length (l.flatMap encIns)
theorem SlAt.up {M:Hp} {b b':Nat} {v:XV} {sz len:Nat} {row:List XV} (h:SlAt M b v sz len row) (hb:b<=b'):SlAt M b' v sz len row :=
 SlAtP.lt ((SlAt.pp h).keep fun k hk=>⟨rfl,Nat.lt_of_lt_of_le hk hb⟩)
theorem RowN.at {M:Hp} {b nx n':Nat} {v:XV} {l:List Ins} (h:RowN M b nx n' v l) (hb:b<=n'):RowAt M n' v l:=by
 obtain⟨rk,sv,h1,h2,h3,h4,h5⟩:=h
 exact⟨rk,sv,h1,h3,h4,h5.up hb⟩
theorem f54n (ρ:Rho) {M:Hp} {nx b o:Nat} {f:Int->Option (List Ins)} (h:OrdAt M b o f) (hb:b<=nx) (x:Int):FOk Tryz.prog ρ 54 [.mp o 0,.int .u64 x] M nx fun r=>RowN r.2.1 b nx r.2.2 r.1 ((f x).getD [])/\Agr nx M r.2.1/\nx<=r.2.2:=by
 obtain⟨ho,rm,c,l,h1,h2,h3,h4,h5⟩:=h
 refine FOk.walk (m:=24) (rs:=[.tmp 4]) follows Tryz.func54 (by kernel_rfl) rfl rfl rfl ?_
 conv in W _ _ _ _ _ _ _=>arg 4;whnf
 cases hx:alook l x with
 | none =>
   refine xs4 gy16 h1 h3 hx ?_;try exact⟨⟩
   refine⟨⟨_,.nils,rfl,.inr (by omega),by omega,by rw[tget_tset,if_pos rfl],?_⟩,(Agr.refl _ _).set (by omega) _,by omega⟩
   rw[h4 x hx]
   exact⟨by simp,.inl ⟨rfl,rfl,rfl⟩⟩
 | some v =>
   obtain⟨ins,h6,rk,sv,rfl,h8,h9,h10⟩:=h5 x v hx
   refine xs4 gy16 h1 h3 hx ?_;try exact⟨⟩
   refine⟨⟨rk,sv,rfl,.inl h8,by omega,h9,?_⟩,Agr.refl _ _,by omega⟩
   rw[h6]
   exact h10
def ins0:Ins:=⟨0,0,0,0⟩
def instS (l:List Ins) (w n:Int):Int×Bool:=if (placeS l w n).2=false\/(placeS l w n).1=0 then (0,false) else ((l[((placeS l w n).1 - 1).toNat]?.getD ins0).wr,true)
theorem placeS_bound (l:List Ins) (w n:Int):0<=(placeS l w n).1/\(placeS l w n).1<=l.length:=by
 unfold placeS
 split
 ·simp
 ·have:=idxG_lt (insIs w n) l 0
  simp only
  omega
theorem f19 (ρ:Rho) {M:Hp} {nx b o:Nat} {f:Int->Option (List Ins)} (h:OrdAt M b o f) (hb:b<=nx) (x w n:Int) :
 FOk Tryz.prog ρ 19 [.mp o 0,.int .u64 x,.agg [.int .u64 w,.int .u64 n]] M nx (Ret nx M (.tup [.int .i64 (instS ((f x).getD []) w n).1,.bool (instS ((f x).getD []) w n).2])):=by
 refine FOk.walk (m:=38) (rs:=[.tmp 6,.tmp 7]) follows Tryz.func19 (by kernel_rfl) rfl rfl rfl ?_
 conv in W _ _ _ _ _ _ _=>arg 4;whnf
 refine xs1 gy63 ?_;try exact⟨⟩
 generalize hM1:tset M nx _=M1
 have a1:Agr nx M M1:=by rw[<-hM1];exact(by(repeat (refine Agr.set ?_ (by omega) _));exact Agr.refl _ _)
 have z1:tget M1 nx=some (.row [.int .u64 w,.int .u64 n]):=by rw[<-hM1];exact(by(repeat (first | rw[tget_tset,if_pos rfl] | rw[tget_tset,if_neg (by omega)] | rw[tget_tdel,if_neg (by omega)]));try (first | rfl | assumption))
 clear hM1
 refine CN_fok (f54n ρ (h.agr (a1.le hb)) (by omega) x) ?_
 rintro⟨u,M2,n2⟩ ⟨g1,g2,g3⟩
 simp only at g1 g2 g3
 have a2:Agr nx M M2:=a1.trans (g2.le (by omega))
 have z2:=(g2 nx (by omega)).trans z1
 obtain⟨l,hl⟩:∃l,l=(f x).getD []:=⟨_,rfl⟩
 rw[<-hl]at g1 ⊢
 have g1':=g1.at (by omega)
 obtain⟨rk,sv,e1,e0,e2,e3,e4⟩:=g1
 subst e1
 clear g2 h
 refine xs2 gy63 z2 ?_;try exact⟨⟩
 refine CD_fok (f55 ρ g1' (by omega) w n) (by decide) ?_ ?_
 ·refine xs1 gy63 ?_;try exact⟨⟩
 rintro⟨u,M3,n3⟩ ⟨k1,k2,k3⟩
 simp only at k1 k2 k3
 subst k1
 have a3:=a2.trans (k2.le (by omega))
 have y3:=(k2 rk (by omega)).trans e3
 have hpb:=placeS_bound l w n
 have hz:=e4.1
 cases hp2:(placeS l w n).2 with
 | false =>
   refine xs3 gy63 hp2 @Ret.eq_1 ?_;try exact⟨⟩
   exact⟨by simp[instS,hp2],a3,by omega⟩
 | true =>
   by_cases hp0:(placeS l w n).1=0
   ·refine xs4 gy63 hp2 hp0 @Ret.eq_1 ?_;try exact⟨⟩
    exact⟨by simp[instS,hp0],a3,by omega⟩
   ·have hil:((placeS l w n).1 - 1).toNat<l.length:=by omega
    obtain⟨e,hei⟩:∃e,l[((placeS l w n).1 - 1).toNat]?=some e:=⟨l[((placeS l w n).1 - 1).toNat],by simp[hil]⟩
    have hw:IntKind.i64.wrap ((placeS l w n).1 - 1)=((((placeS l w n).1 - 1).toNat:Nat):Int):=by rw[wrap_i64 (by omega) (by omega)];omega
    obtain⟨q,o,hqb,hix,hld⟩:=e4.fldG (P:=Tryz.prog) hil (t:=100) ty100.2.2.2.1
    have hld:=hld 2 (.int .i64 e.wr) (by omega) (by rw[ins_row l _ e hei];rfl) 3 1 ty3.1 M3 (k2.le (by omega))
    refine xs8 gy63 hp2 hp0 y3 hw hix hld @Ret.eq_1 ?_;try exact⟨⟩
    refine⟨?_,a3,by omega⟩
    unfold instS
    rw[if_neg (by simp[hp2,hp0]),hei]
    rfl
def nextS (l:List Ins) (w n:Int):Ins×Bool:=if (placeS l w n).2=false\/(placeS l w n).1=l.length then (ins0,false) else (l[(placeS l w n).1.toNat]?.getD ins0,true)
theorem f17 (ρ:Rho) {M:Hp} {nx b o:Nat} {f:Int->Option (List Ins)} (h:OrdAt M b o f) (hb:b<=nx) (x w n:Int) :
 FOk Tryz.prog ρ 17 [.mp o 0,.int .u64 x,.agg [.int .u64 w,.int .u64 n]] M nx (Ret nx M (.tup [.agg [.int .u64 (nextS ((f x).getD []) w n).1.w,.int .u64 (nextS ((f x).getD []) w n).1.n],.int .i64 (nextS ((f x).getD []) w n).1.wr,.bool (nextS ((f x).getD []) w n).2])):=by
 refine FOk.walk (m:=54) (rs:=[.cell 6 25,.tmp 7,.tmp 8]) follows Tryz.func17 (by kernel_rfl) rfl rfl rfl ?_
 conv in W _ _ _ _ _ _ _=>arg 4;whnf
 refine xs1 gy63 ?_;try exact⟨⟩
 generalize hM1:tset (tset M nx _) _ _=M1
 have a1:Agr nx M M1:=by rw[<-hM1];exact(by(repeat (refine Agr.set ?_ (by omega) _));exact Agr.refl _ _)
 have z1:tget M1 nx=some (.row [.int .u64 w,.int .u64 n]):=by rw[<-hM1];exact(by(repeat (first | rw[tget_tset,if_pos rfl] | rw[tget_tset,if_neg (by omega)] | rw[tget_tdel,if_neg (by omega)]));try (first | rfl | assumption))
 have z0:tget M1 (nx+1)=some (.row [.int .u64 0,.int .u64 0]):=by rw[<-hM1];exact(by(repeat (first | rw[tget_tset,if_pos rfl] | rw[tget_tset,if_neg (by omega)] | rw[tget_tdel,if_neg (by omega)]));try (first | rfl | assumption))
 clear hM1
 refine CN_fok (f54n ρ (h.agr (a1.le hb)) (by omega) x) ?_
 rintro⟨u,M2,n2⟩ ⟨g1,g2,g3⟩
 simp only at g1 g2 g3
 have a2:Agr nx M M2:=a1.trans (g2.le (by omega))
 have z2:=(g2 nx (by omega)).trans z1
 have z3:=(g2 (nx+1) (by omega)).trans z0
 obtain⟨l,hl⟩:∃l,l=(f x).getD []:=⟨_,rfl⟩
 rw[<-hl]at g1 ⊢
 have g1':=g1.at (by omega)
 obtain⟨rk,sv,e1,e0,e2,e3,e4⟩:=g1
 subst e1
 clear g2 h
 refine xs2 gy63 z2 ?_;try exact⟨⟩
 refine CD_fok (f55 ρ g1' (by omega) w n) (by decide) ?_ ?_
 ·refine xs1 gy63 ?_;try exact⟨⟩
 rintro⟨u,M3,n3⟩ ⟨k1,k2,k3⟩
 simp only at k1 k2 k3
 subst k1
 have a3:=a2.trans (k2.le (by omega))
 have y3:=(k2 rk (by omega)).trans e3
 have y0:=(k2 (nx+1) (by omega)).trans z3
 have hpb:=placeS_bound l w n
 have hz:=e4.1
 have hlen:=fun N=>e4.len (P:=Tryz.prog) (t:=100) ty100.2.2.2.2.2 N
 cases hp2:(placeS l w n).2 with
 | false =>
   refine xs4 gy63 hp2 y0 @Ret.eq_1 ?_;try exact⟨⟩
   exact⟨by simp[nextS,hp2,ins0],(by(repeat (refine Agr.set ?_ (by omega) _));exact a3),by omega⟩
 | true =>
   by_cases hp0:(placeS l w n).1=(l.length:Int)
   ·refine xs7 gy63 hp2 hp0 y0 y3 hlen @Ret.eq_1 ?_;try exact⟨⟩
    exact⟨by simp[nextS,hp0,ins0],(by(repeat (refine Agr.set ?_ (by omega) _));exact a3),by omega⟩
   ·have hil:(placeS l w n).1.toNat<l.length:=by omega
    obtain⟨e,hei⟩:∃e,l[(placeS l w n).1.toNat]?=some e:=⟨l[(placeS l w n).1.toNat],by simp[hil]⟩
    obtain⟨j,hj⟩:∃j:Nat,(placeS l w n).1=(j:Int):=⟨(placeS l w n).1.toNat,by omega⟩
    have hjt:(placeS l w n).1.toNat=j:=by omega
    rw[hjt]at hil hei
    obtain⟨q,o,hqb,hix,cs,hcs,hrow,hle⟩:=e4.at (P:=Tryz.prog) hil (t:=100) ty100.2.2.2.1
    rw[ins_row l j e hei]at hrow
    have hcs3:=hrd_agr hcs (k2.le (by omega)) hqb
    have hld:∀N,Agr b M3 N->loadX Tryz.prog N 25 (.mp q o)=some ⟨.agg [.int .u64 e.w,.int .u64 e.n],[q],[]⟩:=fun N hN=>by
     rw[load_hrd (hrd_agr hcs3 hN (by omega)) ty25.1 (by omega)]
     have:(cs.drop o).take 2=((cs.drop o).take 4).take 2:=by rw[List.take_take];rfl
     rw[this,<-hrow]
     rfl
    have hl1:=hld M3 (Agr.refl _ _)
    have hl2:loadX Tryz.prog M3 3 (.mp q (o+2))=some ⟨.int .i64 e.wr,[q],[]⟩:=by
     refine load_hrd1 hcs3 ty3.1 ?_
     have:((cs.drop o).take 4)[2]?=some (.int .i64 e.wr):=by rw[<-hrow];rfl
     rw[List.getElem?_take,if_pos (by omega),List.getElem?_drop]at this
     exact this
    have hnj:¬ (j:Int)=(l.length:Int):=by omega
    refine xs11 gy63 hp2 hj hnj y0 y3 hlen hix hl1 hl2 @Ret.eq_1 ?_;try exact⟨⟩
    refine⟨by(repeat' apply And.intro)<;>(refine okP2_ap _ _ _ _ _ _ ?_ ?_ ?_<;>(intro x hx hy;first | (simp only[List.mem_cons,List.not_mem_nil,or_false]at hx hy;done) | (simp only[List.mem_cons,List.not_mem_nil,or_false]at hx hy;omega))),?_,(by(repeat (refine Agr.set ?_ (by omega) _));exact a3),by omega⟩
    have hnx:nextS l w n=(e,true):=by
     unfold nextS
     rw[if_neg (by rw[hp2,hj];simp;omega),hjt,hei];rfl
    rw[hnx]
end
end Go.Xs
namespace Go.Xs
noncomputable section
open Go.Proofs
set_option maxRecDepth 100000
set_option maxHeartbeats 4000000
def insOf (S:HS) (m:ModS):Ins:=⟨m.w,m.n,(txR S m.t).1.n,(txR S m.t).1.e⟩
def ordC (S:HS) (m:ModS):Bool:=m.fin&&decide ((txR S m.t).1.s=1)
def ordOf (S:HS) (ms:List ModS) (x:Int):List Ins:=(ms.filter fun m=>decide (m.x=x)&&ordC S m).map (insOf S)
theorem ordOf_step (S:HS) {ms:List ModS} {i:Nat} {m:ModS} (h:ms[i]?=some m) (x:Int):ordOf S (ms.take (i+1)) x=if x=m.x/\ordC S m=true then ordOf S (ms.take i) x++[insOf S m] else ordOf S (ms.take i) x:=by
 have:ms.take (i+1)=ms.take i++[m]:=by rw[List.take_add_one,h];rfl
 unfold ordOf
 rw[this,List.filter_append,List.map_append]
 by_cases hc:x=m.x/\ordC S m=true
 ·rw[if_pos hc]
  simp[hc.1,hc.2]
 ·rw[if_neg hc]
  have:(decide (m.x=x)&&ordC S m)=false:=by
   rw[Bool.and_eq_false_iff]
   by_cases e:m.x=x
   ·right
    cases ho:ordC S m with
    | false=>rfl
    | true=>exact(hc ⟨e.symm,ho⟩).elim
   ·left;simpa using e
  simp[this]
def SortsI:Prop:=∀(ρ:Rho) (M:Hp) (nx k:Nat) (l:List Ins),l.length<=1000->0<l.length->k<nx->tget M k=some (.row (l.flatMap encIns)) ->
 FOk Tryz.prog ρ 39 [.sl k 4 0 l.length l.length,.fn (.func 40) [] []] M nx fun r=>r.1 = .tup []/\(∃l':List Ins,l'.Perm l/\l'.Pairwise (fun a b=>a.wr<=b.wr)/\tget r.2.1 k=some (.row (l'.flatMap encIns)))/\(∀j,j<nx->j≠k->tget r.2.1 j=tget M j)/\nx<=r.2.2
structure OfPost (S:HS) (M:Hp) (nx:Nat) (r:Out):Prop where
 post:∃(o:Nat) (F:Int->Option (List Ins)),r.1 = .mp o 0/\OrdAt r.2.1 r.2.2 o F/\OrdB r.2.1 o/\(∀x,F x=none ↔ ordOf S S.mods x=[])/\(∀x l,F x=some l->l.Perm (ordOf S S.mods x)/\l.Pairwise (fun a b=>a.wr<=b.wr))/\Agr nx M r.2.1/\nx<=r.2.2
theorem f11 (hI:SortsI) (ρ:Rho) (hdet:ρ.det=false) {M:Hp} {nx lo hi h:Nat} {S:HS} (H:HistAt M lo hi h S) (hh:hi<=nx) (hn:NumsOk S) (few:S.mods.length<=1000) :
 FOk Tryz.prog ρ 11 [.mp h 0] M nx (OfPost S M nx):=by
 refine FOk.walk (m:=95) (rs:=[.tmp 2]) follows Tryz.func11 (by kernel_rfl) rfl rfl rfl ?_
 conv in W _ _ _ _ _ _ _=>arg 4;whnf
 refine xs1 gy64 ?_;try exact⟨⟩
 generalize hM1:tset (tset M _ _) _ _=M1
 have a1:Agr nx M M1:=by rw[<-hM1];exact(by(repeat (refine Agr.set ?_ (by omega) _));exact Agr.refl _ _)
 have z1:tget M1 (nx+5)=some (.row [.mm (nx+3)]):=by rw[<-hM1];exact(by(repeat (first | rw[tget_tset,if_pos rfl] | rw[tget_tset,if_neg (by omega)] | rw[tget_tdel,if_neg (by omega)]));try (first | rfl | assumption))
 have z2:tget M1 (nx+3)=some (.map [] 0):=by rw[<-hM1];exact(by(repeat (first | rw[tget_tset,if_pos rfl] | rw[tget_tset,if_neg (by omega)] | rw[tget_tdel,if_neg (by omega)]));try (first | rfl | assumption))
 clear hM1
 refine CN_fok (f28 ρ (H.agr (a1.le hh)) (by omega) (by omega)) ?_
 rintro⟨mv,M2,n2⟩ ⟨g1,g2,g3⟩
 simp only at g1 g2 g3
 have a2:Agr nx M M2:=a1.trans (g2.le (by omega))
 have y1:=(g2 (nx+5) (by omega)).trans z1
 have y2:=(g2 (nx+3) (by omega)).trans z2
 have hml:∀N,lenX Tryz.prog N 64 mv=some ⟨.int .i64 (S.mods.length:Nat),[],[]⟩:=fun N=>(SlAtP.lt (g1.keep (q:=(· < n2)) fun k hk=>⟨rfl,hk.2⟩)).len (P:=Tryz.prog) (t:=64) ty64.2.2.2.2.2 N
 refine xs2 gy64 hml ?_;try exact⟨⟩
 clear a1 z1 z2 g2
 refine W_loop (fun m' s=>∃(i:Nat) (l:List (Nat×Int×XV)) (c:Nat) (tag:Nat->OTg),i<=S.mods.length/\m'=S.mods.length - i/\tget s.env 0=some (.mp h 0)/\tget s.env 3=some (.mp (nx+5) 0)/\tget s.env 18=some mv/\tget s.env 19=some (.int .i64 (S.mods.length:Nat))/\tget s.env 20=some (.int .i64 i) /\
  OrdM s.M nx s.nx (nx+5) (nx+3) c l tag (ordOf S (S.mods.take i))/\l.length<=i/\SlAtP s.M (fun k=>k<n2/\tag k = .none) mv 8 S.mods.length (S.mods.flatMap encMod)/\Agr nx M s.M/\n2<=s.nx)
  S.mods.length ⟨0,[],0,fun k=>if k=nx+5 then .ord else if k=nx+3 then .map else .none,by omega,by omega,?_⟩ ?_
 ·refine xs1 gy64 ?_;try exact⟨⟩
  refine⟨?_,Nat.le_refl _,g1.keep fun k hk=>⟨rfl,hk.2,by rw[if_neg (by omega),if_neg (by omega)]⟩,a2,by omega⟩
  exact { olo:=by omega,ohi:=by omega,otg:=if_pos rfl,orow:=y1,rlo:=by omega,rhi:=by omega,rtg:=by rw[if_neg (by omega),if_pos rfl],map:=y2,born:=born_nil 0,none:=fun x _=>by simp[ordOf],some:=fun x v hx=>by simp[alook]at hx }
 ·rintro m' ⟨env,M',nx'⟩ ⟨i,l,c,tag,hi',hm',e0,e3,e18,e19,e20,hO,hli,hsl,ha,hn'⟩
  simp only at e0 e3 e18 e19 e20 hO hsl ha hn'
  by_cases hlt:(i:Int)<S.mods.length
  ·have hlt':i<S.mods.length:=by omega
   obtain⟨m,hmi⟩:∃m,S.mods[i]?=some m:=⟨S.mods[i],by simp[hlt']⟩
   obtain⟨q,o,hqb,hix,hld⟩:=(SlAtP.lt (hsl.keep (q:=(· < n2)) fun k hk=>⟨rfl,hk.1⟩)).elem (P:=Tryz.prog) hlt' (t:=64) (t':=71) ty64.2.2.2.1 ty71.1
   have hld:=hld M' (Agr.refl _ _)
   rw[mods_row _ _ _ hmi]at hld
   simp only[encMod]at hld
   have hw2:IntKind.i64.wrap ((i:Int)+1)=((i+1:Nat):Int):=by rw[wrap_i64 (by omega) (by omega)];omega
   have hst:=fun x=>ordOf_step S hmi x
   refine xs9 gy64 e0 e3 e18 e19 e20 hlt hix hld ?_;try exact⟨⟩
   generalize hM3:tset (tset M' _ _) _ _=M3
   have a3:Agr nx' M' M3:=by rw[<-hM3];exact(by(repeat (refine Agr.set ?_ (by omega) _));exact Agr.refl _ _)
   have z3:tget M3 (nx'+3)=some (.row [.int .i64 m.pos,.int .u64 m.t,.int .u64 m.x,.int .u64 m.w,.int .u64 m.n,.int .u64 m.v,.bool m.dead,.bool m.fin]):=by rw[<-hM3];exact(by(repeat (first | rw[tget_tset,if_pos rfl] | rw[tget_tset,if_neg (by omega)] | rw[tget_tdel,if_neg (by omega)]));try (first | rfl | assumption))
   clear hM3
   refine CN_fok (f29 ρ (H.agr ((ha.trans (a3.le (by omega))).le hh)) (by omega) hn m.t) ?_
   rintro⟨u,M4,n4⟩ ⟨k1,k2,k3⟩
   simp only at k1 k2 k3
   subst k1
   have a4:Agr nx' M' M4:=a3.trans (k2.le (by omega))
   have z4:=(k2 (nx'+3) (by omega)).trans z3
   obtain⟨tx,htx⟩:∃tx,tx=(txR S m.t).1:=⟨_,rfl⟩
   simp only[<-htx,encTx]
   have sOrd:∀{M5:Hp} {n5:Nat},ordC S m=false->Agr nx' M' M5->nx'<=n5->OrdM M5 nx n5 (nx+5) (nx+3) c l (fun k=>if k<nx' then tag k else .none) (ordOf S (S.mods.take (i+1))):=fun hc h1 h2=>by
    have:ordOf S (S.mods.take (i+1))=ordOf S (S.mods.take i):=funext fun x=>by rw[hst x,if_neg (by rw[hc];simp)]
    rw[this]
    exact(hO.agr h1).up h2 fun k hk=>if_pos hk
   by_cases hcc:ordC S m=true
   ·have hc':=hcc
    unfold ordC at hc'
    simp only[Bool.and_eq_true,decide_eq_true_eq,<-htx]at hc'
    obtain⟨hfin,hs1⟩:=hc'
    have hmap:=(a4 (nx+3) hO.rhi).trans hO.map
    have horow:=(a4 (nx+5) hO.ohi).trans hO.orow
    have hohi:=hO.ohi
    have hrhi:=hO.rhi
    cases hal:alook l m.x with
    | some v =>
      obtain⟨rk,sv,rfl,r1,r2,r3,r4,r5,o1,o2,o3⟩:=hO.some m.x v hal
      rcases o3 with ⟨_,o3⟩ | ⟨o0,sk,rfl,q1,q2,q3,q4⟩
      ·exact(r5 (List.length_eq_zero_iff.1 o3)).elim
      have hrk:=(a4 rk r2).trans r4
      have hsk:=(a4 sk q2).trans q4
      have d1:=tag_ne r3 q3 (by simp)
      have d2:=tag_ne r3 hO.rtg (by simp)
      have d3:=tag_ne r3 hO.otg (by simp)
      have d4:=tag_ne q3 hO.rtg (by simp)
      have d5:=tag_ne q3 hO.otg (by simp)
      have hd:KEq rk sk=False/\KEq sk rk=False/\KEq rk (nx+3)=False/\KEq (nx+3) rk=False/\KEq rk (nx+5)=False/\KEq (nx+5) rk=False/\KEq sk (nx+3)=False/\KEq (nx+3) sk=False/\KEq sk (nx+5)=False/\KEq (nx+5) sk=False/\KEq (nx+3) (nx+5)=False/\KEq (nx+5) (nx+3)=False:=by simp only[KEq,eq_iff_iff,iff_false];omega
      obtain⟨g,hg⟩:∃g,g=ordOf S (S.mods.take i) m.x:=⟨_,rfl⟩
      rw[<-hg]at o0 o1 o2 hrk hsk
      obtain⟨cs,hcs⟩:∃cs,cs=g.flatMap encIns:=⟨_,rfl⟩
      rw[<-hcs]at hsk
      have hcl:cs.length=g.length*4:=by rw[hcs,hg];rw[hg]at o2;exact o2
      have htk:List.take (g.length*4) cs=cs:=List.take_of_length_le (by omega)
      have hgl:g.length<=1000:=by
       rw[hg]
       unfold ordOf
       rw[List.length_map]
       refine Nat.le_trans (List.length_filter_le _ _) ?_
       rw[List.length_take];omega
      have hfun:ordOf S (S.mods.take (i+1))=fun y=>if y=m.x then g++[insOf S m] else ordOf S (S.mods.take i) y:=funext fun y=>by
       rw[hst y]
       by_cases e:y=m.x
       ·subst e;rw[if_pos ⟨rfl,hcc⟩,if_pos rfl,<-hg]
       ·rw[if_neg (fun q=>e q.1),if_neg e]
      clear hst hix hld k2
      refine xs18 gy64 e0 e3 e18 e19 e20 hw2 z4 hfin hs1 hmap hal horow hrk hsk hd hcl htk ?_;try exact⟨⟩
      refine⟨by(repeat' apply And.intro)<;>(refine okP2_ap _ _ _ _ _ _ ?_ ?_ ?_<;>(intro x hx hy;first | (simp only[List.mem_cons,List.not_mem_nil,or_false]at hx hy;done) | (simp only[List.mem_cons,List.not_mem_nil,or_false]at hx hy;omega))),S.mods.length - (i+1),by omega,i+1,l,c,fun k=>if k=n4+42 then .sl m.x else if k<nx' then tag k else .none,by omega,rfl,rfl,?_,by omega,hsl.keep fun k hk=>⟨?_,hk.1,?_⟩,fun k hk=>?_,by omega⟩
      ·rw[hfun]
       refine hO.set hal (fun k k1 k2 k3=>?_) (fun k hk=>by rw[if_neg (by omega),if_pos hk]) (by omega) (sv':=.sl (n4+42) 4 0 (g.length+1) (g.length+1)) (by(repeat (first | rw[tget_tset,if_pos rfl] | rw[tget_tset,if_neg (by omega)] | rw[tget_tdel,if_neg (by omega)]));try (first | rfl | assumption)) (by simp) ⟨by simp;omega,by simp[encIns,flatMap_len (sz:=4) (f:=encIns) (fun a=>rfl)];omega,.inr ⟨by simp,n4+42,by simp,by omega,by omega,if_pos rfl,?_⟩⟩
       ·have e1:k≠rk:=fun e=>k2 (by rw[e];exact r3)
        have e2:k≠sk:=fun e=>k3 (by rw[e];exact q3)
        have:=a4 k k1
        exact(by(repeat (first | rw[tget_tset,if_pos rfl] | rw[tget_tset,if_neg (by omega)] | rw[tget_tdel,if_neg (by omega)]));try (first | rfl | assumption))
       ·rw[List.flatMap_append,<-hcs]
        simp only[List.flatMap_cons,List.flatMap_nil,List.append_nil,insOf,encIns,<-htx]
        exact(by(repeat (first | rw[tget_tset,if_pos rfl] | rw[tget_tset,if_neg (by omega)] | rw[tget_tdel,if_neg (by omega)]));try (first | rfl | assumption))
      ·have e1:k≠rk:=fun e=>by have:=hk.2;rw[e,r3]at this;cases this
       have e2:k≠sk:=fun e=>by have:=hk.2;rw[e,q3]at this;cases this
       have:=a4 k (by omega)
       exact(by(repeat (first | rw[tget_tset,if_pos rfl] | rw[tget_tset,if_neg (by omega)] | rw[tget_tdel,if_neg (by omega)]));try (first | rfl | assumption))
      ·show (if k=n4+42 then OTg.sl m.x else if k<nx' then tag k else .none) = .none
       rw[if_neg (by omega),if_pos (by omega)];exact hk.2
      ·have:=(ha.trans (a4.le (by omega))) k hk
       exact(by(repeat (first | rw[tget_tset,if_pos rfl] | rw[tget_tset,if_neg (by omega)] | rw[tget_tdel,if_neg (by omega)]));try (first | rfl | assumption))
    | none =>
      have hd:KEq (nx+3) (nx+5)=False/\KEq (nx+5) (nx+3)=False:=by simp only[KEq,eq_iff_iff,iff_false];omega
      have hf0:=hO.none m.x hal
      have hfun:ordOf S (S.mods.take (i+1))=fun y=>if y=m.x then [insOf S m] else ordOf S (S.mods.take i) y:=funext fun y=>by
       rw[hst y]
       by_cases e:y=m.x
       ·subst e;rw[if_pos ⟨rfl,hcc⟩,if_pos rfl,hf0];rfl
       ·rw[if_neg (fun q=>e q.1),if_neg e]
      clear hst hix hld k2
      refine xs14 gy64 e0 e3 e18 e19 e20 hw2 z4 hfin hs1 hmap hal horow hd ?_;try exact⟨⟩
      refine⟨by(repeat' apply And.intro)<;>(refine okP2_ap _ _ _ _ _ _ ?_ ?_ ?_<;>(intro x hx hy;first | (simp only[List.mem_cons,List.not_mem_nil,or_false]at hx hy;done) | (simp only[List.mem_cons,List.not_mem_nil,or_false]at hx hy;omega))),S.mods.length - (i+1),by omega,i+1,aput l c m.x (.mp (n4+29) 0),acl l c m.x,fun k=>if k=n4+53 then .sl m.x else if k=n4+29 then .row m.x else if k<nx' then tag k else .none,by omega,rfl,rfl,?_,by rw[aput_new _ _ _ _ hal];simp;omega,hsl.keep fun k hk=>⟨?_,hk.1,?_⟩,(by(repeat (refine Agr.set ?_ (by omega) _));exact ha.trans (a4.le (by omega))),by omega⟩
      ·rw[hfun]
       refine hO.add hal (fun k k1 k2=>?_) (fun k hk=>by rw[if_neg (by omega),if_neg (by omega),if_pos hk]) (by omega) (by(repeat (first | rw[tget_tset,if_pos rfl] | rw[tget_tset,if_neg (by omega)] | rw[tget_tdel,if_neg (by omega)]));try (first | rfl | assumption)) (by omega) (by omega) (by rw[if_neg (by omega),if_pos rfl]) (sv':=.sl (n4+53) 4 0 1 1) (by(repeat (first | rw[tget_tset,if_pos rfl] | rw[tget_tset,if_neg (by omega)] | rw[tget_tdel,if_neg (by omega)]));try (first | rfl | assumption)) (by simp) ⟨by simp,by simp[encIns],.inr ⟨by simp,n4+53,by simp,by omega,by omega,if_pos rfl,?_⟩⟩
       ·have:=a4 k k1
        exact(by(repeat (first | rw[tget_tset,if_pos rfl] | rw[tget_tset,if_neg (by omega)] | rw[tget_tdel,if_neg (by omega)]));try (first | rfl | assumption))
       ·simp only[List.flatMap_cons,List.flatMap_nil,List.append_nil,insOf,encIns,<-htx]
        exact(by(repeat (first | rw[tget_tset,if_pos rfl] | rw[tget_tset,if_neg (by omega)] | rw[tget_tdel,if_neg (by omega)]));try (first | rfl | assumption))
      ·have e1:k≠nx+3:=fun e=>by have:=hk.2;rw[e,hO.rtg]at this;cases this
       have:=a4 k (by omega)
       exact(by(repeat (first | rw[tget_tset,if_pos rfl] | rw[tget_tset,if_neg (by omega)] | rw[tget_tdel,if_neg (by omega)]));try (first | rfl | assumption))
      ·show (if k=n4+53 then OTg.sl m.x else if k=n4+29 then .row m.x else if k<nx' then tag k else .none) = .none
       rw[if_neg (by omega),if_neg (by omega),if_pos (by omega)];exact hk.2
   ·have hcf:ordC S m=false:=by simpa using hcc
    have hcf':=hcf
    unfold ordC at hcf'
    rw[<-htx]at hcf'
    cases hfin:m.fin with
    | false =>
      refine xs9 gy64 e0 e3 e18 e19 e20 z4 hfin hw2 ?_;try exact⟨⟩
      refine⟨S.mods.length - (i+1),by omega,i+1,l,c,fun k=>if k<nx' then tag k else .none,by omega,rfl,rfl,sOrd hcf (by(repeat (refine Agr.set ?_ (by omega) _));exact a4) (by omega),by omega,hsl.keep fun k hk=>⟨?_,hk.1,?_⟩,(by(repeat (refine Agr.set ?_ (by omega) _));exact ha.trans (a4.le (by omega))),by omega⟩
      ·have:=a4 k (by omega)
       exact(by(repeat (first | rw[tget_tset,if_pos rfl] | rw[tget_tset,if_neg (by omega)] | rw[tget_tdel,if_neg (by omega)]));try (first | rfl | assumption))
      ·show (if k<nx' then tag k else OTg.none) = .none
       rw[if_pos (by omega)];exact hk.2
    | true =>
      have hs1:¬ tx.s=1:=by rw[hfin]at hcf';simpa using hcf'
      refine xs10 gy64 e0 e3 e18 e19 e20 z4 hfin hs1 hw2 ?_;try exact⟨⟩
      refine⟨S.mods.length - (i+1),by omega,i+1,l,c,fun k=>if k<nx' then tag k else .none,by omega,rfl,rfl,sOrd hcf (by(repeat (refine Agr.set ?_ (by omega) _));exact a4) (by omega),by omega,hsl.keep fun k hk=>⟨?_,hk.1,?_⟩,(by(repeat (refine Agr.set ?_ (by omega) _));exact ha.trans (a4.le (by omega))),by omega⟩
      ·have:=a4 k (by omega)
       exact(by(repeat (first | rw[tget_tset,if_pos rfl] | rw[tget_tset,if_neg (by omega)] | rw[tget_tdel,if_neg (by omega)]));try (first | rfl | assumption))
      ·show (if k<nx' then tag k else OTg.none) = .none
       rw[if_pos (by omega)];exact hk.2
  ·have hil:S.mods.take i=S.mods:=List.take_of_length_le (by omega)
   rw[hil]at hO
   have hmap:=hO.map
   have horow:=hO.orow
   have hohi:=hO.ohi
   have hrhi:=hO.rhi
   have hll:l.length<=1000:=by omega
   have f3:=e3
   clear hsl hli H hml y1 y2 g1
   refine xs13 gy64 e0 e3 e18 e19 e20 hlt horow hmap @x_range @range_eq @rgC_map ty95.2.2.2.2 ?_;try exact⟨⟩
   obtain⟨it,hit⟩:∃it,it=nx'+5:=⟨_,rfl⟩
   rw[<-hit]
   refine W_loop (fun m4 s=>∃(seen:List Nat) (st:Nat) (g:Int->List Ins),m4=(l.filter fun e=>decide (e.1 ∉ seen)).length/\tget s.env 3=some (.mp (nx+5) 0)/\tget s.env 83=some (.mp it 0)/\tget s.M it=some (.iter (some (nx+3)) c seen st)/\c<=st /\
    OrdM s.M nx nx' (nx+5) (nx+3) c l tag g/\(∀x,(g x).Perm (ordOf S S.mods x))/\(∀e ∈ l,e.1 ∈ seen->(g e.2.1).Pairwise (fun a b=>a.wr<=b.wr))/\Agr nx M s.M/\it<s.nx)
    _ ⟨[],c,ordOf S S.mods,rfl,?_⟩ ?_
   ·refine xs1 gy64 ?_;try exact⟨⟩
    refine⟨f3,Nat.le_refl _,hO.agr ((Agr.refl _ _).set (by omega) _),fun x=>.refl _,fun e he hs=>by simp at hs,(by(repeat (refine Agr.set ?_ (by omega) _));exact ha),by omega⟩
   ·rintro m4 ⟨env4,M4,n4⟩ ⟨seen,st,g,hm4,f3',f83,hitr,hst,hO4,hpm,hpw,ha4,hn4⟩
    simp only at f3' f83 hitr hO4 ha4 hn4
    refine xs3 gy64 f83 @RN_next ?_;try exact⟨⟩
    refine NX_map hdet hitr hO4.map hO4.born.lt hst (Nat.le_refl _) ?_ ?_
    ·intro hall
     have hpost:OfPost S M nx (.mp (nx+5) 0,M4,n4+4):=by
      refine⟨nx+5,fun x=>if (alook l x).isSome then some (g x) else none,rfl,⟨by simp only;omega,nx+3,c,l,hO4.orow,by simp only;omega,hO4.map,fun x hx=>by simp[hx],fun x v hx=>⟨g x,by simp[hx],?_⟩⟩,⟨nx+3,c,l,hO4.orow,hO4.map,hO4.born,hll⟩,fun x=>?_,fun x l' hx=>?_,ha4,by simp only;omega⟩
      ·obtain⟨rk,sv,h1,h2,h3,h4,h5,h6,h7⟩:=hO4.some x v hx
       exact⟨rk,sv,h1,by simp only;omega,h5,h7.sl.up (by simp only;omega)⟩
      ·cases hx:alook l x with
       | none =>
         have:=hO.none x hx
         simp[this,hx]
       | some v =>
         obtain⟨rk,sv,h1,h2,h3,h4,h5,h6,h7⟩:=hO.some x v hx
         simp[h6,hx]
      ·cases hl:alook l x with
       | none=>simp[hl]at hx
       | some v =>
         simp only[hl,Option.isSome_some,if_true,Option.some.injEq]at hx
         subst hx
         obtain⟨b',hb'⟩:=mem_of_alook hl
         exact⟨hpm x,hpw _ hb' (hall _ hb')⟩
     clear hall hpw hpm
     refine xt3 gy64 f3' f83 ?_;try exact⟨⟩
     exact hpost
    ·intro e he hns
     obtain⟨rk,sv,hv,r1,r2,r3,r4,r5,r6⟩:=hO4.some e.2.1 e.2.2 (alook_of_mem hO4.born.kd e he)
     obtain⟨o1,o2,⟨_,o3⟩ | ⟨o0,sk,rfl,q1,q2,q3,q4⟩⟩:=r6
     ·exact(r5 (List.length_eq_zero_iff.1 o3)).elim
     have hgl:(g e.2.1).length<=1000:=by
      rw[(hpm e.2.1).length_eq]
      unfold ordOf
      rw[List.length_map]
      exact Nat.le_trans (List.length_filter_le _ _) few
     have d1:=tag_ne r3 q3 (by simp)
     generalize hM5:tset M4 it _=M5
     have hent:entryX M5 (.mp it 0)=some ⟨.tup [.int .u64 e.2.1,.mp rk 0],[it,nx+3],[]⟩:=by
      rw[<-hv]
      have hmp:=hO4.map
      exact entry_map (vf:=vX) (l:=l) (by rw[<-hM5];exact(by(repeat (first | rw[tget_tset,if_pos rfl] | rw[tget_tset,if_neg (by omega)] | rw[tget_tdel,if_neg (by omega)]));try (first | rfl | assumption))) (by rw[<-hM5];exact(by(repeat (first | rw[tget_tset,if_pos rfl] | rw[tget_tset,if_neg (by omega)] | rw[tget_tdel,if_neg (by omega)]));try (first | rfl | assumption))) hO4.born.nd he
     have w1:tget M5 rk=some (.row [.sl sk 4 0 (g e.2.1).length (g e.2.1).length]):=by rw[<-hM5];exact(by(repeat (first | rw[tget_tset,if_pos rfl] | rw[tget_tset,if_neg (by omega)] | rw[tget_tdel,if_neg (by omega)]));try (first | rfl | assumption))
     have w2:tget M5 sk=some (.row ((g e.2.1).flatMap encIns)):=by rw[<-hM5];exact(by(repeat (first | rw[tget_tset,if_pos rfl] | rw[tget_tset,if_neg (by omega)] | rw[tget_tdel,if_neg (by omega)]));try (first | rfl | assumption))
     have w3:tget M5 it=some (.iter (some (nx+3)) c (seen++[e.1]) c):=by rw[<-hM5];exact(by(repeat (first | rw[tget_tset,if_pos rfl] | rw[tget_tset,if_neg (by omega)] | rw[tget_tdel,if_neg (by omega)]));try (first | rfl | assumption))
     have a5:Agr nx' M4 M5:=by rw[<-hM5];exact(by(repeat (refine Agr.set ?_ (by omega) _));exact Agr.refl _ _)
     have hcall:=hI ρ M5 (n4+10) sk (g e.2.1) hgl o0 (by omega) w2
     have hv':=hv
     clear hM5 hv r4 q4
     refine xs6 gy64 f3' f83 @x_entry hent w1 ?_;try exact⟨⟩
     refine CN_fok hcall ?_
     rintro⟨u,M6,n6⟩ ⟨k1,⟨l',p1,p2,p3⟩,k2,k3⟩
     simp only at k1 p3 k2 k3
     subst k1
     have old:∀k,k<nx'->k≠sk->tget M6 k=tget M4 k:=fun k h1 h2=>(k2 k (by omega) h2).trans (a5 k h1)
     have hl':l'.length=(g e.2.1).length:=p1.length_eq
     have hne:l'≠[]:=fun q=>by rw[q]at hl';simp only[List.length_nil]at hl';omega
     have hO6:OrdM M6 nx nx' (nx+5) (nx+3) c l tag (fun y=>if y=e.2.1 then l' else g y):=by
      have hal:=alook_of_mem hO4.born.kd e he
      rw[hv']at hal
      refine hO4.set hal (fun k h1 h2 h3=>old k h1 fun q=>h3 (by rw[q];exact q3)) (fun k _=>rfl) (Nat.le_refl _) ((k2 rk (by omega) d1).trans w1) hne ⟨by omega,by rw[flatMap_len (sz:=4) (f:=encIns) (fun a=>rfl)],.inr ⟨by omega,sk,by rw[hl'],q1,q2,q3,p3⟩⟩
     have hw6:=(k2 it (by omega) (by omega)).trans w3
     have hG6:Agr nx M M6:=fun k hk=>(old k (by omega) (by omega)).trans (ha4 k hk)
     have hpm6:∀x,(if x=e.2.1 then l' else g x).Perm (ordOf S S.mods x):=fun x=>by
      by_cases q:x=e.2.1
      ·rw[if_pos q,q];exact p1.trans (hpm _)
      ·rw[if_neg q];exact hpm x
     have hpw6:∀e' ∈ l,e'.1 ∈ seen++[e.1]->(if e'.2.1=e.2.1 then l' else g e'.2.1).Pairwise (fun a b=>a.wr<=b.wr):=fun e' he' hs=>by
      by_cases q:e'.2.1=e.2.1
      ·rw[if_pos q];exact p2
      ·rw[if_neg q]
       rcases List.mem_append.1 hs with hs | hs
       ·exact hpw e' he' hs
       ·rw[List.mem_singleton]at hs
        exact(q (by rw[nodup_fst' hO4.born.nd he' he hs])).elim
     have hms:(l.filter fun e'=>decide (e'.1 ∉ seen++[e.1])).length<m4:=by rw[hm4];exact filt_lt' hns he
     clear hpm hpw old hO4 hns hm4 k2
     refine xt3 gy64 f3' f83 ?_;try exact⟨⟩
     exact⟨_,hms,seen++[e.1],c,_,rfl,hw6,Nat.le_refl _,hO6,hpm6,hpw6,hG6,by omega⟩
end
end Go.Xs
namespace Go.Xs
noncomputable section
open Go.Proofs
set_option maxRecDepth 100000
set_option maxHeartbeats 4000000
def aheadS (l:List Ins) (w n:Int):List XV×Bool:=if (placeS l w n).2=false then ([.int .u64 0,.int .u64 0],false) else insAt l ((placeS l w n).1 - 1)
theorem insAt_shape (l:List Ins) (i:Int):∃a c,(insAt l i).1=[.int .u64 a,.int .u64 c]\/((insAt l i).1=[]/\0<i/\i<=l.length):=by
 unfold insAt
 by_cases h:i=0
 ·exact⟨0,0,.inl (by rw[if_pos h])⟩
 ·rw[if_neg h]
  by_cases h2:i<0\/(l.length:Int)<i
  ·exact⟨0,0,.inl (by rw[if_pos h2])⟩
  ·rw[if_neg h2]
   cases hl:l[(i - 1).toNat]? with
   | some e=>exact⟨e.w,e.n,.inl rfl⟩
   | none=>exact⟨0,0,.inr ⟨rfl,by omega,by omega⟩⟩
theorem insAt_cells (l:List Ins) (i:Int):∃a c,(insAt l i).1=[.int .u64 a,.int .u64 c]:=by
 obtain⟨a,c,h | ⟨h,h1,h2⟩⟩:=insAt_shape l i
 ·exact⟨a,c,h⟩
 ·exfalso
  unfold insAt at h
  rw[if_neg (by omega),if_neg (by omega)]at h
  have hl:(i - 1).toNat<l.length:=by omega
  rw[List.getElem?_eq_getElem hl]at h
  cases h
theorem f18 (ρ:Rho) {M:Hp} {nx b o:Nat} {f:Int->Option (List Ins)} (h:OrdAt M b o f) (hb:b<=nx) (x w n:Int) :
 FOk Tryz.prog ρ 18 [.mp o 0,.int .u64 x,.agg [.int .u64 w,.int .u64 n]] M nx (Ret nx M (.tup [.agg (aheadS ((f x).getD []) w n).1,.bool (aheadS ((f x).getD []) w n).2])):=by
 refine FOk.walk (m:=33) (rs:=[.cell 6 25,.tmp 7]) follows Tryz.func18 (by kernel_rfl) rfl rfl rfl ?_
 conv in W _ _ _ _ _ _ _=>arg 4;whnf
 refine xs1 gy65 ?_;try exact⟨⟩
 generalize hM1:tset (tset M nx _) _ _=M1
 have a1:Agr nx M M1:=by rw[<-hM1];exact(by(repeat (refine Agr.set ?_ (by omega) _));exact Agr.refl _ _)
 have z1:tget M1 nx=some (.row [.int .u64 w,.int .u64 n]):=by rw[<-hM1];exact(by(repeat (first | rw[tget_tset,if_pos rfl] | rw[tget_tset,if_neg (by omega)] | rw[tget_tdel,if_neg (by omega)]));try (first | rfl | assumption))
 have z0:tget M1 (nx+1)=some (.row [.int .u64 0,.int .u64 0]):=by rw[<-hM1];exact(by(repeat (first | rw[tget_tset,if_pos rfl] | rw[tget_tset,if_neg (by omega)] | rw[tget_tdel,if_neg (by omega)]));try (first | rfl | assumption))
 clear hM1
 refine CN_fok (f54n ρ (h.agr (a1.le hb)) (by omega) x) ?_
 rintro⟨u,M2,n2⟩ ⟨g1,g2,g3⟩
 simp only at g1 g2 g3
 have a2:Agr nx M M2:=a1.trans (g2.le (by omega))
 have z2:=(g2 nx (by omega)).trans z1
 have z3:=(g2 (nx+1) (by omega)).trans z0
 obtain⟨l,hl⟩:∃l,l=(f x).getD []:=⟨_,rfl⟩
 rw[<-hl]at g1 ⊢
 have g1':=g1.at (by omega)
 obtain⟨rk,sv,e1,e0,e2,e3,e4⟩:=g1
 subst e1
 clear g2 h
 refine xs2 gy65 z2 ?_;try exact⟨⟩
 refine CD_fok (f55 ρ g1' (by omega) w n) (by decide) ?_ ?_
 ·refine xs1 gy65 ?_;try exact⟨⟩
 rintro⟨u,M3,n3⟩ ⟨k1,k2,k3⟩
 simp only at k1 k2 k3
 subst k1
 have a3:=a2.trans (k2.le (by omega))
 have y0:=(k2 (nx+1) (by omega)).trans z3
 have hpb:=placeS_bound l w n
 have hz:=e4.1
 cases hp2:(placeS l w n).2 with
 | false =>
   refine xs4 gy65 hp2 y0 @Ret.eq_1 ?_;try exact⟨⟩
   exact⟨by simp[aheadS,hp2],(by(repeat (refine Agr.set ?_ (by omega) _));exact a3),by omega⟩
 | true =>
   have hw:IntKind.i64.wrap ((placeS l w n).1 - 1)=(placeS l w n).1 - 1:=wrap_i64 (by omega) (by omega)
   refine xs3 gy65 hp2 hw ?_;try exact⟨⟩
   refine CN_fok (f56 ρ (g1'.agr (k2.le (by omega))) (by omega) ((placeS l w n).1 - 1) (by omega)) ?_
   rintro⟨u,M4,n4⟩ ⟨r1,r2,r3⟩
   simp only at r1 r2 r3
   subst r1
   have y1:=(r2 (nx+1) (by omega)).trans y0
   obtain⟨a,c,hac⟩:=insAt_cells l ((placeS l w n).1 - 1)
   rw[hac]
   refine xs3 gy65 y1 @Ret.eq_1 ?_;try exact⟨⟩
   exact⟨by simp[aheadS,hp2,hac],(by(repeat (refine Agr.set ?_ (by omega) _));exact a3.trans (r2.le (by omega))),by omega⟩
def befS (l:List Ins) (pos:Int) (v:Int×Int):Int×Int:=l.foldl (fun v e=>if e.en<pos then (e.w,e.n) else v) v
theorem befS_step {l:List Ins} {i:Nat} {e:Ins} (h:l[i]?=some e) (pos:Int):befS (l.take (i+1)) pos (0,0)=if e.en<pos then (e.w,e.n) else befS (l.take i) pos (0,0):=by
 have:l.take (i+1)=l.take i++[e]:=by rw[List.take_add_one,h];rfl
 unfold befS
 rw[this,List.foldl_append]
 rfl
theorem f27 (ρ:Rho) {M:Hp} {nx b o:Nat} {f:Int->Option (List Ins)} (h:OrdAt M b o f) (hb:b<=nx) (x pos:Int) :
 FOk Tryz.prog ρ 27 [.mp o 0,.int .u64 x,.int .i64 pos] M nx (Ret nx M (.agg [.int .u64 (befS ((f x).getD []) pos (0,0)).1,.int .u64 (befS ((f x).getD []) pos (0,0)).2])):=by
 refine FOk.walk (m:=29) (rs:=[.cell 6 25]) follows Tryz.func27 (by kernel_rfl) rfl rfl rfl ?_
 conv in W _ _ _ _ _ _ _=>arg 4;whnf
 refine xs1 gy66 ?_;try exact⟨⟩
 generalize hM1:tset M nx _=M1
 have a1:Agr nx M M1:=by rw[<-hM1];exact(by(repeat (refine Agr.set ?_ (by omega) _));exact Agr.refl _ _)
 have z0:tget M1 nx=some (.row [.int .u64 0,.int .u64 0]):=by rw[<-hM1];exact(by(repeat (first | rw[tget_tset,if_pos rfl] | rw[tget_tset,if_neg (by omega)] | rw[tget_tdel,if_neg (by omega)]));try (first | rfl | assumption))
 clear hM1
 refine CN_fok (f54n ρ (h.agr (a1.le hb)) (by omega) x) ?_
 rintro⟨u,M2,n2⟩ ⟨g1,g2,g3⟩
 simp only at g1 g2 g3
 have a2:Agr nx M M2:=a1.trans (g2.le (by omega))
 have z3:=(g2 nx (by omega)).trans z0
 obtain⟨l,hl⟩:∃l,l=(f x).getD []:=⟨_,rfl⟩
 rw[<-hl]at g1 ⊢
 obtain⟨rk,sv,e1,e0,e2,e3,e4⟩:=g1
 subst e1
 clear g2 h
 have hlen:=fun N=>e4.len (P:=Tryz.prog) (t:=100) ty100.2.2.2.2.2 N
 have hz:=e4.1
 refine xs3 gy66 e3 hlen ?_;try exact⟨⟩
 refine W_loop (fun m' s=>∃i:Nat,i<=l.length/\m'=l.length - i/\tget s.env 2=some (.int .i64 pos)/\tget s.env 6=some (.mp nx 0)/\tget s.env 15=some sv/\tget s.env 16=some (.int .i64 l.length)/\tget s.env 17=some (.int .i64 i) /\
  tget s.M nx=some (.row [.int .u64 (befS (l.take i) pos (0,0)).1,.int .u64 (befS (l.take i) pos (0,0)).2])/\Agr nx M2 s.M/\n2<=s.nx) l.length ⟨0,by omega,by omega,?_⟩ ?_
 ·refine xs1 gy66 ?_;try exact⟨⟩
  exact⟨z3,Agr.refl _ _,by omega⟩
 ·rintro m' ⟨env,M',nx'⟩ ⟨i,hi,hm',f2,f6,f15,f16,f17,hv,ha,hn⟩
  simp only at f2 f6 f15 f16 f17 hv ha hn
  by_cases hlt:(i:Int)<l.length
  ·have hlt':i<l.length:=by omega
   obtain⟨e,hei⟩:∃e,l[i]?=some e:=⟨l[i],by simp[hlt']⟩
   obtain⟨q,o,hqb,hix,hld⟩:=e4.elem (P:=Tryz.prog) hlt' (t:=100) (t':=106) ty100.2.2.2.1 ty106.1
   have hld:=hld M' (ha.le (by omega))
   rw[ins_row l i e hei]at hld
   simp only[encIns]at hld
   have hw2:IntKind.i64.wrap ((i:Int)+1)=((i+1:Nat):Int):=by rw[wrap_i64 (by omega) (by omega)];omega
   have hst:=befS_step hei pos
   by_cases hc:e.en<pos
   ·rw[if_pos hc]at hst
    refine xs12 gy66 f2 f6 @f15 f16 @f17 hlt hix hld hw2 hc hv ?_;try exact⟨⟩
    exact⟨l.length - (i+1),by omega,i+1,by omega,rfl,rfl,by rw[hst],(by(repeat (refine Agr.set ?_ (by omega) _));exact ha),by omega⟩
   ·rw[if_neg hc]at hst
    refine xs12 gy66 f2 f6 @f15 f16 @f17 hlt hix hld hw2 hc hv ?_;try exact⟨⟩
    exact⟨l.length - (i+1),by omega,i+1,by omega,rfl,rfl,by rw[hst],(by(repeat (refine Agr.set ?_ (by omega) _));exact ha),by omega⟩
  ·have hie:l.take i=l:=List.take_of_length_le (by omega)
   rw[hie]at hv
   refine xs9 gy66 f2 f6 @f15 f16 @f17 hlt hv @Ret.eq_1 ?_;try exact⟨⟩
   exact⟨(by(repeat (refine Agr.set ?_ (by omega) _));exact a2.trans ha),by omega⟩
end
end Go.Xs
namespace Go.Xs
noncomputable section
open Go.Proofs
set_option maxRecDepth 100000
set_option maxHeartbeats 4000000
def encV (e:Ins):List XV:=[.int .u64 e.w,.int .u64 e.n]
theorem flat_snoc {α:Type} {f:α->List XV} {l:List α} {i:Nat} {e:α} (h:l[i]?=some e):(l.take (i+1)).flatMap f=(l.take i).flatMap f++f e:=by
 have:l.take (i+1)=l.take i++[e]:=by rw[List.take_add_one,h];rfl
 rw[this,List.flatMap_append]
 simp
theorem f21 (ρ:Rho) {M:Hp} {nx b o:Nat} {f:Int->Option (List Ins)} (h:OrdAt M b o f) (hb:b<=nx) (x:Int) (few:((f x).getD []).length<=100000) :
 FOk Tryz.prog ρ 21 [.mp o 0,.int .u64 x] M nx fun r=>(∃K,r.1 = .sl K 2 0 (((f x).getD []).length+1) (((f x).getD []).length+1)/\nx<=K/\K<r.2.2/\tget r.2.1 K=some (.row ([.int .u64 0,.int .u64 0]++((f x).getD []).flatMap encV)))/\Agr nx M r.2.1/\nx<=r.2.2:=by
 refine FOk.walk (m:=29) (rs:=[.tmp 4]) follows Tryz.func21 (by kernel_rfl) rfl rfl rfl ?_
 conv in W _ _ _ _ _ _ _=>arg 4;whnf
 refine xs1 gy67 ?_;try exact⟨⟩
 generalize hM1:tset M (nx+2) _=M1
 have a1:Agr nx M M1:=by rw[<-hM1];exact(by(repeat (refine Agr.set ?_ (by omega) _));exact Agr.refl _ _)
 have z0:tget M1 (nx+2)=some (.row [.int .u64 0,.int .u64 0]):=by rw[<-hM1];exact(by(repeat (first | rw[tget_tset,if_pos rfl] | rw[tget_tset,if_neg (by omega)] | rw[tget_tdel,if_neg (by omega)]));try (first | rfl | assumption))
 clear hM1
 refine CN_fok (f54n ρ (h.agr (a1.le hb)) (by omega) x) ?_
 rintro⟨u,M2,n2⟩ ⟨g1,g2,g3⟩
 simp only at g1 g2 g3
 have a2:Agr nx M M2:=a1.trans (g2.le (by omega))
 have z3:=(g2 (nx+2) (by omega)).trans z0
 obtain⟨l,hl⟩:∃l,l=(f x).getD []:=⟨_,rfl⟩
 rw[<-hl]at g1 few ⊢
 obtain⟨rk,sv,e1,e0,e2,e3,e4⟩:=g1
 subst e1
 clear g2 h
 have hlen:=fun N=>e4.len (P:=Tryz.prog) (t:=100) ty100.2.2.2.2.2 N
 have hz:=e4.1
 refine xs3 gy67 e3 hlen ?_;try exact⟨⟩
 refine W_loop (fun m' s=>∃(i K:Nat),i<=l.length/\m'=l.length - i/\tget s.env 5=some (.sl K 2 0 (i+1) (i+1))/\tget s.env 16=some sv/\tget s.env 17=some (.int .i64 l.length)/\tget s.env 18=some (.int .i64 i) /\
  nx<=K/\K<s.nx/\tget s.M K=some (.row ([.int .u64 0,.int .u64 0]++(l.take i).flatMap encV))/\Agr nx M2 s.M/\n2<=s.nx) l.length ⟨0,nx+2,by omega,by omega,?_⟩ ?_
 ·refine xs1 gy67 ?_;try exact⟨⟩
  exact⟨by omega,by omega,by simpa using z3,Agr.refl _ _,by omega⟩
 ·rintro m' ⟨env,M',nx'⟩ ⟨i,K,hi,hm',f5,f16,f17,f18,hK1,hK2,hv,ha,hn⟩
  simp only at f5 f16 f17 f18 hK2 hv ha hn
  by_cases hlt:(i:Int)<l.length
  ·have hlt':i<l.length:=by omega
   obtain⟨e,hei⟩:∃e,l[i]?=some e:=⟨l[i],by simp[hlt']⟩
   obtain⟨q,o,hqb,hix,hld⟩:=e4.elem (P:=Tryz.prog) hlt' (t:=100) (t':=106) ty100.2.2.2.1 ty106.1
   have hld:=hld M' (ha.le (by omega))
   rw[ins_row l i e hei]at hld
   simp only[encIns]at hld
   have hw2:IntKind.i64.wrap ((i:Int)+1)=((i+1:Nat):Int):=by rw[wrap_i64 (by omega) (by omega)];omega
   have hst:=flat_snoc (f:=encV) hei
   obtain⟨cs,hcs⟩:∃cs,cs=[XV.int .u64 0,XV.int .u64 0]++(l.take i).flatMap encV:=⟨_,rfl⟩
   rw[<-hcs]at hv
   have hcl:cs.length=(i+1)*2:=by
    rw[hcs,List.length_append,flatMap_len (sz:=2) (fun a=>rfl),List.length_take]
    simp only[List.length_cons,List.length_nil]
    omega
   have htk:List.take ((i+1)*2) cs=cs:=List.take_of_length_le (by omega)
   refine xs12 gy67 @f5 f16 @f17 @f18 hlt hix hld hw2 hv hcl htk ?_;try exact⟨⟩
   refine⟨l.length - (i+1),by omega,i+1,nx'+9,by omega,rfl,rfl,rfl,by omega,by omega,?_,fun q hq=>?_,by omega⟩
   ·rw[if_pos (show KEq (nx'+9) (nx'+9) from rfl),hcs,hst]
    simp[encV]
   ·have:=ha q hq
    exact(by(repeat (first | rw[tget_tset,if_pos rfl] | rw[tget_tset,if_neg (by omega)] | rw[tget_tdel,if_neg (by omega)]));try (first | rfl | assumption))
  ·have hie:l.take i=l:=List.take_of_length_le (by omega)
   have hil:i=l.length:=by omega
   rw[hie]at hv
   rw[hil]at f5
   refine xs6 gy67 @f5 f16 @f17 @f18 hlt ?_;try exact⟨⟩
   exact⟨⟨K,rfl,hK1,by omega,by simpa using hv⟩,(by(repeat (refine Agr.set ?_ (by omega) _));exact a2.trans ha),by omega⟩
def encW (e:Ins):List XV:=[.int .i64 e.wr]
theorem f24 (ρ:Rho) {M:Hp} {nx b o:Nat} {f:Int->Option (List Ins)} (h:OrdAt M b o f) (hb:b<=nx) (x:Int) (few:((f x).getD []).length<=100000) :
 FOk Tryz.prog ρ 24 [.mp o 0,.int .u64 x] M nx fun r=>OwnSl r.2.1 nx r.2.2 (fun _=>()) () r.1 1 ((f x).getD []).length (((f x).getD []).flatMap encW)/\Agr nx M r.2.1/\nx<=r.2.2:=by
 refine FOk.walk (m:=26) (rs:=[.tmp 4]) follows Tryz.func24 (by kernel_rfl) rfl rfl rfl ?_
 conv in W _ _ _ _ _ _ _=>arg 4;whnf
 refine xs1 gy68 ?_;try exact⟨⟩
 refine CN_fok (f54n ρ (h.agr (Agr.refl _ _)) (by omega) x) ?_
 rintro⟨u,M2,n2⟩ ⟨g1,g2,g3⟩
 simp only at g1 g2 g3
 have a2:Agr nx M M2:=g2.le (by omega)
 obtain⟨l,hl⟩:∃l,l=(f x).getD []:=⟨_,rfl⟩
 rw[<-hl]at g1 few ⊢
 obtain⟨rk,sv,e1,e0,e2,e3,e4⟩:=g1
 subst e1
 clear g2 h
 have hlen:=fun N=>e4.len (P:=Tryz.prog) (t:=100) ty100.2.2.2.2.2 N
 have hz:=e4.1
 refine xs3 gy68 e3 hlen ?_;try exact⟨⟩
 refine W_loop (fun m' s=>∃(i:Nat) (v:XV),i<=l.length/\m'=l.length - i/\tget s.env 4=some v/\tget s.env 13=some sv/\tget s.env 14=some (.int .i64 l.length)/\tget s.env 15=some (.int .i64 i) /\
  OwnSl s.M nx s.nx (fun _=>()) () v 1 i ((l.take i).flatMap encW)/\Agr nx M2 s.M/\n2<=s.nx) l.length ⟨0,.nils,by omega,by omega,?_⟩ ?_
 ·refine xs1 gy68 ?_;try exact⟨⟩
  exact⟨⟨by omega,by simp,.inl ⟨rfl,rfl⟩⟩,Agr.refl _ _,by omega⟩
 ·rintro m' ⟨env,M',nx'⟩ ⟨i,v,hi,hm',f4,f13,f14,f15,hv,ha,hn⟩
  simp only at f4 f13 f14 f15 hv ha hn
  by_cases hlt:(i:Int)<l.length
  ·have hlt':i<l.length:=by omega
   obtain⟨e,hei⟩:∃e,l[i]?=some e:=⟨l[i],by simp[hlt']⟩
   obtain⟨q,o,hqb,hix,hld⟩:=e4.elem (P:=Tryz.prog) hlt' (t:=100) (t':=106) ty100.2.2.2.1 ty106.1
   have hld:=hld M' (ha.le (by omega))
   rw[ins_row l i e hei]at hld
   simp only[encIns]at hld
   have hw2:IntKind.i64.wrap ((i:Int)+1)=((i+1:Nat):Int):=by rw[wrap_i64 (by omega) (by omega)];omega
   have hst:=flat_snoc (f:=encW) hei
   obtain⟨cs,hcs⟩:∃cs,cs=(l.take i).flatMap encW:=⟨_,rfl⟩
   rw[<-hcs]at hv hst
   obtain⟨v1,v2,⟨rfl,hi0⟩ | ⟨hi1,K,rfl,K1,K2,_,K4⟩⟩:=hv
   ·have hc0:cs=[]:=List.length_eq_zero_iff.1 (by omega)
    refine xs9 gy68 f4 f13 f14 @f15 hlt hix hld hw2 ?_;try exact⟨⟩
    refine⟨l.length - (i+1),by omega,i+1,_,by omega,rfl,rfl,rfl,⟨by omega,by rw[hst,hc0];simp[encW,hi0],.inr ⟨by omega,nx'+9,?_,by omega,by omega,rfl,?_⟩⟩,fun q hq=>?_,by omega⟩
    ·rw[hi0]
    ·rw[hst,hc0];exact(by(repeat (first | rw[tget_tset,if_pos rfl] | rw[tget_tset,if_neg (by omega)] | rw[tget_tdel,if_neg (by omega)]));try (first | rfl | assumption))
    ·have:=ha q hq
     exact(by(repeat (first | rw[tget_tset,if_pos rfl] | rw[tget_tset,if_neg (by omega)] | rw[tget_tdel,if_neg (by omega)]));try (first | rfl | assumption))
   ·have htk:List.take i cs=cs:=List.take_of_length_le (by omega)
    have v2':cs.length=i:=by omega
    simp (maxSteps:=10000000) (disch:=first|assumption|decide|omega|(simp only[zde, *];done)|(simp only[zdf,big];first|done|assumption|omega)) only [zst,argsE,spl,resXs,resX,vI,vB,vX,oneOr,Nat.reduceLT,Nat.reduceEqDiff,Nat.reduceAdd,Nat.reduceMul,Nat.reduceSub,reduceIte,Int.reduceLT,Int.reduceLE,Int.reduceEq,Int.reduceNeg,Int.reduceToNat,gy68,f4,f13,f14,f15,hlt,hix,hld,hw2,K4,v2',htk]
    refine⟨l.length - (i+1),by omega,i+1,_,by omega,rfl,rfl,rfl,⟨by omega,by rw[hst];simp[encW,v2'],.inr ⟨by omega,nx'+9,rfl,by omega,by omega,rfl,?_⟩⟩,fun q hq=>?_,by omega⟩
    ·rw[hst];exact(by(repeat (first | rw[tget_tset,if_pos rfl] | rw[tget_tset,if_neg (by omega)] | rw[tget_tdel,if_neg (by omega)]));try (first | rfl | assumption))
    ·have:=ha q hq
     exact(by(repeat (first | rw[tget_tset,if_pos rfl] | rw[tget_tset,if_neg (by omega)] | rw[tget_tdel,if_neg (by omega)]));try (first | rfl | assumption))
  ·have hie:l.take i=l:=List.take_of_length_le (by omega)
   have hil:i=l.length:=by omega
   rw[hie,hil]at hv
   refine xs6 gy68 f4 f13 f14 @f15 hlt ?_;try exact⟨⟩
   exact⟨hv.agr (Agr.refl _ _) (by omega),(by(repeat (refine Agr.set ?_ (by omega) _));exact a2.trans ha),by omega⟩
end
end Go.Xs
namespace Go.Xs
noncomputable section
open Go.Proofs
set_option maxRecDepth 100000
set_option maxHeartbeats 4000000
theorem lastS_insAt {l:List Ins} (e:Ins) (h:l.getLast?=some e):insAt l l.length=([.int .u64 e.w,.int .u64 e.n],true):=by
 have hne:l≠[]:=fun q=>by rw[q]at h;cases h
 have hl:0<l.length:=List.length_pos_iff.2 hne
 unfold insAt
 rw[if_neg (by omega),if_neg (by omega)]
 rw[List.getLast?_eq_getElem?]at h
 have:((l.length:Int) - 1).toNat=l.length - 1:=by omega
 rw[this,h]
theorem f54p (ρ:Rho) {M:Hp} {b o:Nat} {f:Int->Option (List Ins)} (h:OrdAt M b o f) (x:Int) {l:List Ins} (hx:f x=some l):∃v,RowAt M b v l/\∀N n',Agr b M N->FOk Tryz.prog ρ 54 [.mp o 0,.int .u64 x] N n' (Ret n' N v):=by
 obtain⟨ho,rm,c,lm,h1,h2,h3,h4,h5⟩:=h
 cases hv:alook lm x with
 | none=>rw[h4 x hv]at hx;cases hx
 | some v =>
   obtain⟨ins,h6,h7⟩:=h5 x v hv
   rw[hx]at h6
   cases h6
   refine⟨v,h7,fun N n' hN=>?_⟩
   obtain⟨rk,sv,rfl,h8,h9,h10⟩:=h7
   have z1:=(hN o ho).trans h1
   have z2:=(hN rm h2).trans h3
   refine FOk.walk (m:=24) (rs:=[.tmp 4]) follows Tryz.func54 (by kernel_rfl) rfl rfl rfl ?_
   conv in W _ _ _ _ _ _ _=>arg 4;whnf
   refine xs5 gy16 z1 z2 hv @Ret.eq_1 ?_;try exact⟨⟩
   exact⟨Agr.refl _ _,by omega⟩
theorem f26 (ρ:Rho) {M:Hp} {nx b o:Nat} {f:Int->Option (List Ins)} (h:OrdAt M b o f) (hb:b<=nx) (x:Int) {l:List Ins} (hx:f x=some l) (few:l.length<=1000000) {e:Ins} (he:l.getLast?=some e) :
 FOk Tryz.prog ρ 26 [.mp o 0,.int .u64 x] M nx (Ret nx M (.agg [.int .u64 e.w,.int .u64 e.n])):=by
 refine FOk.closed fun hcl hargs=>?_
 obtain⟨v,hrow,hf⟩:=f54p ρ h x hx
 have hlast:=lastS_insAt e he
 obtain⟨rk,sv,hv,hrk,_⟩:=id hrow
 subst hv
 have ho:kltV nx (.mp o 0)=true:=kltVs_mem hargs (by simp)
 have hkv:kltV nx (.mp rk 0)=true:=by simp only[kltV,Nat.blt_eq];omega
 have a0:∀q,Agr nx M (tset M nx q):=fun q=>(Agr.refl _ _).set (Nat.le_refl _) q
 have hlen:(f x).getD []=l:=by rw[hx];rfl
 refine FOk.walk (m:=20) (rs:=[.cell 4 25]) follows Tryz.func26 (by kernel_rfl) rfl rfl rfl ?_
 conv in W _ _ _ _ _ _ _=>arg 4;whnf
 refine xs1 gy69 ?_;try exact⟨⟩
 refine CD_sem (Csem.read ((hcl.le (by omega)).set (by omega) rfl) ?_ (kltV.le (by omega) hkv) fun N hN=>hf N _ (((a0 _).trans (hN.le (by omega))).le hb)) (by decide) ?_
 ·simp only[kltVs];rw[kltV.le (by omega) ho];rfl
 refine xs2 gy69 @logOf_range' ?_;try exact⟨⟩
 refine CD_sem (Csem.read ((hcl.le (by omega)).set (by omega) rfl) ?_ rfl fun N hN=>f25 ρ (h.agr (((a0 _).trans (hN.le (by omega))).le hb)) (by omega) x) (by decide) ?_
 ·simp only[kltVs];rw[kltV.le (by omega) ho];rfl
 refine xs3 gy69 @logOf_range' hlen ?_;try exact⟨⟩
 refine CD_sem (Csem.read ((hcl.le (by omega)).set (by omega) rfl) ?_ ?_ fun N hN=>f56 ρ (hrow.agr (((a0 _).trans (hN.le (by omega))).le hb)) (by omega) l.length (by omega)) (by decide) ?_
 ·simp only[kltVs];rw[kltV.le (by omega) hkv];rfl
 ·rw[hlast];rfl
 rw[hlast]
 refine xs3 gy69 @logOf_range' @Ret.eq_1 ?_;try exact⟨⟩
 refine⟨⟨?_,?_,?_⟩,(by(repeat (refine Agr.set ?_ (by omega) _));exact Agr.refl _ _),by omega⟩
 all_goals refine okP2_ap _ _ _ _ _ _ ?_ ?_ ?_<;>(intro q hq hy;simp[List.mem_range]at hq hy;try omega)
end
end Go.Xs
namespace Go.Xs
noncomputable section
open Classical
structure HFin (S:HS):Prop where
 nums:∀t k,S.num t=some k->∃(j:Nat) (a:TxS),k=(j:Int)/\S.txs[j]?=some a/\a.t=t
 vers:∀x w n z,S.ver x w n=some z->∃(j:Nat) (m:ModS),z=(j:Int)/\S.mods[j]?=some m
 mods:∀(j:Nat) m,S.mods[j]?=some m->S.ver m.x m.w m.n=some (j:Int)/\m.w=m.t/\1<=m.n/\∃(k:Nat) (a:TxS),S.num m.t=some (k:Int)/\S.txs[k]?=some a/\a.t=m.t
 com:∀(j j':Nat) a b,S.txs[j]?=some a->S.txs[j']?=some b->a.s=1->b.s=1->j=j'\/(a.n<b.n/\a.e<b.e)\/(b.n<a.n/\b.e<a.e)
 comb:∀(j:Nat) a,S.txs[j]?=some a->a.s=1->0<=a.n/\0<=a.e/\a.e<=1000
 fin1:∀(j j':Nat) m m',S.mods[j]?=some m->S.mods[j']?=some m'->m.fin=true->m'.fin=true->m.t=m'.t->m.x=m'.x->j=j'
 nmod:S.mods.length<=60
theorem hist_fin {L:List Rec} (hl:L.length<=60) (he:∀r ∈ L,r.es.length<=1000) (hw:∀j r,L[j]?=some r->ruleS (L.take j) r=0):HFin (histS L):=by
 have h:=hist_ok hw he L.length (Nat.le_refl _)
 rw[List.take_length]at h
 obtain⟨S,hS⟩:∃S,S=histN L L.length:=⟨_,rfl⟩
 have hH:histS L=S.done L.length S.txs.length fun j=>∃k,k<S.txs.length/\lastIs S k j:=by rw[hS];rfl
 rw[<-hS]at h
 rw[hH]
 have gt:∀(j:Nat) a,(markT (L.length:Int) S.txs.length S.txs)[j]?=some a->∃a0,S.txs[j]?=some a0/\a.t=a0.t/\a.s=a0.s/\a.n=a0.n/\(a.s=1->a.e=a0.e):=fun j a hj=>by
  rw[markT_get]at hj
  cases h0:S.txs[j]? with
  | none=>rw[h0]at hj;cases hj
  | some a0 =>
    rw[h0]at hj
    simp only[Option.map_some,Option.some.injEq]at hj
    subst hj
    refine⟨a0,rfl,?_⟩
    split
    ·rename_i e;exact⟨rfl,rfl,rfl,fun q=>by simp only at q;omega⟩
    ·exact⟨rfl,rfl,rfl,fun _=>rfl⟩
 have tg:∀(j:Nat) a0,S.txs[j]?=some a0->∃a,(markT (L.length:Int) S.txs.length S.txs)[j]?=some a/\a.t=a0.t:=fun j a0 h0=>by
  rw[markT_get,h0]
  refine⟨_,rfl,?_⟩
  simp only
  split<;>rfl
 obtain⟨P,hP⟩:∃P:Nat->Prop,P=fun j=>∃k,k<S.txs.length/\lastIs S k j:=⟨_,rfl⟩
 rw[<-hP]
 have gm:∀(j:Nat) m,(markM P S.mods)[j]?=some m->∃m0,S.mods[j]?=some m0/\m = { m0 with fin:=m0.fin||decide (P j) }:=fun j m hj=>by
  rw[markM_get]at hj
  cases h0:S.mods[j]? with
  | none=>rw[h0]at hj;cases hj
  | some m0 =>
    rw[h0]at hj
    simp only[Option.map_some,Option.some.injEq]at hj
    exact⟨m0,rfl,hj.symm⟩
 have mg:∀(j:Nat) m0,S.mods[j]?=some m0->∃m,(markM P S.mods)[j]?=some m:=fun j m0 h0=>by
  rw[markM_get,h0]
  exact⟨_,rfl⟩
 refine⟨fun t k hk=>?_,fun x w n z hz=>?_,fun j m hj=>?_,fun j j' a b hj hj' ha hb=>?_,fun j a hj ha=>?_,fun j j' m m' hj hj' hf hf' ht hx=>?_,?_⟩
 ·obtain⟨j,a0,e,h1,h2⟩:=h.num t k hk
  obtain⟨a,h3,h4⟩:=tg j a0 h1
  exact⟨j,a,e,h3,by rw[h4];exact h2⟩
 ·obtain⟨j,m0,e,h1,_⟩:=h.vers x w n z hz
  obtain⟨m,h2⟩:=mg j m0 h1
  exact⟨j,m,e,h2⟩
 ·obtain⟨m0,h1,rfl⟩:=gm j m hj
  obtain⟨k,h2,h3,h4,h5,h6,h7,h8⟩:=h.mods j m0 h1
  obtain⟨k',a0,e,h9,h10⟩:=h.num _ _ h2
  obtain⟨a,h11,h12⟩:=tg k' a0 h9
  exact⟨h7,h4,h5,k',a,by rw[<-e];exact h2,h11,by rw[h12];exact h10⟩
 ·obtain⟨a0,h1,e1,e2,e3,e4⟩:=gt j a hj
  obtain⟨b0,h1',e1',e2',e3',e4'⟩:=gt j' b hj'
  have:=h.com j j' a0 b0 h1 h1' (by rw[<-e2];exact ha) (by rw[<-e2'];exact hb)
  rw[e3,e3',e4 ha,e4' hb]
  exact this
 ·obtain⟨a0,h1,e1,e2,e3,e4⟩:=gt j a hj
  have:=h.comb j a0 h1 (by rw[<-e2];exact ha)
  have h0:=h.com0 j a0 h1 (by rw[<-e2];exact ha)
  rw[e3,e4 ha]
  omega
 ·obtain⟨m0,h1,rfl⟩:=gm j m hj
  obtain⟨m0',h1',rfl⟩:=gm j' m' hj'
  obtain⟨k,h2,h3,h4,h5,h6,h7,h8⟩:=h.mods j m0 h1
  obtain⟨k',h2',h3',h4',h5',h6',h7',h8'⟩:=h.mods j' m0' h1'
  simp only[h8,h8',Bool.false_or,decide_eq_true_eq]at hf hf'
  rw[hP]at hf hf'
  obtain⟨q,_,x,hq⟩:=hf
  obtain⟨q',_,x',hq'⟩:=hf'
  obtain⟨i1,n1,f1,f2,f3,f4⟩:=h.places q x _ (List.mem_of_getLast? hq)
  obtain⟨i2,n2,g1,g2,g3,g4⟩:=h.places q' x' _ (List.mem_of_getLast? hq')
  have z1:i1=j:=by omega
  have z2:i2=j':=by omega
  subst z1
  subst z2
  rw[h1]at f2
  rw[h1']at g2
  cases f2
  cases g2
  have ht':m0.t=m0'.t:=ht
  have hx':m0.x=m0'.x:=hx
  rw[ht',g4]at f4
  have eq:q'=q:=by
   simp only[Option.some.injEq]at f4;omega
  rw[<-f3,hx',g3,<-eq,hq']at hq
  simp only[Option.some.injEq]at hq
  omega
 ·have:=h.nmod
  show (markM P S.mods).length<=60
  rw[markM_len];omega
end
end Go.Xs
namespace Go.Xs
noncomputable section
structure RowOk (l:List Ins):Prop where
 up:l.Pairwise fun a b=>a.wr<b.wr/\a.en<b.en/\¬ (a.w=b.w/\a.n=b.n)
 born:∀e ∈ l,1<=e.n/\0<=e.en/\e.en<=1000
theorem RowOk.lt {l:List Ins} (h:RowOk l) {i j:Nat} {a b:Ins} (hi:l[i]?=some a) (hj:l[j]?=some b) (hij:i<j):a.wr<b.wr/\a.en<b.en/\¬ (a.w=b.w/\a.n=b.n):=by
 obtain⟨h1,e1⟩:=List.getElem?_eq_some_iff.1 hi
 obtain⟨h2,e2⟩:=List.getElem?_eq_some_iff.1 hj
 have:=(List.pairwise_iff_getElem.1 h.up) i j h1 h2 hij
 rw[e1,e2]at this
 exact this
theorem idxG_first {α:Type} {q:α->Bool}:∀{l:List α} {k i:Nat} {e:α},l[k]?=some e->q e=true->(∀j a,j<k->l[j]?=some a->q a=false)->idxG q l i=((i+k:Nat):Int)
 | [],k,i,e,h,_,_=>by simp at h
 | a::l,0,i,e,h,hq,_=>by
   simp only[List.getElem?_cons_zero,Option.some.injEq]at h
   subst h
   exact if_pos hq
 | a::l,k+1,i,e,h,hq,hn=>by
   simp only[List.getElem?_cons_succ]at h
   have h0:q a=false:=hn 0 a (by omega) rfl
   have h1:idxG q (a::l) i=idxG q l (i+1):=if_neg (by rw[h0];simp)
   rw[h1,idxG_first h hq fun j b hj hb=>hn (j+1) b (by omega) (by simpa using hb)]
   congr 1
   omega
theorem RowOk.place {l:List Ins} (h:RowOk l) {k:Nat} {e:Ins} (he:l[k]?=some e):placeS l e.w e.n=(((k+1:Nat):Int),true):=by
 have hn:=(h.born e (List.mem_of_getElem? he)).1
 have hi:idxG (insIs e.w e.n) l 0=(k:Int):=by
  rw[idxG_first he (by simp[insIs]) fun j a hj ha=>?_]
  ·congr 1;omega
  ·have:=(h.lt ha he hj).2.2
   simp only[insIs,Bool.and_eq_false_iff,decide_eq_false_iff_not]
   by_cases q:a.w=e.w
   ·right;exact fun q'=>this ⟨q,q'⟩
   ·exact .inl q
 unfold placeS
 rw[if_neg (by simp;omega),hi]
 have:decide (0<=(k:Int))=true:=by simp
 rw[this]
 simp
theorem place_zero (l:List Ins):placeS l 0 0=(0,true):=by simp[placeS]
def verAt (l:List Ins):Nat->Int×Int
 | 0=>(0,0)
 | k+1=>match l[k]? with | some e=>(e.w,e.n) | none=>(0,0)
theorem RowOk.placeAt {l:List Ins} (h:RowOk l) {k:Nat} (hk:k<=l.length):placeS l (verAt l k).1 (verAt l k).2=((k:Int),true):=by
 cases k with
 | zero=>exact place_zero l
 | succ k =>
   obtain⟨e,he⟩:∃e,l[k]?=some e:=⟨l[k],by simp⟩
   simp only[verAt,he]
   exact h.place he
theorem RowOk.next {l:List Ins} (h:RowOk l) {k:Nat} {e:Ins} (he:l[k]?=some e):nextS l (verAt l k).1 (verAt l k).2=(e,true):=by
 have hk:=(List.getElem?_eq_some_iff.1 he).1
 unfold nextS
 rw[h.placeAt (by omega)]
 simp only
 rw[if_neg (by simp;omega)]
 have:((k:Int)).toNat=k:=by omega
 rw[this,he];rfl
theorem RowOk.nextLast {l:List Ins} (h:RowOk l):nextS l (verAt l l.length).1 (verAt l l.length).2=(ins0,false):=by
 unfold nextS
 rw[h.placeAt (Nat.le_refl _)]
 simp
theorem insAt_ver (l:List Ins) {k:Nat} (hk:k<=l.length):insAt l k=([.int .u64 (verAt l k).1,.int .u64 (verAt l k).2],true):=by
 cases k with
 | zero=>simp[insAt,verAt]
 | succ k =>
   obtain⟨e,he⟩:∃e,l[k]?=some e:=⟨l[k],by simp⟩
   have h1:(((k+1:Nat):Int) - 1).toNat=k:=by omega
   unfold insAt
   rw[if_neg (by omega),if_neg (by omega),h1,he]
   simp[verAt,he]
theorem RowOk.ahead {l:List Ins} (h:RowOk l) {k:Nat} {e:Ins} (he:l[k]?=some e):aheadS l e.w e.n=([.int .u64 (verAt l k).1,.int .u64 (verAt l k).2],true):=by
 have hk:=(List.getElem?_eq_some_iff.1 he).1
 unfold aheadS
 rw[h.place he]
 simp only[Bool.true_eq_false,if_false]
 have:(((k+1:Nat):Int) - 1)=(k:Int):=by omega
 rw[this]
 exact insAt_ver l (by omega)
theorem bef_take {l:List Ins} (h:RowOk l) {k:Nat} (pos:Int) (h1:∀j a,j<k->l[j]?=some a->a.en<pos) (h2:∀j a,k<=j->l[j]?=some a->¬ a.en<pos) (hk:k<=l.length):befS l pos (0,0)=verAt l k:=by
 have key:∀i,i<=l.length->befS (l.take i) pos (0,0)=verAt l (min i k):=by
  intro i
  induction i with
  | zero=>intro _;simp[befS,verAt]
  | succ i ih =>
    intro hi
    obtain⟨e,he⟩:∃e,l[i]?=some e:=⟨l[i],by simp⟩
    rw[befS_step he,ih (by omega)]
    by_cases hik:i<k
    ·rw[if_pos (h1 i e hik he),show min (i+1) k=i+1 by omega]
     simp[verAt,he]
    ·rw[if_neg (h2 i e (by omega) he),show min (i+1) k=min i k by omega]
 have:=key l.length (Nat.le_refl _)
 rw[List.take_length,show min l.length k=k by omega]at this
 exact this
theorem RowOk.bef {l:List Ins} (h:RowOk l) {k:Nat} {e:Ins} (he:l[k]?=some e):befS l e.en (0,0)=verAt l k:=by
 have hk:=(List.getElem?_eq_some_iff.1 he).1
 refine bef_take h e.en (fun j a hj ha=>(h.lt ha he hj).2.1) (fun j a hj ha=>?_) (by omega)
 by_cases q:j=k
 ·subst q
  rw[he]at ha
  cases ha
  omega
 ·have:=(h.lt he ha (by omega)).2.1
  omega
theorem RowOk.bef1 {l:List Ins} (h:RowOk l) {k:Nat} {e:Ins} (he:l[k]?=some e):befS l (e.en+1) (0,0)=verAt l (k+1):=by
 have hk:=(List.getElem?_eq_some_iff.1 he).1
 refine bef_take h (e.en+1) (fun j a hj ha=>?_) (fun j a hj ha=>?_) (by omega)
 ·by_cases q:j=k
  ·subst q
   rw[he]at ha
   cases ha
   omega
  ·have:=(h.lt ha he (by omega)).2.1
   omega
 ·have:=(h.lt he ha (by omega)).2.1
  omega
theorem HFin.txR {S:HS} (h:HFin S) {j:Nat} {m:ModS} (hj:S.mods[j]?=some m):∃(k:Nat) (a:TxS),S.num m.t=some (k:Int)/\S.txs[k]?=some a/\Xs.txR S m.t=(a,true):=by
 obtain⟨h1,h2,h3,k,a,h4,h5,h6⟩:=h.mods j m hj
 refine⟨k,a,h4,h5,?_⟩
 unfold Xs.txR txOf
 rw[h4]
 have:((k:Int)).toNat=k:=by omega
 simp only[this,h5]
theorem ord_mem {S:HS} {x:Int} {e:Ins} (he:e ∈ ordOf S S.mods x):∃(j:Nat) (m:ModS),S.mods[j]?=some m/\m.x=x/\ordC S m=true/\e=insOf S m:=by
 unfold ordOf at he
 obtain⟨m,hm,rfl⟩:=List.mem_map.1 he
 rw[List.mem_filter]at hm
 obtain⟨hm,hc⟩:=hm
 rw[Bool.and_eq_true,decide_eq_true_eq]at hc
 obtain⟨j,hj⟩:=List.getElem?_of_mem hm
 exact⟨j,m,hj,hc.1,hc.2,rfl⟩
theorem HFin.apart {S:HS} (h:HFin S) {j j':Nat} {m m':ModS} (hj:S.mods[j]?=some m) (hj':S.mods[j']?=some m') (hx:m.x=m'.x) (hc:ordC S m=true) (hc':ordC S m'=true) :
 j=j'\/((insOf S m).wr<(insOf S m').wr/\(insOf S m).en<(insOf S m').en)\/((insOf S m').wr<(insOf S m).wr/\(insOf S m').en<(insOf S m).en):=by
 obtain⟨k,a,h1,h2,h3⟩:=h.txR hj
 obtain⟨k',a',h1',h2',h3'⟩:=h.txR hj'
 unfold ordC at hc hc'
 rw[Bool.and_eq_true,decide_eq_true_eq]at hc hc'
 rw[h3]at hc
 rw[h3']at hc'
 simp only[insOf,h3,h3']
 rcases h.com k k' a a' h2 h2' hc.2 hc'.2 with e | e | e
 ·left
  subst e
  rw[h2]at h2'
  cases h2'
  have ht:m.t=m'.t:=by
   obtain⟨_,_,_,q,b,g1,g2,g3⟩:=h.mods j m hj
   obtain⟨_,_,_,q',b',g1',g2',g3'⟩:=h.mods j' m' hj'
   rw[h1]at g1
   rw[h1']at g1'
   have e1:q=k:=by simp only[Option.some.injEq]at g1;omega
   have e2:q'=k:=by simp only[Option.some.injEq]at g1';omega
   subst e1
   rw[e2,g2]at g2'
   cases g2'
   rw[<-g3,<-g3']
  exact h.fin1 j j' m m' hj hj' hc.1 hc'.1 ht hx
 ·exact .inr (.inl e)
 ·exact .inr (.inr e)
theorem ord_nodup {S:HS} (h:HFin S) (x:Int):(ordOf S S.mods x).Pairwise fun a b=>a.wr≠b.wr:=by
 unfold ordOf
 rw[List.pairwise_map,List.pairwise_filter,List.pairwise_iff_getElem]
 intro i j hi hj hij h1 h2
 rw[Bool.and_eq_true,decide_eq_true_eq]at h1 h2
 have:=h.apart (j:=i) (j':=j) (m:=S.mods[i]) (m':=S.mods[j]) (by simp) (by simp) (by rw[h1.1,h2.1]) h1.2 h2.2
 omega
theorem row_ok {S:HS} (h:HFin S) {x:Int} {l:List Ins} (hp:l.Perm (ordOf S S.mods x)) (hs:l.Pairwise fun a b=>a.wr<=b.wr):RowOk l:=by
 have hmem:∀e ∈ l,∃(j:Nat) (m:ModS),S.mods[j]?=some m/\m.x=x/\ordC S m=true/\e=insOf S m:=fun e he=>ord_mem (hp.mem_iff.1 he)
 have hne:l.Pairwise fun a b=>a.wr≠b.wr:=(hp.pairwise_iff (fun h=>Ne.symm h)).2 (ord_nodup h x)
 refine⟨?_,fun e he=>?_⟩
 ·have:=hs.and hne
  refine List.Pairwise.imp_of_mem ?_ this
  rintro a b ha hb ⟨h1,h2⟩
  obtain⟨j,m,e1,e2,e3,rfl⟩:=hmem a ha
  obtain⟨j',m',e1',e2',e3',rfl⟩:=hmem b hb
  rcases h.apart e1 e1' (by rw[e2,e2']) e3 e3' with q | q | q
  ·subst q
   rw[e1]at e1'
   cases e1'
   exact(h2 rfl).elim
  ·refine⟨q.1,q.2,fun hv=>?_⟩
   have v1:=(h.mods j m e1).1
   have v2:=(h.mods j' m' e1').1
   have hv':m.w=m'.w/\m.n=m'.n:=hv
   rw[e2,hv'.1,hv'.2]at v1
   rw[e2',v1]at v2
   simp only[Option.some.injEq]at v2
   have:j=j':=by omega
   subst this
   rw[e1]at e1'
   cases e1'
   exact h2 rfl
  ·omega
 ·obtain⟨j,m,e1,e2,e3,rfl⟩:=hmem e he
  obtain⟨v1,v2,v3,_⟩:=h.mods j m e1
  obtain⟨k,a,h1,h2,h3⟩:=h.txR e1
  unfold ordC at e3
  rw[Bool.and_eq_true,decide_eq_true_eq,h3]at e3
  have:=h.comb k a h2 e3.2
  simp only[insOf,h3]
  exact⟨v3,by omega,by omega⟩
theorem row_hist {S:HS} (h:HFin S) {x:Int} {l:List Ins} (hp:l.Perm (ordOf S S.mods x)) {e:Ins} (he:e ∈ l):∃a m,txR S e.w=(a,true)/\a.n=e.wr/\a.e=e.en/\modR S x e.w e.n=(m,true)/\m.fin=true:=by
 obtain⟨j,m,e1,e2,e3,rfl⟩:=ord_mem (hp.mem_iff.1 he)
 obtain⟨v1,v2,v3,_⟩:=h.mods j m e1
 obtain⟨k,a,h1,h2,h3⟩:=h.txR e1
 unfold ordC at e3
 rw[Bool.and_eq_true,decide_eq_true_eq,h3]at e3
 refine⟨a,m,?_,by simp only[insOf,h3],by simp only[insOf,h3],?_,e3.1⟩
 ·show txR S m.w=_
  rw[v2];exact h3
 ·unfold modR
  show (match S.ver x m.w m.n with | some k=>_ | none=>_)=_
  rw[<-e2,v1]
  have:((j:Int)).toNat=j:=by omega
  simp only[this,e1]
theorem inst_law {S:HS} (h:HFin S) {F:Int->Option (List Ins)} (h1:∀x,F x=none ↔ ordOf S S.mods x=[]) (h2:∀x l,F x=some l->l.Perm (ordOf S S.mods x)/\l.Pairwise fun a b=>a.wr<=b.wr) {j:Nat} {m:ModS} (hj:S.mods[j]?=some m) :
 instS ((F m.x).getD []) m.w m.n=if ordC S m=true then ((txR S m.t).1.n,true) else (0,false):=by
 obtain⟨v1,v2,v3,_⟩:=h.mods j m hj
 have hl:∃l,l=(F m.x).getD []/\l.Perm (ordOf S S.mods m.x)/\RowOk l:=by
  cases hF:F m.x with
  | none =>
    refine⟨[],rfl,by rw[(h1 m.x).1 hF],⟨.nil,by simp⟩⟩
  | some l=>exact⟨l,rfl,(h2 _ _ hF).1,row_ok h (h2 _ _ hF).1 (h2 _ _ hF).2⟩
 obtain⟨l,hl,hp,hok⟩:=hl
 rw[<-hl]
 by_cases hc:ordC S m=true
 ·rw[if_pos hc]
  have hmem:insOf S m ∈ l:=hp.mem_iff.2 (by
   unfold ordOf
   exact List.mem_map.2 ⟨m,List.mem_filter.2 ⟨List.mem_of_getElem? hj,by simp[hc]⟩,rfl⟩)
  obtain⟨k,hk⟩:=List.getElem?_of_mem hmem
  have:=hok.place hk
  have e1:(insOf S m).w=m.w:=rfl
  have e2:(insOf S m).n=m.n:=rfl
  rw[e1,e2]at this
  unfold instS
  rw[this]
  simp only[Bool.true_eq_false,false_or]
  rw[if_neg (by omega)]
  have:(((k+1:Nat):Int) - 1).toNat=k:=by omega
  rw[this,hk]
  rfl
 ·rw[if_neg hc]
  have hno:∀e ∈ l,insIs m.w m.n e=false:=fun e he=>by
   obtain⟨j',m',e1,e2,e3,rfl⟩:=ord_mem (hp.mem_iff.1 he)
   obtain⟨v1',_⟩:=h.mods j' m' e1
   cases hi:insIs m.w m.n (insOf S m') with
   | false=>rfl
   | true =>
     have hi:m'.w=m.w/\m'.n=m.n:=by
      unfold insIs at hi
      rw[Bool.and_eq_true]at hi
      exact⟨of_decide_eq_true hi.1,of_decide_eq_true hi.2⟩
     rw[e2,hi.1,hi.2,v1]at v1'
     simp only[Option.some.injEq]at v1'
     have:j=j':=by omega
     subst this
     rw[hj]at e1
     cases e1
     exact(hc e3).elim
  have hidx:∀(l:List Ins) (i:Nat),(∀e ∈ l,insIs m.w m.n e=false)->idxG (insIs m.w m.n) l i = -1:=by
   intro l
   induction l with
   | nil=>intro i _;rfl
   | cons a l ih =>
     intro i hn
     have h0:=hn a List.mem_cons_self
     have:idxG (insIs m.w m.n) (a::l) i=idxG (insIs m.w m.n) l (i+1):=if_neg (by rw[h0];simp)
     rw[this]
     exact ih (i+1) fun e he=>hn e (List.mem_cons_of_mem _ he)
  have hp0:placeS l m.w m.n=(0,false):=by
   unfold placeS
   rw[if_neg (by simp;omega),hidx l 0 hno]
   simp
  unfold instS
  rw[hp0]
  simp
end
end Go.Xs
namespace Go.Xs
noncomputable section
open Go.Proofs
set_option maxRecDepth 100000
set_option maxHeartbeats 8000000
theorem HFin.wr {S:HS} (h:HFin S) (n:Nat) (cr:List XV):HFin (S.wr n cr):=⟨h.nums,h.vers,h.mods,h.com,h.comb,h.fin1,h.nmod⟩
theorem HFin.numsOk {S:HS} (h:HFin S):NumsOk S:=fun t k hk=>let ⟨j,a,h1,h2,_⟩:=h.nums t k hk;⟨j,a,h1,h2⟩
theorem HFin.versOk {S:HS} (h:HFin S):VersOk S:=fun x w n k hk=>h.vers x w n k hk
theorem SlAt.pair {P:Program} {M:Hp} {b:Nat} {v:XV} {sz len:Nat} {row:List XV} (h:SlAt M b v sz len row) {i:Nat} (hi:i<len) {t:Nat} (ht:es P t=some sz) :
 ∃n o,n<b/\(∀k,indexAddrX P t v (.int k (i:Int))=some (.mp n o))/\(∀(j:Nat) (x:XV),j<sz->((row.drop (i*sz)).take sz)[j]?=some x->∀(t' m:Nat),sa P t'=some (m,false)->∀N,Agr b M N->loadX P N t' (.mp n (o+j))=some ⟨x,[n],[]⟩) /\
  ∀(j:Nat) (x y:XV),j+1<sz->((row.drop (i*sz)).take sz)[j]?=some x->((row.drop (i*sz)).take sz)[j+1]?=some y->∀(t':Nat),sa P t'=some (2,true)->∀N,Agr b M N->loadX P N t' (.mp n (o+j))=some ⟨.agg [x,y],[n],[]⟩:=by
 obtain⟨n,o,h1,h2,cs,h3,h4,h5⟩:=h.at hi ht
 refine⟨n,o,h1,h2,fun j x hj hx t' m ht' N hN=>?_,fun j x y hj hx hy t' ht' N hN=>?_⟩
 ·refine load_hrd1 (hrd_agr h3 hN h1) ht' ?_
  rw[h4,List.getElem?_take,if_pos hj,List.getElem?_drop]at hx
  exact hx
 ·rw[load_hrd (hrd_agr h3 hN h1) ht' (by omega)]
  rw[h4,List.getElem?_take,if_pos (by omega),List.getElem?_drop]at hx hy
  have e:(cs.drop (o+j)).take 2=[x,y]:=by
   refine List.ext_getElem? fun q=>?_
   rw[List.getElem?_take]
   by_cases q2:q<2
   ·rw[if_pos q2,List.getElem?_drop]
    have:q=0\/q=1:=by omega
    rcases this with rfl | rfl
    ·simpa using hx
    ·rw[show o+j+1=o+(j+1) by omega,hy];rfl
   ·rw[if_neg q2]
    exact(List.getElem?_eq_none (by simp;omega)).symm
  rw[e]
theorem ordB_agr {M M':Hp} {b o:Nat} {F:Int->Option (List Ins)} (hO:OrdAt M b o F) (hB:OrdB M o) (ha:Agr b M M'):OrdB M' o:=by
 obtain⟨rm,c,l,b1,b2,b3,b4⟩:=hB
 obtain⟨ho,rm',c',l',c1,c2,c3,_⟩:=hO
 rw[b1]at c1
 simp only[Option.some.injEq,XObj.row.injEq,List.cons.injEq,XV.mm.injEq,and_true]at c1
 subst c1
 exact⟨rm,c,l,(ha o ho).trans b1,(ha rm c2).trans b2,b3,b4⟩
def versC (l:List Ins):List XV:=[.int .u64 0,.int .u64 0]++l.flatMap encV
theorem versC_row (l:List Ins) {k:Nat} (hk:k<=l.length):((versC l).drop (k*2)).take 2=[.int .u64 (verAt l k).1,.int .u64 (verAt l k).2]:=by
 cases k with
 | zero=>rfl
 | succ k =>
   obtain⟨e,he⟩:∃e,l[k]?=some e:=⟨l[k],by simp⟩
   have key:∀(l:List Ins) (k:Nat),l[k]?=some e->((l.flatMap encV).drop (k*2)).take 2=encV e:=by
    intro l
    induction l with
    | nil=>intro k h;simp at h
    | cons a l ih =>
      intro k h
      cases k with
      | zero =>
        simp only[List.getElem?_cons_zero,Option.some.injEq]at h
        subst h
        rfl
      | succ k =>
        simp only[List.getElem?_cons_succ]at h
        rw[List.flatMap_cons,show (k+1)*2=(encV a).length+k*2 by simp[encV];omega,List.drop_length_add_append]
        exact ih k h
   unfold versC
   rw[show (k+1)*2=([XV.int .u64 0,XV.int .u64 0]:List XV).length+k*2 by simp;omega,List.drop_length_add_append,key l k he]
   simp[verAt,he,encV]
theorem writC_get {l:List Ins} {k:Nat} {e:Ins} (he:l[k]?=some e):(((l.flatMap encW).drop (k*1)).take 1)[0]?=some (.int .i64 e.wr):=by
 have key:∀(l:List Ins) (k:Nat),l[k]?=some e->(l.flatMap encW)[k]?=some (.int .i64 e.wr):=by
  intro l
  induction l with
  | nil=>intro k h;simp at h
  | cons a l ih =>
    intro k h
    cases k with
    | zero =>
      simp only[List.getElem?_cons_zero,Option.some.injEq]at h
      subst h
      rfl
    | succ k =>
      simp only[List.getElem?_cons_succ]at h
      simp only[List.flatMap_cons,encW,List.cons_append,List.nil_append,List.getElem?_cons_succ]
      exact ih k h
 rw[Nat.mul_one,List.getElem?_take,if_pos (by omega),List.getElem?_drop,Nat.add_zero]
 exact key l k he
theorem RDg_call {P:Program} {ρ:Rho} {n i:Nat} {all os:List Oper} {env:Env} {M:Hp} {nx:Nat} {log:Log} {G:XS->Log->Prop} {d:Option Nat} {c:Call} {ty:TypeId} {pos:String} {after:Array Edge} {g:Nat×Bool} (hg:guardX all env (some g)=some true) (hp:plainOp (.call c)=false) (h:CD P ρ n all os i env M nx log d G (calleeX env c)) :
 RD P ρ n all (⟨d,.call c,ty,pos,after,some g⟩::os) i ⟨env,M,nx⟩ log G:=by
 have h0:=(RD_call (ty:=ty) (pos:=pos) (after:=after) hp).mpr h
 unfold RD at h0 ⊢
 simp only[guardX]at h0
 simp only[hg]
 exact h0
def endAt (l:List Ins):Nat->Int
 | 0=>-1
 | k+1=>match l[k]? with | some e=>e.en | none=>0
theorem f5 (hS:SortsU) (hN:SortsN) (hI:SortsI) (ρ:Rho) (hdet:ρ.det=false) {M:Hp} {nx b:Nat} {v:XV} {L:List Rec} (hL:RecsAt M b v L) (hb:b<=nx) (hpos:∀r ∈ L,exPos r.p)
 (hw:∀M' n',Agr nx M M'->nx<=n'->FOk Tryz.prog ρ 8 [] M' n' fun r=>r.1 = .bool true/\Agr n' M' r.2.1) :
 FOk Tryz.prog ρ 5 [v] M nx fun r=>r.1 = .bool true/\Agr nx M r.2.1:=by
 refine FOk.walk (m:=304) (rs:=[.tmp 2]) follows Tryz.func5 (by kernel_rfl) rfl rfl rfl ?_
 conv in W _ _ _ _ _ _ _=>arg 4;whnf
 refine xs1 gy70 ?_;try exact⟨⟩
 refine CN_fok (f7 ρ (hL.agr (Agr.refl _ _)) (by omega) (by decide)) ?_
 rintro⟨u,M1,n1⟩ ⟨g1,g2,g3⟩
 simp only at g1 g2 g3
 subst g1
 have a1:Agr nx M M1:=g2.le (by omega)
 cases hfew:fewS L 60 with
 | false =>
   refine xs2 gy70 hfew ?_;try exact⟨⟩
   refine CN_fok (hw _ _ a1 (by omega)) ?_
   rintro⟨u,M2,n2⟩ ⟨k1,k2⟩
   simp only at k1 k2
   subst k1
   refine xs1 gy70 ?_;try exact⟨⟩
   exact a1.trans (k2.le (by omega))
 | true =>
   unfold fewS at hfew
   rw[Bool.and_eq_true,decide_eq_true_eq]at hfew
   obtain⟨hf1,hf2⟩:=hfew
   have hfewT:fewS L 60=true:=by unfold fewS;rw[hf1];simpa using hf2
   have hfit0:∀r ∈ L,r.es.length<=60/\exN r.p<=60:=fun r hr=>by
    rw[List.take_of_length_le (by omega),List.all_eq_true]at hf1
    have:=hf1 r hr
    unfold fewR at this
    rw[Bool.and_eq_true,decide_eq_true_eq,decide_eq_true_eq]at this
    exact⟨this.1,few_count this.2⟩
   have hfit:∀r ∈ L,FitS r:=fun r hr=>⟨⟨by have:=(hfit0 r hr).2;omega,hpos r hr⟩,by have:=(hfit0 r hr).1;omega⟩
   have hes:∀r ∈ L,r.es.length<=1000:=fun r hr=>by have:=(hfit0 r hr).1;omega
   refine xs2 gy70 hfewT ?_;try exact⟨⟩
   refine CN_fok (f10 hS hN ρ hdet (hL.agr (a1.le hb)) (by omega) (by omega) hfit fun hwf=>hist_takes hf2 hes hwf) ?_
   rintro⟨u,M2,n2⟩ ⟨cn,rl,hck,k2,k3⟩
   simp only at k2 k3
   rcases k3 with ⟨hrl,hu,k4⟩ | ⟨hrl,h,N,cr,hu,hF,k4,_⟩
   ·subst hu
    refine xs2 gy70 hrl ?_;try exact⟨⟩
    refine CN_fok (hw _ _ (a1.trans (k4.le (by omega))) (by omega)) ?_
    rintro⟨u,M3,n3⟩ ⟨q1,q2⟩
    simp only at q1 q2
    subst q1
    refine xs1 gy70 ?_;try exact⟨⟩
    exact(a1.trans (k4.le (by omega))).trans (q2.le (by omega))
   ·subst hu
    subst hrl
    have hwf:∀j r,L[j]?=some r->ruleS (L.take j) r=0:=by
     obtain⟨q1,q2 | ⟨r,_,q3,q4⟩⟩:=hck
     ·intro j r hj
      have:=(List.getElem?_eq_some_iff.1 hj).1
      exact q1 j r (by omega) hj
     ·exact(q4 rfl).elim
    have hfin:=(hist_fin hf2 hes hwf).wr L.length cr
    obtain⟨S,hS0⟩:∃S,S=(histS L).wr L.length cr:=⟨_,rfl⟩
    rw[<-hS0]at hF hfin
    obtain⟨hi,hhi,hH⟩:=hF.hist
    have a2:Agr nx M M2:=a1.trans (k4.le (by omega))
    have hnm:=hfin.nmod
    clear hF hck hwf hfit0 hfit hes k4 g2 hL hpos hfewT hf1 hf2 hS0
    refine xs1 gy70 ?_;try exact⟨⟩
    refine CN_fok (f11 hI ρ hdet (hH.agr (Agr.refl _ _)) (by omega) hfin.numsOk (by omega)) ?_
    rintro⟨u,M3,n3⟩ ⟨o,F,q1,hO,hB,hF1,hF2,q2,q3⟩
    simp only at q1 hO hB q2 q3
    subst q1
    have a3:Agr n2 M2 M3:=q2.le (by omega)
    refine xs1 gy70 ?_;try exact⟨⟩
    refine CN_fok (f28 ρ (hH.agr (a3.le (by omega))) (by omega) (by omega)) ?_
    rintro⟨mv,M4,n4⟩ ⟨r1,r2,r3⟩
    simp only at r1 r2 r3
    have hms:SlAt M4 n4 mv 8 S.mods.length (S.mods.flatMap encMod):=SlAtP.lt (r1.keep fun k hk=>⟨rfl,hk.2⟩)
    have a4:Agr n2 M2 M4:=a3.trans (r2.le (by omega))
    have hO4:OrdAt M4 n3 o F:=hO.agr (r2.le (by omega))
    have hB4:OrdB M4 o:=ordB_agr hO hB (r2.le (by omega))
    have hH4:=hH.agr (a4.le hhi)
    have hml:∀N,lenX Tryz.prog N 64 mv=some ⟨.int .i64 (S.mods.length:Nat),[],[]⟩:=fun N=>hms.len (P:=Tryz.prog) (t:=64) ty64.2.2.2.2.2 N
    have hA:Agr nx M M4:=a2.trans (a4.le (by omega))
    clear hB hO hH r1 q2 a3 a4 a2 r2 a1
    refine xs1 gy70 ?_;try exact⟨⟩
    refine W_loop (fun m' s=>∃i:Nat,i<=S.mods.length/\m'=S.mods.length - i/\tget s.env 3=some (.mp h 0)/\tget s.env 6=some (.mp o 0)/\tget s.env 7=some mv/\tget s.env 8=some (.int .i64 i)/\Agr n4 M4 s.M/\n4<=s.nx)
     S.mods.length ⟨0,by omega,by omega,?_⟩ ?_
    ·refine xs1 gy70 ?_;try exact⟨⟩
     exact⟨Agr.refl _ _,by omega⟩
    ·rintro m' ⟨env,M5,n5⟩ ⟨i,hi',hm',e3,e6,e7,e8,ha,hn⟩
     simp only at e3 e6 e7 e8 ha hn
     by_cases hlt:(i:Int)<S.mods.length
     ·have hlt':i<S.mods.length:=by omega
      obtain⟨m,hmi⟩:∃m,S.mods[i]?=some m:=⟨S.mods[i],by simp[hlt']⟩
      obtain⟨q,w,hqb,hix,hld,hpr⟩:=hms.pair (P:=Tryz.prog) hlt' (t:=64) ty64.2.2.2.1
      have hrow:=mods_row _ _ _ hmi
      rw[hrow]at hld hpr
      have hw2:IntKind.i64.wrap ((i:Int)+1)=((i+1:Nat):Int):=by rw[wrap_i64 (by omega) (by omega)];omega
      have l1:=hld 1 (.int .u64 m.t) (by omega) rfl 23 1 ty23.1 M5 ha
      refine xs9 gy70 e3 e6 e7 e8 hlt hml hix l1 ?_;try exact⟨⟩
      refine CN_fok (f29 ρ (hH4.agr (ha.le (by omega))) (by omega) hfin.numsOk m.t) ?_
      rintro⟨u,M6,n6⟩ ⟨k1,k2',k3⟩
      simp only at k1 k2' k3
      subst k1
      obtain⟨kt,tx,t1,t2,t3⟩:=hfin.txR hmi
      rw[t3]
      simp only[encTx]
      have ha6:Agr n4 M4 M6:=ha.trans (k2'.le (by omega))
      have aset:∀o1 o2,Agr n4 M4 (tset (tset M6 (n6+3) o1) (n6+3) o2):=fun o1 o2=>(by(repeat (refine Agr.set ?_ (by omega) _));exact ha6)
      have l2:=fun o1 o2=>hld 2 (.int .u64 m.x) (by omega) rfl 23 1 ty23.1 _ (aset o1 o2)
      have l3:=fun o1 o2=>hpr 3 (.int .u64 m.w) (.int .u64 m.n) (by omega) rfl rfl 25 ty25.1 _ (aset o1 o2)
      refine xs8 gy70 e3 e6 e7 e8 hix l2 l3 ?_;try exact⟨⟩
      generalize hM7:tset (tset M6 (n6+3) _) (n6+3) _=M7
      have ha7:Agr n4 M4 M7:=by rw[<-hM7];exact(by(repeat (refine Agr.set ?_ (by omega) _));exact ha6)
      have z7:tget M7 (n6+3)=some (.row [.int .u64 tx.t,.int .i64 tx.b,.int .i64 tx.e,.int .i64 tx.s,.int .i64 tx.n]):=by rw[<-hM7];exact(by(repeat (first | rw[tget_tset,if_pos rfl] | rw[tget_tset,if_neg (by omega)] | rw[tget_tdel,if_neg (by omega)]));try (first | rfl | assumption))
      clear hM7 l2 l3 aset
      refine CD_fok (f19 ρ (hO4.agr (ha7.le (by omega))) (by omega) m.x m.w m.n) (by decide) ?_ ?_
      ·refine xs1 gy70 ?_;try exact⟨⟩
      rintro⟨u,M8,n8⟩ ⟨j1,j2,j3⟩
      simp only at j1 j2 j3
      subst j1
      have ha8:Agr n4 M4 M8:=ha7.trans (j2.le (by omega))
      have z8:=(j2 (n6+3) (by omega)).trans z7
      have l4:=hld 7 (.bool m.fin) (by omega) rfl 4 1 ty4.1 M8 ha8
      have hil:=inst_law hfin hF1 hF2 hmi
      rw[t3]at hil
      rw[hil]
      have bq:((true != true)=false)/\((false != false)=false)/\((true != false)=true)/\((false != true)=true):=by decide
      by_cases hc:ordC S m=true
      ·have hc':=hc
       unfold ordC at hc'
       rw[t3,Bool.and_eq_true,decide_eq_true_eq]at hc'
       obtain⟨c1,c2⟩:=hc'
       simp only at c2
       rw[c1]at l4
       rw[c2]at z8
       rw[if_pos hc]
       refine xs11 gy70 e3 e6 e7 e8 hix l4 z8 hw2 @neqB bq ?_;try exact⟨⟩
       exact⟨S.mods.length - (i+1),by omega,i+1,by omega,rfl,rfl,ha8,by omega⟩
      ·rw[if_neg hc]
       cases hfn:m.fin with
       | false =>
         rw[hfn]at l4
         refine xs11 gy70 e3 e6 e7 e8 hix l4 z8 hw2 @neqB bq ?_;try exact⟨⟩
         exact⟨S.mods.length - (i+1),by omega,i+1,by omega,rfl,rfl,ha8,by omega⟩
       | true =>
         rw[hfn]at l4
         have c2:¬ tx.s=1:=fun q=>hc (by unfold ordC;rw[hfn,t3];simpa using q)
         refine xs12 gy70 e3 e6 e7 e8 hix l4 z8 hw2 c2 @neqB bq ?_;try exact⟨⟩
         exact⟨S.mods.length - (i+1),by omega,i+1,by omega,rfl,rfl,ha8,by omega⟩
     ·refine xs7 gy70 e3 e6 e7 e8 hlt hml ?_;try exact⟨⟩
      refine CN_fok (f15 hS hN ρ hdet (hO4.agr (ha.le (by omega))) (show n3<=n5+5 by omega) (ordB_agr hO4 hB4 (ha.le (by omega)))) ?_
      rintro⟨xv,M6,n6⟩ ⟨⟨ys,y1,y2,y3,y4,y5⟩,k2',k3'⟩
      simp only at y5 k2' k3'
      have ha6:Agr n4 M4 M6:=ha.trans (k2'.le (by omega))
      have hysl:SlAt M6 n6 xv 1 ys.length (ys.map (XV.int .u64)):=y5.sl
      have hyl:∀N,lenX Tryz.prog N 44 xv=some ⟨.int .i64 (ys.length:Nat),[],[]⟩:=fun N=>hysl.len (P:=Tryz.prog) (t:=44) ty44.2.2.2.2.2 N
      have hO6:OrdAt M6 n3 o F:=hO4.agr (ha6.le (by omega))
      have hH6:=hH4.agr (ha6.le (by omega))
      have hA6:Agr nx M M6:=hA.trans (ha6.le (by omega))
      have hn6:n4<=n6:=by omega
      clear hms hO4 hB4 hH4 hml ha hn k2' k3' y5 e7 e8 hA ha6
      refine xs1 gy70 ?_;try exact⟨⟩
      refine W_loop (fun m2 s=>∃i:Nat,i<=ys.length/\m2=ys.length - i/\tget s.env 3=some (.mp h 0)/\tget s.env 6=some (.mp o 0)/\tget s.env 13=some xv/\tget s.env 14=some (.int .i64 i)/\Agr n6 M6 s.M/\n6<=s.nx)
       ys.length ⟨0,by omega,by omega,?_⟩ ?_
      ·refine xs1 gy70 ?_;try exact⟨⟩
       exact⟨e3,e6,Agr.refl _ _,by omega⟩
      ·clear e3 e6 hlt
       rintro m2 ⟨env,M7,n7⟩ ⟨i,hi',hm2,e3,e6,e13,e14,ha,hn⟩
       simp only at e3 e6 e13 e14 ha hn
       by_cases hlt:(i:Int)<ys.length
       ·have hlt':i<ys.length:=by omega
        obtain⟨x,hx⟩:∃x,ys[i]?=some x:=⟨ys[i],by simp[hlt']⟩
        obtain⟨l,hl⟩:=Option.isSome_iff_exists.1 ((y1 x).1 (List.mem_of_getElem? hx))
        obtain⟨hp,hpw⟩:=hF2 x l hl
        have hok:=row_ok hfin hp hpw
        have hlne:l≠[]:=fun q=>by
         rw[q]at hp
         have:=(hF1 x).2 (List.nil_perm.1 hp)
         rw[this]at hl;cases hl
        have hll:0<l.length/\l.length<=60:=⟨List.length_pos_iff.2 hlne,by
         rw[hp.length_eq]
         unfold ordOf
         rw[List.length_map]
         exact Nat.le_trans (List.length_filter_le _ _) hnm⟩
        have hFl:(F x).getD []=l:=by rw[hl];rfl
        obtain⟨q,w,hqb,hix,hld⟩:=hysl.fldG (P:=Tryz.prog) hlt' (t:=44) ty44.2.2.2.1
        have l0:=hld 0 (.int .u64 x) (by omega) (by rw[Nat.mul_one,List.getElem?_take,if_pos (by omega),List.getElem?_drop,Nat.add_zero,List.getElem?_map,hx];rfl) 23 1 ty23.1 M7 ha
        rw[Nat.add_zero]at l0
        have hw2:IntKind.i64.wrap ((i:Int)+1)=((i+1:Nat):Int):=by rw[wrap_i64 (by omega) (by omega)];omega
        refine xs9 gy70 e3 e6 e13 e14 hlt hyl hix l0 ?_;try exact⟨⟩
        have hv1:=f21 ρ (hO6.agr (ha.le (by omega))) (show n3<=n7+11 by omega) x (by rw[hFl];omega)
        rw[hFl]at hv1
        refine CN_fok hv1 ?_
        rintro⟨vv,M8,n8⟩ ⟨⟨K,k1,k2',k3,k4⟩,k5,k6⟩
        simp only at k1 k3 k4 k5 k6
        subst k1
        have ha8:Agr n6 M6 M8:=ha.trans (k5.le (by omega))
        refine xs5 gy70 e3 e6 e13 e14 ?_;try exact⟨⟩
        have hw1:=f24 ρ (hO6.agr (ha8.le (by omega))) (show n3<=n8+2 by omega) x (by rw[hFl];omega)
        rw[hFl]at hw1
        refine CN_fok hw1 ?_
        rintro⟨wv,M9,n9⟩ ⟨j1,j2,j3⟩
        simp only at j1 j2 j3
        have ha9:Agr n6 M6 M9:=ha8.trans (j2.le (by omega))
        have hvs:SlAt M9 n9 (.sl K 2 0 (l.length+1) (l.length+1)) 2 (l.length+1) (versC l):=by
         have hc:(versC l).length=(l.length+1)*2:=by
          unfold versC
          rw[List.length_append,flatMap_len (sz:=2) (fun a=>rfl)]
          simp only[List.length_cons,List.length_nil]
          omega
         exact⟨by omega,.inr ⟨K,0,l.length+1,versC l,rfl,by omega,by unfold hrd;rw[j2 K (by omega),k4];rfl,by omega,by rw[List.drop_zero,List.take_of_length_le (by omega)]⟩⟩
        have hws:SlAt M9 n9 wv 1 l.length (l.flatMap encW):=j1.sl
        have hwl:∀N,lenX Tryz.prog N 58 wv=some ⟨.int .i64 (l.length:Nat),[],[]⟩:=fun N=>hws.len (P:=Tryz.prog) (t:=58) ty58.2.2.2.2.2 N
        clear k4 j1 k5 j2 hv1 hw1 hix l0 hld ha8
        have hwp:IntKind.i64.wrap ((l.length:Int)+1)=((l.length+1:Nat):Int):=by rw[wrap_i64 (by omega) (by omega)];omega
        have h25:=f25 ρ (hO6.agr (ha9.le (by omega))) (show n3<=n9+13 by omega) x
        rw[hFl]at h25
        refine xs7 gy70 e3 e6 e13 e14 hwl hwp ?_;try exact⟨⟩
        refine CN_fok h25 ?_
        rintro⟨u,M10,n10⟩ ⟨k1,k2',k3'⟩
        simp only at k1 k2' k3'
        subst k1
        obtain⟨q0,w0,hqb0,hix0,hld0,hpr0⟩:=hvs.pair (P:=Tryz.prog) (i:=0) (by omega) (t:=55) ty55.2.2.2.1
        rw[versC_row l (by omega)]at hpr0
        have l0:=hpr0 0 (.int .u64 0) (.int .u64 0) (by omega) rfl rfl 25 ty25.1 M10 (k2'.le (by omega))
        rw[Nat.add_zero]at l0
        have hix0':∀κ,indexAddrX Tryz.prog 55 (.sl K 2 0 (l.length+1) (l.length+1)) (.int κ 0)=some (.mp q0 w0):=hix0
        have hlz:¬ l.length=0:=by omega
        have hlz':¬ (l.length:Int)=0:=by omega
        refine xs11 gy70 e3 e6 e13 e14 hwl hwp hix0' l0 hlz hlz' ?_;try exact⟨⟩
        refine CN_fok (f23 ρ _ _ 0 0) ?_
        rintro⟨u,M11,n11⟩ ⟨k1,k2,k3⟩
        simp only at k1 k2 k3
        subst k1
        have ha11:Agr n9 M9 M11:=(k2'.le (by omega)).trans (k2.le (by omega))
        have hvl:∀N,lenX Tryz.prog N 55 (.sl K 2 0 (l.length+1) (l.length+1))=some ⟨.int .i64 (l.length+1:Nat),[],[]⟩:=fun N=>hvs.len (P:=Tryz.prog) (t:=55) ty55.2.2.2.2.2 N
        have hn9:n6<=n9/\n9<=n11:=by omega
        have fin9:=ha9
        clear k2 k2' k3 k3' l0 hix0 hix0' hld0 hpr0 hwp ha ha9 j3 k6 h25
        refine xs5 gy70 e3 e6 e13 e14 ?_;try exact⟨⟩
        refine W_loop (fun m3 s=>∃j:Nat,j<=l.length/\m3=l.length - j/\tget s.env 3=some (.mp h 0)/\tget s.env 6=some (.mp o 0)/\tget s.env 13=some xv/\tget s.env 14=some (.int .i64 i)/\tget s.env 15=some (.int .u64 x)/\tget s.env 16=some (.sl K 2 0 (l.length+1) (l.length+1))/\tget s.env 17=some wv/\tget s.env 18=some (.int .i64 (endAt l j))/\tget s.env 19=some (.int .i64 (j+1:Nat))/\Agr n9 M9 s.M/\n9<=s.nx)
         l.length ⟨0,by omega,by omega,?_⟩ ?_
        ·refine xs1 gy70 ?_;try exact⟨⟩
         exact⟨e3,e6,e13,e14,rfl,ha11,by omega⟩
        ·clear e3 e6 e13 e14 hlt ha11
         rintro m3 ⟨env,M12,n12⟩ ⟨j,hj,hm3,e3,e6,e13,e14,e15,e16,e17,e18,e19,ha,hn⟩
         simp only at e3 e6 e13 e14 e15 e16 e17 e18 e19 ha hn
         have ha6:Agr n6 M6 M12:=fin9.trans (ha.le (by omega))
         by_cases hlt:((j+1:Nat):Int)<((l.length+1:Nat):Int)
         ·have hlt':j<l.length:=by omega
          obtain⟨e,hej⟩:∃e,l[j]?=some e:=⟨l[j],by simp[hlt']⟩
          obtain⟨a,mm,t1,t2,t3,t4,t5⟩:=row_hist hfin hp (List.mem_of_getElem? hej)
          have hbe:=hok.born e (List.mem_of_getElem? hej)
          obtain⟨q1,w1,hqb1,hix1,hld1,hpr1⟩:=hvs.pair (P:=Tryz.prog) (i:=j+1) (by omega) (t:=55) ty55.2.2.2.1
          obtain⟨q0,w0,hqb0,hix0,hld0,hpr0⟩:=hvs.pair (P:=Tryz.prog) (i:=j) (by omega) (t:=55) ty55.2.2.2.1
          obtain⟨qw,ww,hqbw,hixw,hldw⟩:=hws.fldG (P:=Tryz.prog) hlt' (t:=58) ty58.2.2.2.1
          rw[versC_row l (by omega)]at hld1 hpr1 hld0 hpr0
          have hve:verAt l (j+1)=(e.w,e.n):=by simp[verAt,hej]
          rw[hve]at hld1 hpr1
          have hwm:IntKind.i64.wrap (((j+1:Nat):Int) - 1)=(j:Int):=by rw[wrap_i64 (by omega) (by omega)];omega
          have hw3:IntKind.i64.wrap (((j+1:Nat):Int)+1)=((j+1+1:Nat):Int):=by rw[wrap_i64 (by omega) (by omega)];omega
          have v1:=hld1 0 (.int .u64 e.w) (by omega) rfl 23 1 ty23.1 M12 ha
          rw[Nat.add_zero]at v1
          refine xs14 gy70 e3 e6 e13 e14 e15 e16 e17 e18 e19 hlt hvl hix1 v1 ?_;try exact⟨⟩
          have c1:=f29 ρ (hH6.agr (ha6.le (by omega))) (show hi<=n12+10 by omega) hfin.numsOk e.w
          rw[t1]at c1
          refine CN_fok c1 ?_
          rintro⟨u,M13,n13⟩ ⟨k1,k2,k3⟩
          simp only[encTx]at k1 k2 k3
          subst k1
          have ha13:Agr n9 M9 M13:=ha.trans (k2.le (by omega))
          have v2:=fun o1 o2=>hpr1 0 (.int .u64 e.w) (.int .u64 e.n) (by omega) rfl rfl 25 ty25.1 (tset (tset M13 (n13+3) o1) (n13+3) o2) (by(repeat (refine Agr.set ?_ (by omega) _));exact ha13)
          simp only[Nat.add_zero]at v2
          clear k2 v1
          refine xs12 gy70 e3 e6 e13 e14 e15 e16 e17 e18 e19 hix1 v2 ?_;try exact⟨⟩
          generalize hM14:tset (tset M13 (n13+3) _) (n13+3) _=M14
          have ha14:Agr n9 M9 M14:=by rw[<-hM14];exact(by(repeat (refine Agr.set ?_ (by omega) _));exact ha13)
          have z14:tget M14 (n13+3)=some (.row [.int .u64 a.t,.int .i64 a.b,.int .i64 a.e,.int .i64 a.s,.int .i64 a.n]):=by rw[<-hM14];exact(by(repeat (first | rw[tget_tset,if_pos rfl] | rw[tget_tset,if_neg (by omega)] | rw[tget_tdel,if_neg (by omega)]));try (first | rfl | assumption))
          clear hM14 v2
          have c2:=f30 ρ (hH6.agr ((fin9.trans (ha14.le (by omega))).le (by omega))) (show hi<=n13+12 by omega) hfin.versOk (by omega) x e.w e.n
          rw[t4]at c2
          refine CN_fok c2 ?_
          rintro⟨u,M15,n15⟩ ⟨k1,k2,k3'⟩
          simp only[encMod]at k1 k2 k3'
          subst k1
          have ha15:Agr n9 M9 M15:=ha14.trans (k2.le (by omega))
          have z15:=(k2 (n13+3) (by omega)).trans z14
          have v3:=fun o1 o2=>hpr0 0 (.int .u64 (verAt l j).1) (.int .u64 (verAt l j).2) (by omega) rfl rfl 25 ty25.1 (tset (tset M15 (n15+3) o1) (n15+3) o2) (by(repeat (refine Agr.set ?_ (by omega) _));exact ha15)
          simp only[Nat.add_zero]at v3
          clear k2 z14
          refine xs13 gy70 e3 e6 e13 e14 e15 e16 e17 e18 e19 hix0 v3 hwm ?_;try exact⟨⟩
          generalize hM16:tset (tset M15 (n15+3) _) (n15+3) _=M16
          have ha16:Agr n9 M9 M16:=by rw[<-hM16];exact(by(repeat (refine Agr.set ?_ (by omega) _));exact ha15)
          have z16:tget M16 (n13+3)=some (.row [.int .u64 a.t,.int .i64 a.b,.int .i64 a.e,.int .i64 a.s,.int .i64 a.n]):=by rw[<-hM16];exact(by(repeat (first | rw[tget_tset,if_pos rfl] | rw[tget_tset,if_neg (by omega)] | rw[tget_tdel,if_neg (by omega)]));try (first | rfl | assumption))
          have y16:tget M16 (n15+3)=some (.row [.int .i64 mm.pos,.int .u64 mm.t,.int .u64 mm.x,.int .u64 mm.w,.int .u64 mm.n,.int .u64 mm.v,.bool mm.dead,.bool mm.fin]):=by rw[<-hM16];exact(by(repeat (first | rw[tget_tset,if_pos rfl] | rw[tget_tset,if_neg (by omega)] | rw[tget_tdel,if_neg (by omega)]));try (first | rfl | assumption))
          clear hM16 v3 z15
          have c3:=f17 ρ (hO6.agr ((fin9.trans (ha16.le (by omega))).le (by omega))) (show n3<=n15+13 by omega) x (verAt l j).1 (verAt l j).2
          rw[hFl,hok.next hej]at c3
          refine CN_fok c3 ?_
          rintro⟨u,M17,n17⟩ ⟨k1,k2,k4⟩
          simp only at k1 k2 k4
          subst k1
          have ha17:Agr n9 M9 M17:=ha16.trans (k2.le (by omega))
          have z17:=(k2 (n13+3) (by omega)).trans z16
          have y17:=(k2 (n15+3) (by omega)).trans y16
          have v4:=fun o1 o2=>hpr1 0 (.int .u64 e.w) (.int .u64 e.n) (by omega) rfl rfl 25 ty25.1 (tset (tset M17 (n17+4) o1) (n17+4) o2) (by(repeat (refine Agr.set ?_ (by omega) _));exact ha17)
          simp only[Nat.add_zero]at v4
          clear k2 z16 y16
          refine xs12 gy70 e3 e6 e13 e14 e15 e16 e17 e18 e19 hix1 v4 ?_;try exact⟨⟩
          generalize hM18:tset (tset M17 (n17+4) _) (n17+4) _=M18
          have ha18:Agr n9 M9 M18:=by rw[<-hM18];exact(by(repeat (refine Agr.set ?_ (by omega) _));exact ha17)
          have z18:tget M18 (n13+3)=some (.row [.int .u64 a.t,.int .i64 a.b,.int .i64 a.e,.int .i64 a.s,.int .i64 a.n]):=by rw[<-hM18];exact(by(repeat (first | rw[tget_tset,if_pos rfl] | rw[tget_tset,if_neg (by omega)] | rw[tget_tdel,if_neg (by omega)]));try (first | rfl | assumption))
          have y18:tget M18 (n15+3)=some (.row [.int .i64 mm.pos,.int .u64 mm.t,.int .u64 mm.x,.int .u64 mm.w,.int .u64 mm.n,.int .u64 mm.v,.bool mm.dead,.bool mm.fin]):=by rw[<-hM18];exact(by(repeat (first | rw[tget_tset,if_pos rfl] | rw[tget_tset,if_neg (by omega)] | rw[tget_tdel,if_neg (by omega)]));try (first | rfl | assumption))
          have x18:tget M18 (n17+4)=some (.row [.int .u64 e.w,.int .u64 e.n]):=by rw[<-hM18];exact(by(repeat (first | rw[tget_tset,if_pos rfl] | rw[tget_tset,if_neg (by omega)] | rw[tget_tdel,if_neg (by omega)]));try (first | rfl | assumption))
          clear hM18 v4 z17 y17
          have c4:=f18 ρ (hO6.agr ((fin9.trans (ha18.le (by omega))).le (by omega))) (show n3<=n17+14 by omega) x e.w e.n
          rw[hFl,hok.ahead hej]at c4
          refine CN_fok c4.out ?_
          rintro⟨u,M19,n19⟩ ⟨⟨k1,k2,k5⟩,hcl,_⟩
          simp only at k1 k2 k5 hcl
          subst k1
          have ha19:Agr n9 M9 M19:=ha18.trans (k2.le (by omega))
          have z19:=(k2 (n13+3) (by omega)).trans z18
          have y19:=(k2 (n15+3) (by omega)).trans y18
          have x19:=(k2 (n17+4) (by omega)).trans x18
          rw[t2,t3]at z19
          rw[t5]at y19
          have hE:endAt l j<e.en:=by
           cases j with
           | zero=>simp only[endAt];omega
           | succ j =>
             obtain⟨e',he'⟩:∃e',l[j]?=some e':=⟨l[j],by simp⟩
             simp only[endAt,he']
             exact(hok.lt he' hej (by omega)).2.1
          have hnle:¬ e.en<=endAt l j:=by omega
          have aG:∀o1 o2,Agr n9 M9 (tset (tset M19 (n19+3) o1) (n19+3) o2):=fun o1 o2=>(by(repeat (refine Agr.set ?_ (by omega) _));exact ha19)
          have v5:=fun o1 o2=>hpr1 0 (.int .u64 e.w) (.int .u64 e.n) (by omega) rfl rfl 25 ty25.1 _ (aG o1 o2)
          have v6:=fun o1 o2=>hpr0 0 (.int .u64 (verAt l j).1) (.int .u64 (verAt l j).2) (by omega) rfl rfl 25 ty25.1 _ (aG o1 o2)
          have v7:=fun o1 o2=>hldw 0 (.int .i64 e.wr) (by omega) (writC_get hej) 3 1 ty3.1 _ (aG o1 o2)
          simp only[Nat.add_zero]at v5 v6 v7
          clear k2 z18 y18 x18
          refine xs22 gy70 e3 e6 e13 e14 e15 e16 e17 e18 e19 hix1 hix0 hixw v5 v6 v7 hwm z19 y19 x19 hnle @neqB ?_;try exact⟨⟩
          have ho3:o<n3:=hO6.1
          have hkl:∀n,n3<=n->kltV n (.mp o 0)=true:=fun n h=>by simp only[kltV,Nat.blt_eq];omega
          have c5:∀N,Agr n9 M9 N->∀n',n9<=n'->FOk Tryz.prog ρ 27 [.mp o 0,.int .u64 x,.int .i64 e.en] N n' (Ret n' N (.agg [.int .u64 (verAt l j).1,.int .u64 (verAt l j).2])):=fun N hN n' hn'=>by
           have:=f27 ρ (hO6.agr ((fin9.trans (hN.le (by omega))).le (by omega))) (show n3<=n' by omega) x e.en
           rw[hFl,hok.bef hej]at this
           exact this
          have c6:∀N,Agr n9 M9 N->∀n',n9<=n'->FOk Tryz.prog ρ 27 [.mp o 0,.int .u64 x,.int .i64 (e.en+1)] N n' (Ret n' N (.agg [.int .u64 e.w,.int .u64 e.n])):=fun N hN n' hn'=>by
           have:=f27 ρ (hO6.agr ((fin9.trans (hN.le (by omega))).le (by omega))) (show n3<=n' by omega) x (e.en+1)
           rw[hFl,hok.bef1 hej,hve]at this
           exact this
          have hwe:IntKind.i64.wrap (e.en+1)=e.en+1:=wrap_i64 (by omega) (by omega)
          generalize hM20:tset (tset M19 (n19+3) _) (n19+3) _=M20
          have ha20:Agr n9 M9 M20:=by rw[<-hM20];exact(by(repeat (refine Agr.set ?_ (by omega) _));exact ha19)
          have hcl20:Cl (n19+4) M20:=by rw[<-hM20];exact((hcl.le (by omega)).set (by omega) rfl).set (by omega) rfl
          have z20:tget M20 (n13+3)=some (.row [.int .u64 a.t,.int .i64 a.b,.int .i64 e.en,.int .i64 a.s,.int .i64 e.wr]):=by rw[<-hM20];exact(by(repeat (first | rw[tget_tset,if_pos rfl] | rw[tget_tset,if_neg (by omega)] | rw[tget_tdel,if_neg (by omega)]));try (first | rfl | assumption))
          have u5:=hpr1 0 (.int .u64 e.w) (.int .u64 e.n) (by omega) rfl rfl 25 ty25.1 _ ha20
          have u6:=hpr0 0 (.int .u64 (verAt l j).1) (.int .u64 (verAt l j).2) (by omega) rfl rfl 25 ty25.1 _ ha20
          simp only[Nat.add_zero]at u5 u6
          clear hM20 v5 v6 v7 aG z19 y19 x19 hcl
          refine CD_sem (Csem.read (hcl20.le (by omega)) ?_ rfl fun N hN=>c5 N (ha20.trans (hN.le (by omega))) _ (by omega)) (by decide) ?_
          ·simp only[kltVs];rw[hkl _ (by omega)];rfl
          refine xs19 gy70 e3 e6 e13 e14 e15 e16 e17 e18 e19 hix1 hix0 u5 u6 hwm z20 hwe @logOf_range' @neqB ?_;try exact⟨⟩
          refine RDg_call ?_ rfl ?_
          ·refine xs1 gy70 ?_;try exact⟨⟩
          refine xs1 gy70 ?_;try exact⟨⟩
          refine CD_sem (Csem.read (hcl20.le (by omega)) ?_ rfl fun N hN=>c6 N (ha20.trans (hN.le (by omega))) _ (by omega)) (by decide) ?_
          ·simp only[kltVs];rw[hkl _ (by omega)];rfl
          refine xs19 gy70 e3 e6 e13 e14 e15 e16 e17 e18 e19 hix1 hix0 u5 u6 hwm z20 hw3 @logOf_range' @neqB ?_;try exact⟨⟩
          have hen:endAt l (j+1)=e.en:=by simp[endAt,hej]
          refine⟨l.length - (j+1),by omega,j+1,by omega,rfl,by rw[hen],rfl,ha20,by omega⟩
         ·have hjl:j=l.length:=by omega
          obtain⟨e,hel⟩:∃e,l.getLast?=some e:=by
           cases hq:l.getLast? with
           | none=>exact(hlne (List.getLast?_eq_none_iff.1 hq)).elim
           | some e=>exact⟨e,rfl⟩
          have hve:verAt l l.length=(e.w,e.n):=by
           rw[List.getLast?_eq_getElem?]at hel
           obtain⟨z,hz⟩:∃z,l.length=z+1:=⟨l.length - 1,by omega⟩
           rw[hz]at hel ⊢
           simp only[Nat.add_sub_cancel]at hel
           simp[verAt,hel]
          obtain⟨q1,w1,hqb1,hix1,hld1,hpr1⟩:=hvs.pair (P:=Tryz.prog) (i:=l.length) (by omega) (t:=55) ty55.2.2.2.1
          rw[versC_row l (by omega),hve]at hpr1
          have ho3:o<n3:=hO6.1
          have hkl:∀n,n3<=n->kltV n (.mp o 0)=true:=fun n h=>by simp only[kltV,Nat.blt_eq];omega
          have c7:∀N,Agr n9 M9 N->∀n',n9<=n'->FOk Tryz.prog ρ 26 [.mp o 0,.int .u64 x] N n' (Ret n' N (.agg [.int .u64 e.w,.int .u64 e.n])):=fun N hN n' hn'=>f26 ρ (hO6.agr ((fin9.trans (hN.le (by omega))).le (by omega))) (show n3<=n' by omega) x hl (by omega) hel
          have hwm:IntKind.i64.wrap (((l.length+1:Nat):Int) - 1)=(l.length:Int):=by rw[wrap_i64 (by omega) (by omega)];omega
          refine xs12 gy70 e3 e6 e13 e14 e15 e16 e17 e18 e19 hlt hvl ?_;try exact⟨⟩
          refine CN_fok (c7 M12 ha _ (by omega)) ?_
          rintro⟨u,M13,n13⟩ ⟨k1,k2,k3⟩
          simp only at k1 k2 k3
          subst k1
          have ha13:Agr n9 M9 M13:=ha.trans (k2.le (by omega))
          have c8:∀n',n9<=n'->FOk Tryz.prog ρ 17 [.mp o 0,.int .u64 x,.agg [.int .u64 e.w,.int .u64 e.n]] M13 n' (Ret n' M13 (.tup [.agg [.int .u64 0,.int .u64 0],.int .i64 0,.bool false])):=fun n' hn'=>by
           have:=f17 ρ (hO6.agr ((fin9.trans (ha13.le (by omega))).le (by omega))) (show n3<=n' by omega) x (verAt l l.length).1 (verAt l l.length).2
           rw[hFl,hok.nextLast,hve]at this
           exact this
          clear k2
          refine xs10 gy70 e3 e6 e13 e14 e15 e16 e17 e18 e19 ?_;try exact⟨⟩
          refine CN_fok (c8 _ (by omega)).out ?_
          rintro⟨u,M14,n14⟩ ⟨⟨k1,k2,k5⟩,hcl,_⟩
          simp only at k1 k2 k5 hcl
          subst k1
          have ha14:Agr n9 M9 M14:=ha13.trans (k2.le (by omega))
          clear k2
          refine xs10 gy70 e3 e6 e13 e14 e15 e16 e17 e18 e19 ?_;try exact⟨⟩
          generalize hM15:tset (tset M14 (n14+4) _) (n14+4) _=M15
          have ha15:Agr n9 M9 M15:=by rw[<-hM15];exact(by(repeat (refine Agr.set ?_ (by omega) _));exact ha14)
          have hcl15:Cl (n14+5) M15:=by rw[<-hM15];exact((hcl.le (by omega)).set (by omega) rfl).set (by omega) rfl
          have u5:=hpr1 0 (.int .u64 e.w) (.int .u64 e.n) (by omega) rfl rfl 25 ty25.1 _ ha15
          simp only[Nat.add_zero]at u5
          clear hM15 hcl
          refine RDg_call ?_ rfl ?_
          ·refine xs1 gy70 ?_;try exact⟨⟩
          refine xs1 gy70 ?_;try exact⟨⟩
          refine CD_sem (Csem.read (hcl15.le (by omega)) ?_ rfl fun N hN=>c7 N (ha15.trans (hN.le (by omega))) _ (by omega)) (by decide) ?_
          ·simp only[kltVs];rw[hkl _ (by omega)];rfl
          refine xs17 gy70 e3 e6 e13 e14 e15 e16 e17 e18 e19 hvl hix1 u5 hwm hw2 @logOf_range' @neqB ?_;try exact⟨⟩
          exact⟨ys.length - (i+1),by omega,i+1,by omega,rfl,rfl,fin9.trans (ha15.le (by omega)),by omega⟩
       ·refine xs7 gy70 e3 e6 e13 e14 hlt hyl ?_;try exact⟨⟩
        refine CN_fok (hw _ _ (hA6.trans (ha.le (by omega))) (by omega)) ?_
        rintro⟨u,M8,n8⟩ ⟨k1,k2⟩
        simp only at k1 k2
        subst k1
        refine xs1 gy70 ?_;try exact⟨⟩
        exact(hA6.trans (ha.le (by omega))).trans (k2.le (by omega))
end
end Go.Xs
namespace Go.Xs
noncomputable section
open Go.Proofs Go.Sort
set_option maxRecDepth 100000
set_option maxHeartbeats 8000000
instance insInh:Inhabited Ins:=⟨⟨0,0,0,0⟩⟩
def ltI (a b:Ins):Bool:=decide (a.wr<b.wr)
theorem swoU:SWO ltInt:=⟨fun x=>by simp[ltInt],fun x y z h1 h2=>by simp only[ltInt,decide_eq_true_eq]at *;omega,fun x y z h1 h2=>by simp only[ltInt,decide_eq_false_iff_not]at *;omega⟩
theorem swoI:SWO ltI:=⟨fun x=>by simp[ltI],fun x y z h1 h2=>by simp only[ltI,decide_eq_true_eq]at *;omega,fun x y z h1 h2=>by simp only[ltI,decide_eq_false_iff_not]at *;omega⟩
def rwU (d:Array Int):XObj:=.row (d.toList.map (XV.int .u64))
def rwI (d:Array Ins):XObj:=.row (d.toList.flatMap encIns)
def Oth (nx k:Nat) (M M':Hp):Prop:=∀j,j<nx->j≠k->tget M' j=tget M j
theorem Oth.refl (nx k:Nat) (M:Hp):Oth nx k M M:=fun _ _ _=>rfl
theorem Oth.trans {nx nx' k:Nat} {M M' M'':Hp} (h:Oth nx k M M') (h':Oth nx' k M' M'') (hn:nx<=nx'):Oth nx k M M'':=fun j hj hk=>(h' j (by omega) hk).trans (h j hj hk)
theorem Oth.set {nx k:Nat} {M M':Hp} (h:Oth nx k M M') (o:XObj):Oth nx k M (tset M' k o):=fun j hj hk=>by
 rw[tget_tset,if_neg (fun e:k=j=>hk e.symm)];exact h j hj hk
theorem Oth.agr {nx nx' k:Nat} {M M' M'':Hp} (h:Oth nx k M M') (h':Agr nx' M' M'') (hn:nx<=nx'):Oth nx k M M'':=fun j hj hk=>(h' j (by omega)).trans (h j hj hk)
theorem Oth.new {nx k j:Nat} {M M':Hp} (h:Oth nx k M M') (hj:nx<=j) (o:XObj):Oth nx k M (tset M' j o):=fun i hi hk=>by
 rw[tget_tset,if_neg (by omega)];exact h i hi hk
structure ArrU (k n:Nat) (sv:XV) (off:Nat->Nat):Prop where
 ix:∀i,i<n->∀kd,indexAddrX Tryz.prog 44 sv (.int kd (i:Int))=some (.mp k (off i))
 ld:∀M (d:Array Int),tget M k=some (rwU d)->d.size=n->∀i,i<n->loadX Tryz.prog M 23 (.mp k (off i))=some ⟨.int .u64 d[i]!,[k],[]⟩
 st:∀M (d:Array Int),tget M k=some (rwU d)->d.size=n->∀i,i<n->∀x,storeX Tryz.prog M 23 (.int .u64 x) (.mp k (off i))=some ⟨.udf,[k],[(k,some (rwU (d.setIfInBounds i x)))]⟩
structure ArrI (k n:Nat) (sv:XV) (off:Nat->Nat):Prop where
 ix:∀i,i<n->∀kd,indexAddrX Tryz.prog 100 sv (.int kd (i:Int))=some (.mp k (off i))
 ld:∀M (d:Array Ins),tget M k=some (rwI d)->d.size=n->∀i,i<n->loadX Tryz.prog M 106 (.mp k (off i))=some ⟨.agg (encIns d[i]!),[k],[]⟩
 st:∀M (d:Array Ins),tget M k=some (rwI d)->d.size=n->∀i,i<n->∀x,storeX Tryz.prog M 106 (.agg (encIns x)) (.mp k (off i))=some ⟨.udf,[k],[(k,some (rwI (d.setIfInBounds i x)))]⟩
theorem arrU (k n:Nat):ArrU k n (.sl k 1 0 n n) fun i=>i:=by
 have e23:sa Tryz.prog 23=some (1,false):=ty23.1
 refine⟨fun i hi kd=>?_,fun M d hM hn i hi=>?_,fun M d hM hn i hi x=>?_⟩
 ·rw[indexAddr_eq,ty44.2.2.2.1,iaC_some _ _ _ _ _ (by omega) (by omega)];simp
 ·refine load_hrd1 (cs:=d.toList.map (XV.int .u64)) (by simp only[hrd,hM,rwU]) ty23.1 ?_
  rw[List.getElem?_map,Array.getElem?_toList,getElem!_pos d i (by omega),Array.getElem?_eq_getElem (by omega)];rfl
 ·have h3:putAt (d.toList.map (XV.int .u64)) i [XV.int .u64 x]=(d.setIfInBounds i x).toList.map (XV.int .u64):=by
   rw[putAt_eq _ _ _ (by simp;omega),Array.toList_setIfInBounds,List.set_eq_take_append_cons_drop,if_pos (by simp;omega)]
   simp[List.map_take,List.map_drop]
  simp only[store_eq,ty23.2.1,hM,rwU]
  rw[stC_row k i 1 (.int .u64 x) _ rfl (by rw[List.length_map,Array.length_toList];omega) rfl,<-h3]
  rfl
theorem flatIns_len (l:List Ins):(l.flatMap encIns).length=l.length*4:=by
 induction l with
 | nil=>rfl
 | cons a l ih=>simp only[List.flatMap_cons,List.length_append,ih,List.length_cons];simp only[encIns,List.length_cons,List.length_nil];omega
theorem flatIns_drop (l:List Ins) (i:Nat):(l.flatMap encIns).drop (i*4)=(l.drop i).flatMap encIns:=by
 induction l generalizing i with
 | nil=>simp
 | cons a l ih =>
   cases i with
   | zero=>simp
   | succ i =>
     rw[List.flatMap_cons,show (i+1)*4=(encIns a).length+i*4 by simp[encIns];omega,List.drop_length_add_append,ih]
     rfl
theorem flatIns_take (l:List Ins) (i:Nat):(l.flatMap encIns).take (i*4)=(l.take i).flatMap encIns:=by
 induction l generalizing i with
 | nil=>simp
 | cons a l ih =>
   cases i with
   | zero=>simp
   | succ i =>
     rw[List.flatMap_cons,show (i+1)*4=(encIns a).length+i*4 by simp[encIns];omega,List.take_length_add_append,ih]
     rfl
theorem arrI (k n:Nat):ArrI k n (.sl k 4 0 n n) fun i=>i*4:=by
 refine⟨fun i hi kd=>?_,fun M d hM hn i hi=>?_,fun M d hM hn i hi x=>?_⟩
 ·rw[indexAddr_eq,ty100.2.2.2.1,iaC_some _ _ _ _ _ (by omega) (by omega)];simp
 ·have hl:=flatIns_len d.toList
  rw[load_hrd (cs:=d.toList.flatMap encIns) (by simp only[hrd,hM,rwI]) ty106.1 (by rw[hl];simp;omega)]
  have e:d.toList.drop i=d[i]! :: d.toList.drop (i+1):=by
   rw[List.drop_eq_getElem_cons (by simp;omega),getElem!_pos d i (by omega)];rfl
  rw[flatIns_drop,e]
  rfl
 ·have hl:=flatIns_len d.toList
  have h3:putAt (d.toList.flatMap encIns) (i*4) (encIns x)=(d.setIfInBounds i x).toList.flatMap encIns:=by
   rw[putAt_eq _ _ _ (by rw[hl];simp[encIns];omega),Array.toList_setIfInBounds,List.set_eq_take_append_cons_drop,if_pos (by simp;omega),flatIns_take]
   simp only[List.flatMap_append,List.flatMap_cons]
   rw[<-flatIns_drop]
   simp only[encIns,List.length_cons,List.length_nil]
   rw[show (i+1)*4=i*4+(0+1+1+1+1) by omega]
  simp only[store_eq,ty106.2.1,hM,rwI]
  rw[stC_row k (i*4) 4 (.agg (encIns x)) _ (by simp[cellsOf,encIns]) (by rw[hl];simp;omega) (by simp[cellsOf,encIns,plain1]),<-h3]
  rfl
theorem cl_nil (n:Nat):Cl n (.nil:Hp):=fun k o h=>by
 rw[show tget (.nil:Hp) k=none from rfl]at h;cases h
theorem Csem.pure {P:Program} {ρ:Rho} {g:Nat} {args:List XV} {M:Hp} {nx:Nat} {v:XV} (ha:kltVs nx args=true) (hv:kltV nx v=true) (h:∀N,FOk P ρ g args N nx (Ret nx N v)):Csem P ρ g args M nx ⟨v,[],[]⟩ nx :=
 ⟨ha,rfl,(fun k hk=>by cases hk),Nat.le_refl _,(h _).1.forget (cl_nil nx) hv⟩
theorem RD_gcall {P:Program} {ρ:Rho} {n i:Nat} {all os:List Oper} {env:Env} {M:Hp} {nx:Nat} {log:Log} {G:XS->Log->Prop} {d:Option Nat} {c:Call} {ty:TypeId} {pos:String} {after:Array Edge} {g:Nat×Bool} (hg:guardX all env (some g)=some true) (hp:plainOp (.call c)=false) (h:CD P ρ n all os i env M nx log d G (calleeX env c)) :
 RD P ρ n all (⟨d,.call c,ty,pos,after,some g⟩::os) i ⟨env,M,nx⟩ log G:=by
 have h0:=(RD_call (ty:=ty) (pos:=pos) (after:=after) hp).mpr h
 unfold RD at h0 ⊢
 simp only[guardX]at h0
 simp only[hg]
 exact h0
theorem RD_gskip {P:Program} {ρ:Rho} {n i:Nat} {all os:List Oper} {env:Env} {M:Hp} {nx:Nat} {log:Log} {G:XS->Log->Prop} {d:Nat} {op:Op} {ty:TypeId} {pos:String} {after:Array Edge} {g:Nat×Bool} (hg:guardX all env (some g)=some false) (hd:d<n) (h:RD P ρ n all os (i+1) ⟨tset env d .udf,M,nx⟩ log G) :
 RD P ρ n all (⟨some d,op,ty,pos,after,some g⟩::os) i ⟨env,M,nx⟩ log G:=by
 have hb:Nat.blt d n=true:=by rw[Nat.blt_eq];exact hd
 unfold RD
 simp only[hg]
 exact⟨_,by simp only[putX,hb],h⟩
structure Is {α:Type} (x y:α):Prop where
 eq:x=y
theorem f216 (ρ:Rho) (M:Hp) (nx:Nat) (x:Int):FOk Tryz.prog ρ 216 [.int .u64 x] M nx (Ret nx M (.bool false)):=by
 refine FOk.walk (m:=6) (rs:=[.tmp 2]) follows Tryz.func216 (by kernel_rfl) rfl rfl rfl ?_
 conv in W _ _ _ _ _ _ _=>arg 4;whnf
 refine xs2 gy71 @Ret.eq_1 ?_;try exact⟨⟩
 exact⟨Agr.refl _ _,by omega⟩
theorem f150 (ρ:Rho) (M:Hp) (nx:Nat) (x y:Int):FOk Tryz.prog ρ 150 [.int .u64 x,.int .u64 y] M nx (Ret nx M (.bool (ltInt x y))):=by
 refine FOk.walk (m:=17) (rs:=[.tmp 4]) follows Tryz.func150 (by kernel_rfl) rfl rfl rfl ?_
 conv in W _ _ _ _ _ _ _=>arg 4;whnf
 refine xs1 gy72 ?_;try exact⟨⟩
 refine CN_fok (f216 ρ _ _ x) ?_
 rintro⟨u,M1,n1⟩ ⟨g1,g2,g3⟩
 simp only at g1 g2 g3
 subst g1
 refine xs2 gy72 @Ret.eq_1 ?_;try exact⟨⟩
 exact⟨rfl,g2.le (by omega),by omega⟩
theorem f70 (ρ:Rho) (M:Hp) (nx:Nat) (x:Int):FOk Tryz.prog ρ 70 [.int .i64 x] M nx (Ret nx M (.bool false)):=by
 refine FOk.walk (m:=6) (rs:=[.tmp 2]) follows Tryz.func70 (by kernel_rfl) rfl rfl rfl ?_
 conv in W _ _ _ _ _ _ _=>arg 4;whnf
 refine xs2 gy5 @Ret.eq_1 ?_;try exact⟨⟩
 exact⟨Agr.refl _ _,by omega⟩
def cmpI (x y:Int):Int:=if x<y then -1 else if y<x then 1 else 0
theorem f41 (ρ:Rho) (M:Hp) (nx:Nat) (x y:Int):FOk Tryz.prog ρ 41 [.int .i64 x,.int .i64 y] M nx (Ret nx M (.int .i64 (cmpI x y))):=by
 refine FOk.walk (m:=20) (rs:=[.tmp 4]) follows Tryz.func41 (by kernel_rfl) rfl rfl rfl ?_
 conv in W _ _ _ _ _ _ _=>arg 4;whnf
 refine xs1 gy5 ?_;try exact⟨⟩
 refine CN_fok (f70 ρ _ _ x) ?_
 rintro⟨u,M1,n1⟩ ⟨g1,g2,g3⟩
 simp only at g1 g2 g3
 subst g1
 refine xs1 gy5 ?_;try exact⟨⟩
 refine CN_fok (f70 ρ _ _ y) ?_
 rintro⟨u,M2,n2⟩ ⟨k1,k2,k3⟩
 simp only at k1 k2 k3
 subst k1
 have a2:Agr nx M M2:=(g2.le (by omega)).trans (k2.le (by omega))
 have n2:nx<=n2:=by omega
 by_cases h1:x<y
 ·refine xs4 gy5 h1 @Ret.eq_1 @cmpI.eq_1 ?_;try exact⟨⟩
  exact⟨a2,by omega⟩
 ·by_cases h2:y<x
  ·refine xs5 gy5 h1 h2 @Ret.eq_1 @cmpI.eq_1 ?_;try exact⟨⟩
   exact⟨a2,by omega⟩
  ·refine xs5 gy5 h1 h2 @Ret.eq_1 @cmpI.eq_1 ?_;try exact⟨⟩
   exact⟨a2,by omega⟩
theorem f40 (ρ:Rho) (M:Hp) (nx:Nat) (a b:Ins):FOk Tryz.prog ρ 40 [.agg (encIns a),.agg (encIns b)] M nx (Ret nx M (.int .i64 (cmpI a.wr b.wr))):=by
 refine FOk.walk (m:=10) (rs:=[.tmp 4]) follows Tryz.func40 (by kernel_rfl) rfl rfl rfl ?_
 conv in W _ _ _ _ _ _ _=>arg 4;whnf
 refine xs2 gy20 @encIns.eq_1 ?_;try exact⟨⟩
 refine CN_fok (f41 ρ _ _ a.wr b.wr) ?_
 rintro⟨u,M1,n1⟩ ⟨g1,g2,g3⟩
 simp only at g1 g2 g3
 subst g1
 refine xs2 gy20 @Ret.eq_1 ?_;try exact⟨⟩
 exact⟨(fun j hj=>(g2 j (by omega)).trans (by(repeat (first | rw[tget_tset,if_pos rfl] | rw[tget_tset,if_neg (by omega)] | rw[tget_tdel,if_neg (by omega)]));try (first | rfl | assumption))),by omega⟩
end
end Go.Xs
namespace Go.Xs
noncomputable section
open Go.Proofs Go.Sort
theorem w_add {x y:Nat} (h:x+y<=100000):IntKind.i64.wrap ((x:Int)+(y:Int))=((x+y:Nat):Int):=by rw[wrap_i64 (by omega) (by omega)];omega
theorem w_add1 {x:Nat} (h:x<=100000):IntKind.i64.wrap ((x:Int)+1)=((x+1:Nat):Int):=by rw[wrap_i64 (by omega) (by omega)];omega
theorem w_sub {x y:Nat} (h:x<=100000) (hy:y<=x):IntKind.i64.wrap ((x:Int) - (y:Int))=((x - y:Nat):Int):=by rw[wrap_i64 (by omega) (by omega)];omega
theorem w_sub1 {x:Nat} (h:x<=100000) (hy:1<=x):IntKind.i64.wrap ((x:Int) - 1)=((x - 1:Nat):Int):=by rw[wrap_i64 (by omega) (by omega)];omega
theorem w_sub1' {x:Nat} (h:x<=100000):IntKind.i64.wrap (((x+1:Nat):Int) - 1)=(x:Int):=by rw[wrap_i64 (by omega) (by omega)];omega
theorem cmpI_t {a b:Ins} (h:ltI a b=true):cmpI a.wr b.wr<0:=by
 simp only[ltI,decide_eq_true_eq]at h
 rw[cmpI,if_pos h];decide
theorem cmpI_f {a b:Ins} (h:ltI a b=false):¬ cmpI a.wr b.wr<0:=by
 simp only[ltI,decide_eq_false_iff_not]at h
 rw[cmpI,if_neg h]
 split<;>decide
theorem siftDown_size {α:Type} [Inhabited α] {lt:α->α->Bool} (hi first root n:Nat) {d:Array α} (h:d.size=n):(siftDown lt hi first root d).size=n:=by
 induction root,d using siftDown.induct (lt:=lt) hi first with
 | case1 r d h1=>rw[siftDown,dif_pos h1];exact h
 | case2 r d h1 h2 h3=>rw[siftDown,dif_neg h1,if_pos h2,if_pos h3];exact h
 | case3 r d h1 h2 h3 h4 ih=>rw[siftDown,dif_neg h1,if_pos h2,if_neg h3,dif_pos h4];exact ih (by rw[swp_size];exact h)
 | case4 r d h1 h2 h3 h4=>rw[siftDown,dif_neg h1,if_pos h2,if_neg h3,dif_neg h4];exact h
 | case5 r d h1 h2 h3=>rw[siftDown,dif_neg h1,if_neg h2,if_pos h3];exact h
 | case6 r d h1 h2 h3 ih=>rw[siftDown,dif_neg h1,if_neg h2,if_neg h3];exact ih (by rw[swp_size];exact h)
def SortedU (nx k:Nat) (M:Hp) (d':Array Int) (r:Out):Prop:=r.1 = .tup []/\(tget r.2.1 k=some (rwU d')/\d'.size<=1000)/\Oth nx k M r.2.1/\nx<=r.2.2
def SortedI (nx k:Nat) (M:Hp) (d':Array Ins) (r:Out):Prop:=r.1 = .tup []/\(tget r.2.1 k=some (rwI d')/\d'.size<=1000)/\Oth nx k M r.2.1/\nx<=r.2.2
def O2 (nx p:Nat) (M:Hp) (lo up:Nat) (r:Out):Prop:=∃(a b:Nat) (s:Int),r.1 = .tup [.int .i64 a,.int .i64 b]/\(lo<=a/\a<up/\lo<=b/\b<up)/\tget r.2.1 p=some (.row [.int .i64 s])/\Oth nx p M r.2.1/\nx<=r.2.2
def O1 (nx p:Nat) (M:Hp) (lo up:Nat) (r:Out):Prop:=∃(a:Nat) (s:Int),r.1 = .int .i64 a/\(lo<=a/\a<up)/\tget r.2.1 p=some (.row [.int .i64 s])/\Oth nx p M r.2.1/\nx<=r.2.2
def PivP (nx:Nat) (M:Hp) (a b:Nat) (r:Out):Prop:=∃(p:Nat) (h:Int),r.1 = .tup [.int .i64 p,.int .i64 h]/\(a<=p/\p<b)/\Agr nx M r.2.1/\nx<=r.2.2
theorem Oth.get {nx p k:Nat} {M M':Hp} {o:Option XObj} (h:Oth nx p M M') (hk:k<nx) (hp:k<p) (e:tget M k=o):tget M' k=o:=(h k hk (by omega)).trans e
theorem Oth.below {nx p n0:Nat} {M M':Hp} (h:Oth nx p M M') (h0:n0<=nx) (hp:n0<=p):Agr n0 M M':=fun j hj=>h j (by omega) (by omega)
theorem W_loop_cut {P:Program} {ρ:Rho} {n id:Nat} {c:Code} {fs:List Fr} {Q:AExit->XS->Prop} {s:XS} (I:Nat->XS->Prop) (k:Nat) (Post:XS->Prop) (h0:I k s)
 (h:∀k s',I k s'->W P ρ n c [.lp I k,.bk id] (fun e s=>e = .normal/\Post s) s') (cont:∀s,Post s->T P ρ n fs Q .normal s):W P ρ n (.loop c) (.bk id::fs) Q s:=by
 have h1:W P ρ n (.loop c) [.bk id] (fun e s=>e = .normal/\Post s) s:=W_loop I k h0 h
 refine wx_mono _ _ _ _ (fun e s hk=>?_) h1
 have hk:inB id e = .normal/\Post s:=hk
 have:=cont s hk.2
 show pK P ρ n fs Q (inB id e) s
 rw[hk.1]
 exact this
def ScU {α:Type} [Inhabited α] (p:α->Bool) (d:Array α) (i j i' m:Nat):Prop:=i<=i'/\i'<=j+1/\m=j+1 - i'/\scanUp p d j i'=scanUp p d j i
def ScD {α:Type} [Inhabited α] (p:α->Bool) (d:Array α) (i j j' m:Nat):Prop:=i<=j'+1/\j'<=j/\m=j'/\scanDown p d i j'=scanDown p d i j
theorem scanUp_step {α:Type} [Inhabited α] {p:α->Bool} {d:Array α} {i j:Nat} (h:i<=j) (hp:p d[i]! = true):scanUp p d j i=scanUp p d j (i+1):=by rw[scanUp,if_pos (by simp[h,hp])]
theorem scanUp_stop {α:Type} [Inhabited α] {p:α->Bool} {d:Array α} {i j:Nat} (h:¬ i<=j\/p d[i]! = false):scanUp p d j i=i:=by
 rw[scanUp,if_neg]
 rcases h with h | h
 ·simp[h]
 ·simp[h]
theorem scanDown_step {α:Type} [Inhabited α] {p:α->Bool} {d:Array α} {i j:Nat} (h:i<=j+1) (hp:p d[j+1]! = true):scanDown p d i (j+1)=scanDown p d i j:=by rw[scanDown,if_pos (by simp[h,hp])]
theorem scanDown_stop {α:Type} [Inhabited α] {p:α->Bool} {d:Array α} {i j:Nat} (h:¬ i<=j\/p d[j]! = false):scanDown p d i j=j:=by
 cases j with
 | zero=>rfl
 | succ j =>
   rw[scanDown,if_neg]
   rcases h with h | h
   ·simp[h]
   ·simp[h]
theorem scans {α:Type} [Inhabited α] {p q:α->Bool} (hq:∀x,q x = !p x) {d:Array α} {i j i2 j2:Nat} (h1:1<=i) (hij:i<=j+1) (hi2:i2=scanUp p d j i) (hj2:j2=scanDown q d i2 j) :
 i<=i2/\i2<=j+1/\j2<=j/\i2<=j2+1/\(i2<=j2->i2<j2):=by
 obtain⟨u1,u2,u3,u4⟩:=scanUp_spec p d j _ i rfl
 obtain⟨v1,v2,v3,v4⟩:=scanDown_spec q d i2 j
 rw[<-hi2]at u1 u2 u3 u4
 rw[<-hj2]at v1 v2 v3 v4
 have hu:=u2 hij
 refine⟨u1,hu,v1,v2 hu,fun h=>?_⟩
 have f1:=u4 (by omega)
 have f2:=v4 h (by omega)
 rw[hq]at f2
 rcases Nat.lt_or_ge i2 j2 with h' | h'
 ·exact h'
 ·have e:i2=j2:=by omega
  rw[<-e,f1]at f2
  cases f2
def ParU (nx k:Nat) (M:Hp) (v:XV) (d':Array Int) (r:Out):Prop:=r.1=v/\(tget r.2.1 k=some (rwU d')/\d'.size<=1000)/\Oth nx k M r.2.1/\nx<=r.2.2
def ParI (nx k:Nat) (M:Hp) (v:XV) (d':Array Ins) (r:Out):Prop:=r.1=v/\(tget r.2.1 k=some (rwI d')/\d'.size<=1000)/\Oth nx k M r.2.1/\nx<=r.2.2
theorem W_gen {P:Program} {ρ:Rho} {n:Nat} {c:Code} {fs:List Fr} {Q:AExit->XS->Prop} {s:XS} (Pre:XS->Prop) (h0:Pre s) (h:∀s,Pre s->W P ρ n c fs Q s):W P ρ n c fs Q s:=h s h0
def ScS {α:Type} [Inhabited α] (lt:α->α->Bool) (d:Array α) (b i i' m:Nat):Prop:=i<=i'/\i'<=b/\m=b - i'/\scanSorted lt d b i'=scanSorted lt d b i
theorem scanSorted_step {α:Type} [Inhabited α] {lt:α->α->Bool} {d:Array α} {i b:Nat} (h:i<b) (hp:lt d[i]! d[i - 1]! = false):scanSorted lt d b i=scanSorted lt d b (i+1):=by rw[scanSorted,if_pos (by simp[h,hp])]
theorem scanSorted_stop {α:Type} [Inhabited α] {lt:α->α->Bool} {d:Array α} {i b:Nat} (h:¬ i<b\/lt d[i]! d[i - 1]! = true):scanSorted lt d b i=i:=by
 rw[scanSorted,if_neg]
 rcases h with h | h
 ·simp[h]
 ·simp[h]
theorem scanSorted_bd {α:Type} [Inhabited α] (lt:α->α->Bool) (d:Array α) (b:Nat):∀(m i:Nat),b - i=m->i<=b->i<=scanSorted lt d b i/\scanSorted lt d b i<=b:=by
 intro m
 induction m with
 | zero=>intro i h hi;rw[scanSorted_stop (.inl (by omega))];omega
 | succ m ih =>
   intro i h hi
   by_cases hp:lt d[i]! d[i - 1]! = true
   ·rw[scanSorted_stop (.inr hp)];omega
   ·rw[scanSorted_step (by omega) (by simpa using hp)]
    have:=ih (i+1) (by omega) (by omega)
    omega
def ShD {α:Type} [Inhabited α] (lt:α->α->Bool) (n i:Nat) (d3:Array α) (j m:Nat) (d':Array α):Prop:=j<i/\m=j/\d'.size=n/\shiftDown lt j d'=d3
def ShU {α:Type} [Inhabited α] (lt:α->α->Bool) (n b i:Nat) (d4:Array α) (j m:Nat) (d':Array α):Prop:=i<j/\j<=b/\m=b - j/\d'.size=n/\shiftUp lt b j d'=d4
theorem shiftDown_size {α:Type} [Inhabited α] (lt:α->α->Bool) {n:Nat}:∀(j:Nat) (d:Array α),d.size=n->(shiftDown lt j d).size=n
 | 0,d,h=>h
 | j+1,d,h=>by
   unfold shiftDown
   split
   ·exact h
   ·exact shiftDown_size lt j _ (by rw[swp_size];exact h)
theorem shiftUp_size {α:Type} [Inhabited α] (lt:α->α->Bool) {n:Nat} (b:Nat):∀(m j:Nat) (d:Array α),b - j=m->d.size=n->(shiftUp lt b j d).size=n:=by
 intro m
 induction m with
 | zero=>intro j d hm h;rw[shiftUp,if_neg (by omega)];exact h
 | succ m ih =>
   intro j d hm h
   rw[shiftUp,if_pos (by omega)]
   split
   ·exact h
   ·exact ih _ _ (by omega) (by rw[swp_size];exact h)
theorem shiftUp_step {α:Type} [Inhabited α] {lt:α->α->Bool} {b j:Nat} {d:Array α} (h:j<b) (hq:lt d[j]! d[j - 1]! = true):shiftUp lt b j d=shiftUp lt b (j+1) (swp d j (j - 1)):=by
 rw[shiftUp,if_pos h,hq];rfl
end
end Go.Xs
namespace Go.Xs
noncomputable section
open Go.Proofs Go.Sort
set_option maxRecDepth 100000
set_option maxHeartbeats 8000000
def lenTbl:List Nat:=(List.range 256).map bitsLen
theorem lenTbl_ix (x:Nat) (hx:x<256):indexX Tryz.prog 9 (.str lenTbl) (.int .u8 (x:Int))=some (.int .u8 (bitsLen x:Nat)):=by
 have hu:Tryz.prog.underlying 9=some .string:=by kernel_rfl
 have hl:lenTbl.length=256:=by simp[lenTbl]
 unfold indexX
 simp only[hu]
 rw[inRange_of (by omega) (by rw[hl];omega)]
 have:lenTbl[(x:Int).toNat]?=some (bitsLen x):=by simp[lenTbl,hx]
 simp only[this]
theorem bitsLen_le:∀x:Nat,x<1001->bitsLen x<=10:=by
 have h:((List.range 1001).all fun x=>decide (bitsLen x<=10))=true:=by kernel_rfl
 intro x hx
 rw[List.all_eq_true]at h
 simpa using h x (List.mem_range.2 hx)
theorem bitsLen_256:∀x:Nat,x<1001->256<=x->bitsLen x=8+bitsLen (x / 256):=by
 have h:((List.range 1001).all fun x=>decide (x<256)||decide (bitsLen x=8+bitsLen (x / 256)))=true:=by kernel_rfl
 intro x hx h2
 rw[List.all_eq_true]at h
 have:=h x (List.mem_range.2 hx)
 rw[Bool.or_eq_true,decide_eq_true_eq,decide_eq_true_eq]at this
 omega
theorem bitsLen_pow:∀x:Nat,x<1001->1<=x->2 ^ bitsLen x<=2*x:=by
 have h:((List.range 1001).all fun x=>decide (x=0)||decide (2 ^ bitsLen x<=2*x))=true:=by kernel_rfl
 intro x hx h2
 rw[List.all_eq_true]at h
 have:=h x (List.mem_range.2 hx)
 rw[Bool.or_eq_true,decide_eq_true_eq,decide_eq_true_eq]at this
 omega
theorem f103 (ρ:Rho) (M:Hp) (nx:Nat) (x:Nat) (hx:x<1001):FOk Tryz.prog ρ 103 [.int .u64 x] M nx (Ret nx M (.int .i64 (bitsLen x:Nat))):=by
 refine FOk.walk (m:=25) (rs:=[.tmp 2]) follows Tryz.func103 (by kernel_rfl) rfl rfl rfl ?_
 conv in W _ _ _ _ _ _ _=>arg 4;whnf
 have h1:¬ (4294967296:Int)<=x:=by omega
 have h2:¬ (65536:Int)<=x:=by omega
 have hb:=bitsLen_le x hx
 by_cases h3:(256:Int)<=x
 ·have hs:∀k',binInt .shr .u64 (x:Int) k' 8=some (.int .u64 ((x / 256:Nat):Int)):=fun k'=>by
   have e:((x:Int).fdiv (2 ^ 8))=((x / 256:Nat):Int):=by rw[Int.fdiv_eq_ediv_of_nonneg _ (by decide)];omega
   exact congrArg (fun z=>some (XV.int .u64 z)) e
  have hu:IntKind.u8.wrap ((x / 256:Nat):Int)=((x / 256:Nat):Int):=by rw[IntKind.wrap_u8];omega
  have hw:IntKind.i64.wrap ((bitsLen (x / 256):Nat):Int)=((bitsLen (x / 256):Nat):Int):=wrap_i64 (by omega) (by have:=bitsLen_256 x hx (by omega);omega)
  have hw2:IntKind.i64.wrap (8+((bitsLen (x / 256):Nat):Int))=((bitsLen x:Nat):Int):=by
   have:=bitsLen_256 x hx (by omega)
   rw[wrap_i64 (by omega) (by omega)];omega
  have h8:IntKind.i64.wrap (0+8)=8:=by decide
  refine xt7 gy73 h1 h2 h3 hs hu h8 ?_;try exact⟨⟩
  generalize hS:List.map (fun c:UInt8=>c.toNat) _=S
  have hS':S=lenTbl:=by rw[<-hS];kernel_rfl
  subst hS'
  clear hS
  have hix:=lenTbl_ix (x / 256) (by omega)
  refine xt6 gy73 hix hw hw2 h8 @Ret.eq_1 ?_;try exact⟨⟩
  exact⟨Agr.refl _ _,by omega⟩
 ·have hu:IntKind.u8.wrap (x:Int)=(x:Int):=by rw[IntKind.wrap_u8];omega
  have hw:IntKind.i64.wrap ((bitsLen x:Nat):Int)=((bitsLen x:Nat):Int):=wrap_i64 (by omega) (by omega)
  have hw2:IntKind.i64.wrap (0+((bitsLen x:Nat):Int))=((bitsLen x:Nat):Int):=by rw[wrap_i64 (by omega) (by omega)];omega
  refine xt5 gy73 h1 h2 h3 hu ?_;try exact⟨⟩
  generalize hS:List.map (fun c:UInt8=>c.toNat) _=S
  have hS':S=lenTbl:=by rw[<-hS];kernel_rfl
  subst hS'
  clear hS
  have hix:=lenTbl_ix x (by omega)
  refine xt5 gy73 hix hw hw2 @Ret.eq_1 ?_;try exact⟨⟩
  exact⟨Agr.refl _ _,by omega⟩
theorem f69 (ρ:Rho) (M:Hp) (nx:Nat) (x:Nat) (hx:x<1001):FOk Tryz.prog ρ 69 [.int .u64 x] M nx (Ret nx M (.int .i64 (bitsLen x:Nat))):=by
 refine FOk.walk (m:=8) (rs:=[.tmp 2]) follows Tryz.func69 (by kernel_rfl) rfl rfl rfl ?_
 conv in W _ _ _ _ _ _ _=>arg 4;whnf
 refine xt1 gy74 ?_;try exact⟨⟩
 refine CN_fok (f103 ρ _ _ x hx) ?_
 rintro⟨u,M1,n1⟩ ⟨g1,g2,g3⟩
 simp only at g1 g2 g3
 subst g1
 refine xt2 gy74 @Ret.eq_1 ?_;try exact⟨⟩
 exact⟨g2.le (by omega),by omega⟩
theorem f139 (ρ:Rho) (M:Hp) (nx:Nat) (x:Nat) (hx:x<1001):FOk Tryz.prog ρ 139 [.int .i64 x] M nx (Ret nx M (.int .u64 (2 ^ bitsLen x:Nat))):=by
 have hu:IntKind.u64.wrap (x:Int)=(x:Int):=wrap_u64 (by omega) (by omega)
 have hb:=bitsLen_le x hx
 have hp:2 ^ bitsLen x<=2 ^ 10:=Nat.pow_le_pow_right (by decide) hb
 have hs:∀k',binInt .shl .u64 1 k' ((bitsLen x:Nat):Int)=some (.int .u64 ((2 ^ bitsLen x:Nat):Int)):=fun k'=>by
  have e:IntKind.u64.wrap (1*2 ^ (min ((bitsLen x:Nat):Int).toNat IntKind.u64.bits))=((2 ^ bitsLen x:Nat):Int):=by
   rw[show min ((bitsLen x:Nat):Int).toNat IntKind.u64.bits=bitsLen x by show min _ 64=_;omega,Int.one_mul]
   have:(2:Int) ^ bitsLen x=((2 ^ bitsLen x:Nat):Int):=by simp
   rw[this]
   generalize 2 ^ bitsLen x=q at hp
   exact wrap_u64 (by omega) (by omega)
  have n0:decide (((bitsLen x:Nat):Int)<0)=false:=by simp
  simp only[binInt,n0,e]
 refine FOk.walk (m:=7) (rs:=[.tmp 2]) follows Tryz.func139 (by kernel_rfl) rfl rfl rfl ?_
 conv in W _ _ _ _ _ _ _=>arg 4;whnf
 refine xt2 gy75 hu ?_;try exact⟨⟩
 refine CN_fok (f69 ρ _ _ x hx) ?_
 rintro⟨u,M1,n1⟩ ⟨g1,g2,g3⟩
 simp only at g1 g2 g3
 subst g1
 refine xt3 gy75 hs @Ret.eq_1 ?_;try exact⟨⟩
 exact⟨g2.le (by omega),by omega⟩
def NextP (nx p:Nat) (M:Hp) (o:Out):Prop:=∃r',o.1 = .int .u64 r'/\tget o.2.1 p=some (.row [.int .u64 r'])/\Oth nx p M o.2.1/\nx<=o.2.2
theorem f140 (ρ:Rho) {M:Hp} {nx p:Nat} {r:Int} (hp:tget M p=some (.row [.int .u64 r])):FOk Tryz.prog ρ 140 [.mp p 0] M nx (NextP nx p M):=by
 have s1:∀(a:Int) k',binInt .shl .u64 a k' 13=some (.int .u64 (IntKind.u64.wrap (a*2 ^ 13))):=fun a k'=>rfl
 have s2:∀(a:Int) k',binInt .shr .u64 a k' 7=some (.int .u64 (a.fdiv (2 ^ 7))):=fun a k'=>rfl
 have s3:∀(a:Int) k',binInt .shl .u64 a k' 17=some (.int .u64 (IntKind.u64.wrap (a*2 ^ 17))):=fun a k'=>rfl
 have s4:∀(a b:Int),binInt .xor .u64 a .u64 b=some (.int .u64 (ibits .xor .u64 a b)):=fun a b=>rfl
 refine FOk.walk (m:=33) (rs:=[.tmp 2]) follows Tryz.func140 (by kernel_rfl) rfl rfl rfl ?_
 conv in W _ _ _ _ _ _ _=>arg 4;whnf
 refine xt7 gy76 hp s1 s2 s3 s4 @NextP.eq_1 ?_;try exact⟨⟩
 exact⟨_,rfl,rfl,(((Oth.refl _ _ _).set _).set _).set _,by omega⟩
theorem and_bd (x:Int) (m:Nat) (hm:m<1000000):∃o:Nat,ibits .and .u64 x (m:Int)=(o:Int)/\o<=m:=by
 have hb:(BitVec.ofInt IntKind.u64.bits x &&& BitVec.ofInt IntKind.u64.bits (m:Int)).toNat<=m:=by
  rw[BitVec.toNat_and]
  refine Nat.le_trans Nat.and_le_right ?_
  rw[BitVec.ofInt_natCast,BitVec.toNat_ofNat]
  exact Nat.mod_le _ _
 refine⟨_,?_,hb⟩
 exact wrap_u64 (by omega) (by omega)
def cutK (Post:XS->Prop) (K:AExit->XS->Prop):AExit->XS->Prop
 | .normal,s=>Post s
 | .ret,s=>K .ret s
 | .exit i,s=>K (.exit i) s
theorem cutK_n {Post:XS->Prop} {K:AExit->XS->Prop} {s:XS}:cutK Post K .normal s=Post s:=rfl
theorem cutK_ret {Post:XS->Prop} {K:AExit->XS->Prop} {s:XS}:cutK Post K .ret s=K .ret s:=rfl
theorem cutK_exit {Post:XS->Prop} {K:AExit->XS->Prop} {s:XS} {i:Nat}:cutK Post K (.exit i) s=K (.exit i) s:=rfl
theorem seqK_mono {f f':XS->Prop} {K K':AExit->XS->Prop} (hf:∀s,f s->f' s) (hK:∀e s,e ≠ .normal->K e s->K' e s):∀e s,seqK f K e s->seqK f' K' e s
 | .normal,s,h=>hf s h
 | .ret,s,h=>hK _ s (by simp) h
 | .exit i,s,h=>hK _ s (by simp) h
theorem cutK_seq {Post f:XS->Prop} {K:AExit->XS->Prop} (h:∀s,Post s->f s):∀e s,cutK Post K e s->seqK f K e s
 | .normal,s,q=>h s q
 | .ret,_,q=>q
 | .exit _,_,q=>q
theorem cutK_off {Post:XS->Prop} {K:AExit->XS->Prop}:∀e s,e ≠ .normal->cutK Post K e s->K e s
 | .normal,_,q,_=>(q rfl).elim
 | .ret,_,_,h=>h
 | .exit _,_,_,h=>h
theorem W_cut1 {P:Program} {ρ:Rho} {n:Nat} {a rest:Code} {fs:List Fr} {Q:AExit->XS->Prop} {s:XS} (Post:XS->Prop) (h:W P ρ n a [] (cutK Post fun e s=>T P ρ n fs Q e s) s) (cont:∀s,Post s->W P ρ n rest fs Q s) :
 W P ρ n (.seq a rest) fs Q s:=by
 have h:wx P ρ n a (cutK Post (pK P ρ n fs Q)) s:=h
 show wx P ρ n a (seqK (wx P ρ n rest (pK P ρ n fs Q)) (pK P ρ n fs Q)) s
 exact wx_mono _ _ _ _ (cutK_seq cont) h
theorem W_cut2 {P:Program} {ρ:Rho} {n:Nat} {a b rest:Code} {fs:List Fr} {Q:AExit->XS->Prop} {s:XS} (Post:XS->Prop) (h:W P ρ n (.seq a b) [] (cutK Post fun e s=>T P ρ n fs Q e s) s) (cont:∀s,Post s->W P ρ n rest fs Q s) :
 W P ρ n (.seq a (.seq b rest)) fs Q s:=by
 have h:wx P ρ n a (seqK (wx P ρ n b (cutK Post (pK P ρ n fs Q))) (cutK Post (pK P ρ n fs Q))) s:=h
 show wx P ρ n a (seqK (wx P ρ n b (seqK (wx P ρ n rest (pK P ρ n fs Q)) (pK P ρ n fs Q))) (pK P ρ n fs Q)) s
 exact wx_mono _ _ _ _ (seqK_mono (fun s=>wx_mono _ _ _ _ (cutK_seq cont)) cutK_off) h
theorem W_cut4 {P:Program} {ρ:Rho} {n:Nat} {a b c d rest:Code} {fs:List Fr} {Q:AExit->XS->Prop} {s:XS} (Post:XS->Prop) (h:W P ρ n (.seq a (.seq b (.seq c d))) [] (cutK Post fun e s=>T P ρ n fs Q e s) s) (cont:∀s,Post s->W P ρ n rest fs Q s) :
 W P ρ n (.seq a (.seq b (.seq c (.seq d rest)))) fs Q s:=by
 have h:wx P ρ n a (seqK (wx P ρ n b (seqK (wx P ρ n c (seqK (wx P ρ n d (cutK Post (pK P ρ n fs Q))) (cutK Post (pK P ρ n fs Q)))) (cutK Post (pK P ρ n fs Q)))) (cutK Post (pK P ρ n fs Q))) s:=h
 show wx P ρ n a (seqK (wx P ρ n b (seqK (wx P ρ n c (seqK (wx P ρ n d (seqK (wx P ρ n rest (pK P ρ n fs Q)) (pK P ρ n fs Q))) (pK P ρ n fs Q))) (pK P ρ n fs Q))) (pK P ρ n fs Q)) s
 exact wx_mono _ _ _ _ (seqK_mono (fun s=>wx_mono _ _ _ _ (seqK_mono (fun s=>wx_mono _ _ _ _ (seqK_mono (fun s=>wx_mono _ _ _ _ (cutK_seq cont)) cutK_off)) cutK_off)) cutK_off) h
def Rnd {α:Type} [Inhabited α] (lt:α->α->Bool) (a b:Nat) (d:Array α) (x y:Nat) (d':Array α):Prop:=∀R,PermIn x y d' R->SortedIn lt x y R->PermIn a b d R/\SortedIn lt a b R
def InsD {α:Type} [Inhabited α] (lt:α->α->Bool) (a b n:Nat) (d:Array α) (m x y:Nat) (d':Array α):Prop:=a<=x/\x<=y/\y<=b/\m=y - x/\d'.size=n/\Below lt x y d'/\Rnd lt a b d x y d'
def PmD {α:Type} [Inhabited α] (n x y:Nat) (d d':Array α):Prop:=12<y - x/\d'.size=n/\PermIn x y d d'
def PmE {α:Type} [Inhabited α] (n x y p:Nat) (d d':Array α):Prop:=12<y - x/\(x<=p/\p<y)/\d'.size=n/\PermIn x y d d'
end
end Go.Xs
namespace Go.Xs
noncomputable section
open Go.Proofs Go.Sort
set_option maxRecDepth 100000
set_option maxHeartbeats 8000000
def InsOU (a b n:Nat) (d0:Array Int) (m i:Nat) (d':Array Int):Prop:=a<i/\i<=b+1/\m=b+1 - i/\d'.size=n/\insOuter ltInt a b i d'=insertionSort ltInt d0 a b
theorem f144 (ρ:Rho) {M:Hp} {nx k n:Nat} {sv:XV} {off:Nat->Nat} (A:ArrU k n sv off) {d:Array Int} (hM:tget M k=some (rwU d)) (hd:d.size=n) (hk:k<nx) (hn:n<=1000) {a b:Nat} (hab:a<=b) (hb:b<=n) :
 FOk Tryz.prog ρ 144 [sv,.int .i64 a,.int .i64 b] M nx (SortedU nx k M (insertionSort ltInt d a b)):=by
 refine FOk.walk (m:=49) (rs:=[]) follows Tryz.func144 (by kernel_rfl) rfl rfl rfl ?_
 conv in W _ _ _ _ _ _ _=>arg 4;whnf
 have hwa:=w_add1 (x:=a) (by omega)
 refine xt2 gy40 hwa ?_;try exact⟨⟩
 refine W_loop (fun m s=>∃(i:Nat) (d':Array Int),tget s.env 0=some sv/\tget s.env 1=some (.int .i64 a)/\tget s.env 2=some (.int .i64 b)/\tget s.env 6=some (.int .i64 i)/\tget s.M k=some (rwU d')/\Oth nx k M s.M/\nx<=s.nx/\InsOU a b n d m i d')
  (b - a) ⟨a+1,d,?_⟩ ?_
 ·refine xt1 gy40 ?_;try exact⟨⟩
  exact⟨hM,Oth.refl _ _ _,by omega,by omega,by omega,by omega,hd,rfl⟩
 ·rintro m ⟨env,M1,n1⟩ ⟨i,d1,e0,e1,e2,e6,hM1,ho,hn1,h1,h2,h3,hd1,hI⟩
  simp only at e0 e1 e2 e6 hM1 ho hn1
  rw[insOuter]at hI
  by_cases hlt:(i:Int)<b
  ·rw[if_pos (by omega)]at hI
   have hI:=Is.mk hI
   refine xt6 gy40 e0 e1 e2 e6 hlt ?_;try exact⟨⟩
   refine W_loop (fun m2 s=>∃(d':Array Int),m2<=i/\tget s.env 0=some sv/\tget s.env 1=some (.int .i64 a)/\tget s.env 2=some (.int .i64 b)/\tget s.env 6=some (.int .i64 i)/\tget s.env 7=some (.int .i64 m2)/\tget s.M k=some (rwU d')/\d'.size=n/\Oth nx k M s.M/\nx<=s.nx/\Is (insInner ltInt a m2 d') (insInner ltInt a i d1))
    i ⟨d1,by omega,?_⟩ ?_
   ·refine xt5 gy40 e0 e1 e2 e6 ?_;try exact⟨⟩
    exact⟨hM1,hd1,ho,by omega,⟨rfl⟩⟩
   ·clear e0 e1 e2 e6
    rintro j ⟨env,M2,n2⟩ ⟨d2,g1,e0,e1,e2,e6,e7,hM2,hd2,ho2,hn2,⟨hJ⟩⟩
    simp only at e0 e1 e2 e6 e7 hM2 ho2 hn2
    have hwi:=w_add1 (x:=i) (by omega)
    clear ho
    by_cases hja:(a:Int)<j
    ·obtain⟨j',rfl⟩:∃j',j=j'+1:=⟨j - 1,by omega⟩
     have hwj:=w_sub1' (x:=j') (by omega)
     have x1:=A.ix (j'+1) (by omega)
     have x2:=A.ix j' (by omega)
     have l1:=A.ld M2 d2 hM2 hd2 (j'+1) (by omega)
     have l2:=A.ld M2 d2 hM2 hd2 j' (by omega)
     have hJ:=Is.mk hJ
     refine xt12 gy40 e0 e1 e2 e6 e7 hja hwj x1 x2 l1 l2 ?_;try exact⟨⟩
     refine RD_gcall ?_ rfl ?_
     ·refine xt1 gy40 ?_;try exact⟨⟩
     refine xt1 gy40 ?_;try exact⟨⟩
     refine CD_sem (Csem.pure rfl rfl fun N=>f150 ρ N _ _ _) (by decide) ?_
     cases hq:ltInt d2[j'+1]! d2[j']! with
     | true =>
       have hc:=hq
       have st1:=A.st M2 d2 hM2 hd2 (j'+1) (by omega) d2[j']!
       have st2:=A.st (tset M2 k (rwU (d2.setIfInBounds (j'+1) d2[j']!))) _ (by(repeat (first | rw[tget_tset,if_pos rfl] | rw[tget_tset,if_neg (by omega)] | rw[tget_tdel,if_neg (by omega)]));try (first | rfl | assumption)) (by simp;omega) j' (by omega) d2[j'+1]!
       have hJ2:=hJ.eq
       rw[insInner,hq,if_pos (by simp;omega)]at hJ2
       have hJ2:=Is.mk hJ2
       refine xt14 gy40 e0 e1 e2 e6 e7 hc hwj x1 x2 l1 l2 st1 st2 ?_;try exact⟨⟩
       exact⟨j',by omega,swp d2 (j'+1) j',by omega,rfl,rfl,(by rw[swp_size];exact hd2),((ho2.set _).set _),by omega,hJ2⟩
     | false =>
       have hc:=hq
       have hJ2:=hJ.eq
       rw[insInner,hq,if_neg (by simp)]at hJ2
       have hI2:=hI.eq
       rw[<-hJ2]at hI2
       have hI2:=Is.mk hI2
       clear hI hJ hJ2
       refine xt8 gy40 e0 e1 e2 e6 e7 hc hwi ?_;try exact⟨⟩
       exact⟨b+1 - (i+1),by omega,i+1,d2,rfl,hM2,ho2,by omega,by omega,by omega,rfl,hd2,hI2.eq⟩
    ·have hJ2:d2=insInner ltInt a i d1:=by rw[<-hJ];cases j with | zero=>rw[insInner] | succ j=>rw[insInner,if_neg (by simp;omega)]
     have hI2:=hI.eq
     rw[<-hJ2]at hI2
     have hI2:=Is.mk hI2
     clear hI hJ hJ2
     refine xt8 gy40 e0 e1 e2 e6 e7 hja hwi ?_;try exact⟨⟩
     refine RD_gskip ?_ (by decide) ?_
     ·refine xt1 gy40 ?_;try exact⟨⟩
     refine xt8 gy40 e0 e1 e2 e6 e7 hja hwi ?_;try exact⟨⟩
     exact⟨b+1 - (i+1),by omega,i+1,d2,rfl,hM2,ho2,by omega,by omega,by omega,rfl,hd2,hI2.eq⟩
  ·rw[if_neg (by omega)]at hI
   subst hI
   refine xt7 gy40 e0 e1 e2 e6 hlt @SortedU.eq_1 ?_;try exact⟨⟩
   exact⟨⟨hM1,by omega⟩,ho,by omega⟩
def InsRU (a b n:Nat) (d0:Array Int) (m i j:Nat) (d':Array Int):Prop:=a<=i/\i<=j+1/\j<b/\m=j+1 - i/\d'.size=n/\reverseLoop i j d'=reverseRange d0 a b
theorem f148 (ρ:Rho) {M:Hp} {nx k n:Nat} {sv:XV} {off:Nat->Nat} (A:ArrU k n sv off) {d:Array Int} (hM:tget M k=some (rwU d)) (hd:d.size=n) (hk:k<nx) (hn:n<=1000) {a b:Nat} (hab:a<b) (hb:b<=n) :
 FOk Tryz.prog ρ 148 [sv,.int .i64 a,.int .i64 b] M nx (SortedU nx k M (reverseRange d a b)):=by
 refine FOk.walk (m:=32) (rs:=[]) follows Tryz.func148 (by kernel_rfl) rfl rfl rfl ?_
 conv in W _ _ _ _ _ _ _=>arg 4;whnf
 have hwb:=w_sub1 (x:=b) (by omega) (by omega)
 refine xt2 gy40 hwb ?_;try exact⟨⟩
 refine W_loop (fun m s=>∃(i j:Nat) (d':Array Int),tget s.env 0=some sv/\tget s.env 6=some (.int .i64 i)/\tget s.env 7=some (.int .i64 j)/\tget s.M k=some (rwU d')/\Oth nx k M s.M/\nx<=s.nx/\InsRU a b n d m i j d')
  (b - a) ⟨a,b - 1,d,?_⟩ ?_
 ·refine xt1 gy40 ?_;try exact⟨⟩
  exact⟨hM,Oth.refl _ _ _,by omega,by omega,by omega,by omega,by omega,hd,rfl⟩
 ·rintro m ⟨env,M1,n1⟩ ⟨i,j,d1,e0,e6,e7,hM1,ho,hn1,h1,h2,h4,h3,hd1,hI⟩
  simp only at e0 e6 e7 hM1 ho hn1
  rw[reverseLoop]at hI
  by_cases hlt:(i:Int)<j
  ·rw[if_pos (by omega)]at hI
   have hI:=Is.mk hI
   have wi:=w_add1 (x:=i) (by omega)
   have wj:=w_sub1 (x:=j) (by omega) (by omega)
   have x1:=A.ix i (by omega)
   have x2:=A.ix j (by omega)
   have l1:=A.ld M1 d1 hM1 hd1 i (by omega)
   have l2:=A.ld M1 d1 hM1 hd1 j (by omega)
   have st1:=A.st M1 d1 hM1 hd1 i (by omega) d1[j]!
   have st2:=A.st (tset M1 k (rwU (d1.setIfInBounds i d1[j]!))) _ (by(repeat (first | rw[tget_tset,if_pos rfl] | rw[tget_tset,if_neg (by omega)] | rw[tget_tdel,if_neg (by omega)]));try (first | rfl | assumption)) (by simp;omega) j (by omega) d1[i]!
   refine xt13 gy40 e0 e6 e7 hlt x1 x2 l1 l2 st1 st2 wi wj ?_;try exact⟨⟩
   exact⟨(j - 1)+1 - (i+1),by omega,i+1,j - 1,swp d1 i j,rfl,rfl,rfl,((ho.set _).set _),by omega,by omega,by omega,by omega,rfl,(by rw[swp_size];exact hd1),hI.eq⟩
  ·rw[if_neg (by omega)]at hI
   subst hI
   refine xt6 gy40 e0 e6 e7 hlt @SortedU.eq_1 ?_;try exact⟨⟩
   exact⟨⟨hM1,by omega⟩,ho,by omega⟩
end
end Go.Xs
namespace Go.Xs
noncomputable section
open Go.Proofs Go.Sort
set_option maxRecDepth 100000
set_option maxHeartbeats 8000000
def InsSU (hi first root n:Nat) (d0:Array Int) (m r:Nat) (d':Array Int):Prop:=r<=1000/\m=hi - r/\d'.size=n/\siftDown ltInt hi first r d'=siftDown ltInt hi first root d0
theorem sift_aU {hi first r:Nat} {d:Array Int} (h:¬ hi<=2*r+1) (h2:2*r+2<hi) (h3:ltInt d[first+(2*r+1)]! d[first+(2*r+2)]! = true) :
 siftDown ltInt hi first r d=if (!ltInt d[first+r]! d[first+(2*r+2)]!)=true then d else siftDown ltInt hi first (2*r+2) (swp d (first+r) (first+(2*r+2))):=by
 rw[siftDown,dif_neg h,if_pos (by rw[show first+(2*r+1)+1=first+(2*r+2) by omega,h3];simp;omega),dif_pos h2]
theorem sift_bU {hi first r:Nat} {d:Array Int} (h:¬ hi<=2*r+1) (h2:¬ (2*r+2<hi/\ltInt d[first+(2*r+1)]! d[first+(2*r+2)]! = true)) :
 siftDown ltInt hi first r d=if (!ltInt d[first+r]! d[first+(2*r+1)]!)=true then d else siftDown ltInt hi first (2*r+1) (swp d (first+r) (first+(2*r+1))):=by
 rw[siftDown,dif_neg h,if_neg (by rw[show first+(2*r+1)+1=first+(2*r+2) by omega];simpa using h2)]
theorem f213 (ρ:Rho) {M:Hp} {nx k n:Nat} {sv:XV} {off:Nat->Nat} (A:ArrU k n sv off) {d:Array Int} (hM:tget M k=some (rwU d)) (hd:d.size=n) (hk:k<nx) (hn:n<=1000) {root hi first:Nat} (hb:first+hi<=n) (hr:root<=1000) :
 FOk Tryz.prog ρ 213 [sv,.int .i64 root,.int .i64 hi,.int .i64 first] M nx (SortedU nx k M (siftDown ltInt hi first root d)):=by
 refine FOk.walk (m:=76) (rs:=[]) follows Tryz.func213 (by kernel_rfl) rfl rfl rfl ?_
 conv in W _ _ _ _ _ _ _=>arg 4;whnf
 refine xt1 gy77 ?_;try exact⟨⟩
 refine W_loop (fun m s=>∃(r:Nat) (d':Array Int),tget s.env 0=some sv/\tget s.env 2=some (.int .i64 hi)/\tget s.env 3=some (.int .i64 first)/\tget s.env 8=some (.int .i64 r)/\tget s.M k=some (rwU d')/\Oth nx k M s.M/\nx<=s.nx/\InsSU hi first root n d m r d')
  (hi - root) ⟨root,d,?_⟩ ?_
 ·refine xt1 gy77 ?_;try exact⟨⟩
  exact⟨hM,Oth.refl _ _ _,by omega,by omega,rfl,hd,rfl⟩
 ·rintro m ⟨env,M1,n1⟩ ⟨r,d1,e0,e2,e3,e8,hM1,ho,hn1,h1,h2,hd1,hI⟩
  simp only at e0 e2 e3 e8 hM1 ho hn1
  have hI:=Is.mk hI
  have w1:IntKind.i64.wrap (2*(r:Int))=((2*r:Nat):Int):=by rw[wrap_i64 (by omega) (by omega)];omega
  have w2:=w_add1 (x:=2*r) (by omega)
  have w3:IntKind.i64.wrap (((2*r+1:Nat):Int)+1)=((2*r+2:Nat):Int):=w_add1 (x:=2*r+1) (by omega)
  by_cases hlt:(hi:Int)<=(2*r+1:Nat)
  ·have hI2:=hI.eq
   rw[siftDown,dif_pos (by omega)]at hI2
   have hI2:=Is.mk hI2
   refine xt9 gy77 e0 e2 e3 e8 hlt w1 w2 @SortedU.eq_1 ?_;try exact⟨⟩
   rw[<-hI2.eq]
   exact⟨⟨hM1,by omega⟩,ho,by omega⟩
  ·by_cases hc2:((2*r+2:Nat):Int)<hi
   ·have w6:=w_add (x:=first) (y:=2*r+1) (by omega)
    have w7:IntKind.i64.wrap (((first+(2*r+1):Nat):Int)+1)=((first+(2*r+2):Nat):Int):=w_add1 (x:=first+(2*r+1)) (by omega)
    have x3:=A.ix (first+(2*r+1)) (by omega)
    have x4:=A.ix (first+(2*r+2)) (by omega)
    have l3:=A.ld M1 d1 hM1 hd1 (first+(2*r+1)) (by omega)
    have l4:=A.ld M1 d1 hM1 hd1 (first+(2*r+2)) (by omega)
    refine xt16 gy77 e0 e2 e3 e8 hlt hc2 w1 w2 w3 w6 w7 x3 x4 l3 l4 ?_;try exact⟨⟩
    refine RD_gcall ?_ rfl ?_
    ·refine xt1 gy77 ?_;try exact⟨⟩
    refine xt1 gy77 ?_;try exact⟨⟩
    refine CD_sem (Csem.pure rfl rfl fun N=>f150 ρ N _ _ _) (by decide) ?_
    cases hq:ltInt d1[first+(2*r+1)]! d1[first+(2*r+2)]! with
    | true =>
      have hc:=hq
      have hI2:=hI.eq
      rw[sift_aU (by omega) (by omega) hq]at hI2
      have w4:=w_add (x:=first) (y:=r) (by omega)
      have w5:=w_add (x:=first) (y:=2*r+2) (by omega)
      have x1:=A.ix (first+r) (by omega)
      have x2:=A.ix (first+(2*r+2)) (by omega)
      have l1:=A.ld M1 d1 hM1 hd1 (first+r) (by omega)
      have l2:=A.ld M1 d1 hM1 hd1 (first+(2*r+2)) (by omega)
      refine xt13 gy77 e0 e2 e3 e8 hc w3 w4 w5 x1 x2 l1 l2 ?_;try exact⟨⟩
      clear hc hq w1 w2 w3 w6 w7 x3 x4 l3 l4
      refine CD_sem (Csem.pure rfl rfl fun N=>f150 ρ N _ _ _) (by decide) ?_
      cases hq:ltInt d1[first+r]! d1[first+(2*r+2)]! with
      | false =>
        have hc:=hq
        rw[hq,if_pos (show (!false)=true from rfl)]at hI2
        have hI2:=Is.mk hI2
        refine xt7 gy77 e0 e2 e3 e8 hc @SortedU.eq_1 ?_;try exact⟨⟩
        rw[<-hI2.eq]
        exact⟨⟨hM1,by omega⟩,ho,by omega⟩
      | true =>
        have hc:=hq
        rw[hq,if_neg (by simp)]at hI2
        have hI2:=Is.mk hI2
        have st1:=A.st M1 d1 hM1 hd1 (first+r) (by omega) d1[first+(2*r+2)]!
        have st2:=A.st (tset M1 k (rwU (d1.setIfInBounds (first+r) d1[first+(2*r+2)]!))) _ (by(repeat (first | rw[tget_tset,if_pos rfl] | rw[tget_tset,if_neg (by omega)] | rw[tget_tdel,if_neg (by omega)]));try (first | rfl | assumption)) (by simp;omega) (first+(2*r+2)) (by omega) d1[first+r]!
        refine xt14 gy77 e0 e2 e3 e8 hc w4 w5 x1 x2 l1 l2 st1 st2 ?_;try exact⟨⟩
        exact⟨hi - (2*r+2),by omega,2*r+2,swp d1 (first+r) (first+(2*r+2)),rfl,rfl,((ho.set _).set _),by omega,by omega,rfl,(by rw[swp_size];exact hd1),hI2.eq⟩
    | false =>
      have hc:=hq
      have hI2:=hI.eq
      rw[sift_bU (by omega) (fun q=>by rw[hq]at q;simp at q)]at hI2
      have w4:=w_add (x:=first) (y:=r) (by omega)
      have w5:=w_add (x:=first) (y:=2*r+1) (by omega)
      have x1:=A.ix (first+r) (by omega)
      have x2:=A.ix (first+(2*r+1)) (by omega)
      have l1:=A.ld M1 d1 hM1 hd1 (first+r) (by omega)
      have l2:=A.ld M1 d1 hM1 hd1 (first+(2*r+1)) (by omega)
      refine xt12 gy77 e0 e2 e3 e8 hc w4 w5 x1 x2 l1 l2 ?_;try exact⟨⟩
      clear hc hq w1 w2 w3 w6 w7 x3 x4 l3 l4
      refine CD_sem (Csem.pure rfl rfl fun N=>f150 ρ N _ _ _) (by decide) ?_
      cases hq:ltInt d1[first+r]! d1[first+(2*r+1)]! with
      | false =>
        have hc:=hq
        rw[hq,if_pos (show (!false)=true from rfl)]at hI2
        have hI2:=Is.mk hI2
        refine xt7 gy77 e0 e2 e3 e8 hc @SortedU.eq_1 ?_;try exact⟨⟩
        rw[<-hI2.eq]
        exact⟨⟨hM1,by omega⟩,ho,by omega⟩
      | true =>
        have hc:=hq
        rw[hq,if_neg (by simp)]at hI2
        have hI2:=Is.mk hI2
        have st1:=A.st M1 d1 hM1 hd1 (first+r) (by omega) d1[first+(2*r+1)]!
        have st2:=A.st (tset M1 k (rwU (d1.setIfInBounds (first+r) d1[first+(2*r+1)]!))) _ (by(repeat (first | rw[tget_tset,if_pos rfl] | rw[tget_tset,if_neg (by omega)] | rw[tget_tdel,if_neg (by omega)]));try (first | rfl | assumption)) (by simp;omega) (first+(2*r+1)) (by omega) d1[first+r]!
        refine xt14 gy77 e0 e2 e3 e8 hc w4 w5 x1 x2 l1 l2 st1 st2 ?_;try exact⟨⟩
        exact⟨hi - (2*r+1),by omega,2*r+1,swp d1 (first+r) (first+(2*r+1)),rfl,rfl,((ho.set _).set _),by omega,by omega,rfl,(by rw[swp_size];exact hd1),hI2.eq⟩
   ·have hI2:=hI.eq
    rw[sift_bU (by omega) (fun q=>by omega)]at hI2
    have w4:=w_add (x:=first) (y:=r) (by omega)
    have w5:=w_add (x:=first) (y:=2*r+1) (by omega)
    have x1:=A.ix (first+r) (by omega)
    have x2:=A.ix (first+(2*r+1)) (by omega)
    have l1:=A.ld M1 d1 hM1 hd1 (first+r) (by omega)
    have l2:=A.ld M1 d1 hM1 hd1 (first+(2*r+1)) (by omega)
    refine xt10 gy77 e0 e2 e3 e8 hlt hc2 w1 w2 w3 ?_;try exact⟨⟩
    refine RD_gskip ?_ (by decide) ?_
    ·refine xt1 gy77 ?_;try exact⟨⟩
    refine xt11 gy77 e0 e2 e3 e8 w4 w5 x1 x2 l1 l2 ?_;try exact⟨⟩
    clear w1 w2 w3
    refine CD_sem (Csem.pure rfl rfl fun N=>f150 ρ N _ _ _) (by decide) ?_
    cases hq:ltInt d1[first+r]! d1[first+(2*r+1)]! with
    | false =>
      have hc:=hq
      rw[hq,if_pos (show (!false)=true from rfl)]at hI2
      have hI2:=Is.mk hI2
      refine xt7 gy77 e0 e2 e3 e8 hc @SortedU.eq_1 ?_;try exact⟨⟩
      rw[<-hI2.eq]
      exact⟨⟨hM1,by omega⟩,ho,by omega⟩
    | true =>
      have hc:=hq
      rw[hq,if_neg (by simp)]at hI2
      have hI2:=Is.mk hI2
      have st1:=A.st M1 d1 hM1 hd1 (first+r) (by omega) d1[first+(2*r+1)]!
      have st2:=A.st (tset M1 k (rwU (d1.setIfInBounds (first+r) d1[first+(2*r+1)]!))) _ (by(repeat (first | rw[tget_tset,if_pos rfl] | rw[tget_tset,if_neg (by omega)] | rw[tget_tdel,if_neg (by omega)]));try (first | rfl | assumption)) (by simp;omega) (first+(2*r+1)) (by omega) d1[first+r]!
      refine xt14 gy77 e0 e2 e3 e8 hc w4 w5 x1 x2 l1 l2 st1 st2 ?_;try exact⟨⟩
      exact⟨hi - (2*r+1),by omega,2*r+1,swp d1 (first+r) (first+(2*r+1)),rfl,rfl,((ho.set _).set _),by omega,by omega,rfl,(by rw[swp_size];exact hd1),hI2.eq⟩
def InsBU (a b n:Nat) (d0:Array Int) (m kk:Nat) (d':Array Int):Prop:=kk<=1000/\m=kk/\d'.size=n/\heapPop ltInt a (b - a) (heapBuild ltInt (b - a) a kk d')=heapSort ltInt d0 a b
def InsPU (a b n:Nat) (d0:Array Int) (m kk:Nat) (d':Array Int):Prop:=kk<=b - a/\m=kk/\d'.size=n/\heapPop ltInt a kk d'=heapSort ltInt d0 a b
theorem f145 (ρ:Rho) {M:Hp} {nx k n:Nat} {sv:XV} {off:Nat->Nat} (A:ArrU k n sv off) {d:Array Int} (hM:tget M k=some (rwU d)) (hd:d.size=n) (hk:k<nx) (hn:n<=1000) {a b:Nat} (hab:a<b) (hb:b<=n) :
 FOk Tryz.prog ρ 145 [sv,.int .i64 a,.int .i64 b] M nx (SortedU nx k M (heapSort ltInt d a b)):=by
 refine FOk.walk (m:=56) (rs:=[]) follows Tryz.func145 (by kernel_rfl) rfl rfl rfl ?_
 conv in W _ _ _ _ _ _ _=>arg 4;whnf
 have w1:=w_sub (x:=b) (y:=a) (by omega) (by omega)
 have w2:=w_sub1 (x:=b - a) (by omega) (by omega)
 have w3:IntKind.i64.wrap (((b - a - 1:Nat):Int).tdiv 2)=(((b - a - 1) / 2:Nat):Int):=by
  rw[show ((b - a - 1:Nat):Int).tdiv 2=(((b - a - 1) / 2:Nat):Int) by rw[Int.tdiv_eq_ediv_of_nonneg (by omega)];omega,wrap_i64 (by omega) (by omega)]
 refine xt4 gy40 w1 w2 w3 ?_;try exact⟨⟩
 refine W_loop (fun m s=>∃(kk:Nat) (d':Array Int),tget s.env 0=some sv/\tget s.env 6=some (.int .i64 a)/\tget s.env 7=some (.int .i64 0)/\tget s.env 8=some (.int .i64 (b - a:Nat))/\tget s.env 9=some (.int .i64 ((kk:Int) - 1))/\tget s.M k=some (rwU d')/\Oth nx k M s.M/\nx<=s.nx/\InsBU a b n d m kk d')
  ((b - a - 1) / 2+1) ⟨(b - a - 1) / 2+1,d,?_⟩ ?_
 ·refine xt1 gy40 ?_;try exact⟨⟩
  exact⟨congrArg _ (by omega),hM,Oth.refl _ _ _,by omega,by omega,rfl,hd,rfl⟩
 ·rintro m ⟨env,M1,n1⟩ ⟨kk,d1,e0,e6,e7,e8,e9,hM1,ho,hn1,h1,h2,hd1,hI⟩
  simp only at e0 e6 e7 e8 e9 hM1 ho hn1
  have hI:=Is.mk hI
  by_cases hlt:(0:Int)<=(kk:Int) - 1
  ·obtain⟨kk,rfl⟩:∃k',kk=k'+1:=⟨kk - 1,by omega⟩
   have wk:((kk+1:Nat):Int) - 1=(kk:Int):=by omega
   rw[wk]at e9
   have w4:IntKind.i64.wrap ((kk:Int) - 1)=(kk:Int) - 1:=wrap_i64 (by omega) (by omega)
   have z:(0:Int)<=kk:=by omega
   refine xt7 gy40 e0 e6 e7 e8 e9 z ?_;try exact⟨⟩
   refine CN_fok (f213 ρ A hM1 hd1 (by omega) hn (root:=kk) (hi:=b - a) (first:=a) (by omega) (by omega)) ?_
   rintro⟨u,M2,n2⟩ ⟨k1,⟨k2,_⟩,k3,k4⟩
   simp only at k1 k2 k3 k4
   subst k1
   have hI2:=hI.eq
   rw[heapBuild]at hI2
   have hI2:=Is.mk hI2
   refine xt7 gy40 e0 e6 e7 e8 e9 w4 ?_;try exact⟨⟩
   exact⟨kk,by omega,kk,_,rfl,k2,ho.trans k3 (by omega),by omega,by omega,rfl,siftDown_size _ _ _ _ hd1,hI2.eq⟩
  ·have hI2:=hI.eq
   rw[show kk=0 by omega,heapBuild]at hI2
   have hI2:=Is.mk hI2
   refine xt8 gy40 e0 e6 e7 e8 e9 hlt w2 ?_;try exact⟨⟩
   refine W_loop (fun m s=>∃(kk:Nat) (d':Array Int),tget s.env 0=some sv/\tget s.env 6=some (.int .i64 a)/\tget s.env 7=some (.int .i64 0)/\tget s.env 10=some (.int .i64 ((kk:Int) - 1))/\tget s.M k=some (rwU d')/\Oth nx k M s.M/\nx<=s.nx/\InsPU a b n d m kk d')
    (b - a) ⟨b - a,d1,?_⟩ ?_
   ·refine xt6 gy40 e0 e6 e7 e8 e9 ?_;try exact⟨⟩
    exact⟨congrArg _ (by omega),hM1,ho,by omega,by omega,rfl,hd1,hI2.eq⟩
   ·clear e0 e6 e7 e8 e9 hM1 ho hn1 hI2 hI hlt h2 hd1
    rintro m ⟨env,M1,n1⟩ ⟨kk,d1,e0,e6,e7,e9,hM1,ho,hn1,h1,h2,hd1,hI⟩
    simp only at e0 e6 e7 e9 hM1 ho hn1
    have hI:=Is.mk hI
    by_cases hlt:(0:Int)<=(kk:Int) - 1
    ·obtain⟨kk,rfl⟩:∃k',kk=k'+1:=⟨kk - 1,by omega⟩
     have wk:((kk+1:Nat):Int) - 1=(kk:Int):=by omega
     rw[wk]at e9
     have w4:IntKind.i64.wrap ((kk:Int) - 1)=(kk:Int) - 1:=wrap_i64 (by omega) (by omega)
     have w5:=w_add (x:=a) (y:=kk) (by omega)
     have z:(0:Int)<=kk:=by omega
     have x1:=A.ix a (by omega)
     have x2:=A.ix (a+kk) (by omega)
     have l1:=A.ld M1 d1 hM1 hd1 a (by omega)
     have l2:=A.ld M1 d1 hM1 hd1 (a+kk) (by omega)
     have st1:=A.st M1 d1 hM1 hd1 a (by omega) d1[a+kk]!
     have st2:=A.st (tset M1 k (rwU (d1.setIfInBounds a d1[a+kk]!))) _ (by(repeat (first | rw[tget_tset,if_pos rfl] | rw[tget_tset,if_neg (by omega)] | rw[tget_tdel,if_neg (by omega)]));try (first | rfl | assumption)) (by simp;omega) (a+kk) (by omega) d1[a]!
     refine xt13 gy40 e0 e6 e7 e9 z w5 x1 x2 l1 l2 st1 st2 ?_;try exact⟨⟩
     refine CN_fok (f213 ρ A (d:=swp d1 a (a+kk)) (by(repeat (first | rw[tget_tset,if_pos rfl] | rw[tget_tset,if_neg (by omega)] | rw[tget_tdel,if_neg (by omega)]));try (first | rfl | assumption)) (by rw[swp_size];exact hd1) (by omega) hn (root:=0) (hi:=kk) (first:=a) (by omega) (by omega)) ?_
     rintro⟨u,M2,n2⟩ ⟨k1,⟨k2,_⟩,k3,k4⟩
     simp only at k1 k2 k3 k4
     subst k1
     have hI2:=hI.eq
     rw[heapPop]at hI2
     have hI2:=Is.mk hI2
     refine xt6 gy40 e0 e6 e7 e9 w4 ?_;try exact⟨⟩
     exact⟨kk,by omega,kk,_,rfl,k2,((ho.set _).set _).trans k3 (by omega),by omega,by omega,rfl,siftDown_size _ _ _ _ (by rw[swp_size];exact hd1),hI2.eq⟩
    ·have hI2:=hI.eq
     rw[show kk=0 by omega,heapPop]at hI2
     have hI2:=Is.mk hI2
     refine xt7 gy40 e0 e6 e7 e9 hlt @SortedU.eq_1 ?_;try exact⟨⟩
     rw[<-hI2.eq]
     exact⟨⟨hM1,by omega⟩,ho,by omega⟩
end
end Go.Xs
namespace Go.Xs
noncomputable section
open Go.Proofs Go.Sort
set_option maxRecDepth 100000
set_option maxHeartbeats 8000000
theorem f259 (ρ:Rho) {M:Hp} {nx k n:Nat} {sv:XV} {off:Nat->Nat} (A:ArrU k n sv off) {d:Array Int} (hM:tget M k=some (rwU d)) (hd:d.size=n) (hk:k<nx) (hn:n<=1000) {p lo up a b:Nat} {s:Int} (hp:tget M p=some (.row [.int .i64 s])) (hkp:k<p) (hpn:p<nx) (ha:lo<=a/\a<up) (hb:lo<=b/\b<up) (hu:up<=n) :
 FOk Tryz.prog ρ 259 [sv,.int .i64 a,.int .i64 b,.mp p 0] M nx (O2 nx p M lo up):=by
 have x1:=A.ix a (by omega)
 have x2:=A.ix b (by omega)
 have l1:=A.ld M d hM hd a (by omega)
 have l2:=A.ld M d hM hd b (by omega)
 refine FOk.walk (m:=28) (rs:=[.tmp 8,.tmp 9]) follows Tryz.func259 (by kernel_rfl) rfl rfl rfl ?_
 conv in W _ _ _ _ _ _ _=>arg 4;whnf
 refine xt5 gy40 x1 x2 l1 l2 ?_;try exact⟨⟩
 refine CD_sem (Csem.pure rfl rfl fun N=>f150 ρ N _ _ _) (by decide) ?_
 cases hq:ltInt d[b]! d[a]! with
 | true =>
   have hc:=hq
   refine xt4 gy40 hc hp @O2.eq_1 ?_;try exact⟨⟩
   exact⟨b,a,IntKind.i64.wrap (s+1),rfl,by omega,(by(repeat (first | rw[tget_tset,if_pos rfl] | rw[tget_tset,if_neg (by omega)] | rw[tget_tdel,if_neg (by omega)]));try (first | rfl | assumption)),(Oth.refl _ _ _).set _,by omega⟩
 | false =>
   have hc:=hq
   refine xt4 gy40 hc hp @O2.eq_1 ?_;try exact⟨⟩
   exact⟨a,b,s,rfl,by omega,rfl,Oth.refl _ _ _,by omega⟩
theorem f215 (ρ:Rho) {M:Hp} {nx k n:Nat} {sv:XV} {off:Nat->Nat} (A:ArrU k n sv off) {d:Array Int} (hM:tget M k=some (rwU d)) (hd:d.size=n) (hk:k<nx) (hn:n<=1000) {p lo up a b c:Nat} {s:Int} (hp:tget M p=some (.row [.int .i64 s])) (hkp:k<p) (hpn:p<nx) (ha:lo<=a/\a<up) (hb:lo<=b/\b<up) (hc:lo<=c/\c<up) (hu:up<=n) :
 FOk Tryz.prog ρ 215 [sv,.int .i64 a,.int .i64 b,.int .i64 c,.mp p 0] M nx (O1 nx p M lo up):=by
 refine FOk.walk (m:=36) (rs:=[.tmp 10]) follows Tryz.func215 (by kernel_rfl) rfl rfl rfl ?_
 conv in W _ _ _ _ _ _ _=>arg 4;whnf
 refine xt0 ?_;try exact⟨⟩
 refine CN_fok (f259 ρ A hM hd (by omega) hn hp hkp (by omega) ha hb hu) ?_
 rintro⟨u,M1,n1⟩ ⟨a1,b1,s1,g1,g2,g3,g4,g5⟩
 simp only at g1 g3 g4 g5
 subst g1
 refine xt0 ?_;try exact⟨⟩
 refine CN_fok (f259 ρ A (g4.get (by omega) hkp hM) hd (by omega) hn g3 hkp (by omega) (lo:=lo) (up:=up) (by omega) hc hu) ?_
 rintro⟨u,M2,n2⟩ ⟨b2,c2,s2,k1,k2,k3,k4,k5⟩
 simp only at k1 k3 k4 k5
 subst k1
 have o2:Oth nx p M M2:=fun j hj hne=>(k4 j (by omega) hne).trans (g4 j (by omega) hne)
 clear g3
 refine xt0 ?_;try exact⟨⟩
 refine CN_fok (f259 ρ A (o2.get (by omega) hkp hM) hd (by omega) hn k3 hkp (by omega) (lo:=lo) (up:=up) (by omega) (by omega) hu) ?_
 rintro⟨u,M3,n3⟩ ⟨a3,b3,s3,j1,j2,j3,j4,j5⟩
 simp only at j1 j3 j4 j5
 subst j1
 have o3:Oth nx p M M3:=fun j hj hne=>(j4 j (by omega) hne).trans (o2 j (by omega) hne)
 clear k3 k4 g4
 refine xt1 @O1.eq_1 ?_;try exact⟨⟩
 exact⟨b3,s3,rfl,by omega,j3,o3,by omega⟩
theorem f214 (ρ:Rho) {M:Hp} {nx k n:Nat} {sv:XV} {off:Nat->Nat} (A:ArrU k n sv off) {d:Array Int} (hM:tget M k=some (rwU d)) (hd:d.size=n) (hk:k<nx) (hn:n<=1000) {p lo up a:Nat} {s:Int} (hp:tget M p=some (.row [.int .i64 s])) (hkp:k<p) (hpn:p<nx) (ha:lo+1<=a/\a+1<up) (hu:up<=n) :
 FOk Tryz.prog ρ 214 [sv,.int .i64 a,.mp p 0] M nx (O1 nx p M lo up):=by
 have w1:=w_sub1 (x:=a) (by omega) (by omega)
 have w2:=w_add1 (x:=a) (by omega)
 refine FOk.walk (m:=15) (rs:=[.tmp 6]) follows Tryz.func214 (by kernel_rfl) rfl rfl rfl ?_
 conv in W _ _ _ _ _ _ _=>arg 4;whnf
 refine xt3 gy5 w1 w2 ?_;try exact⟨⟩
 refine CN_fok (f215 ρ A hM hd (by omega) hn hp hkp (by omega) (lo:=lo) (up:=up) (by omega) (by omega) (by omega) hu) ?_
 rintro⟨u,M1,n1⟩ ⟨a1,s1,g1,g2,g3,g4,g5⟩
 simp only at g1 g3 g4 g5
 subst g1
 refine xt2 gy5 @O1.eq_1 ?_;try exact⟨⟩
 exact⟨a1,s1,rfl,by omega,g3,fun j hj hne=>g4 j (by omega) hne,by omega⟩
theorem f147 (ρ:Rho) {M:Hp} {nx k n:Nat} {sv:XV} {off:Nat->Nat} (A:ArrU k n sv off) {d:Array Int} (hM:tget M k=some (rwU d)) (hd:d.size=n) (hk:k<nx) (hn:n<=1000) {a b:Nat} (hab:a<b) (hb:b<=n) :
 FOk Tryz.prog ρ 147 [sv,.int .i64 a,.int .i64 b] M nx (PivP nx M a b):=by
 obtain⟨q,hq⟩:∃q,q=(b - a) / 4:=⟨_,rfl⟩
 have w1:=w_sub (x:=b) (y:=a) (by omega) (by omega)
 have w2:IntKind.i64.wrap (((b - a:Nat):Int).tdiv 4)=(q:Int):=by
  rw[show ((b - a:Nat):Int).tdiv 4=(q:Int) by rw[Int.tdiv_eq_ediv_of_nonneg (by omega)];omega,wrap_i64 (by omega) (by omega)]
 have w3:IntKind.i64.wrap ((q:Int)*1)=(q:Int):=by rw[wrap_i64 (by omega) (by omega)];omega
 have w4:IntKind.i64.wrap ((q:Int)*2)=((2*q:Nat):Int):=by rw[wrap_i64 (by omega) (by omega)];omega
 have w5:IntKind.i64.wrap ((q:Int)*3)=((3*q:Nat):Int):=by rw[wrap_i64 (by omega) (by omega)];omega
 have w6:=w_add (x:=a) (y:=q) (by omega)
 have w7:=w_add (x:=a) (y:=2*q) (by omega)
 have w8:=w_add (x:=a) (y:=3*q) (by omega)
 refine FOk.walk (m:=57) (rs:=[.tmp 6,.tmp 7]) follows Tryz.func147 (by kernel_rfl) rfl rfl rfl ?_
 conv in W _ _ _ _ _ _ _=>arg 4;whnf
 by_cases h8:(8:Int)<=(b - a:Nat)
 ·by_cases h50:(50:Int)<=(b - a:Nat)
  ·refine xt11 gy5 w1 w2 w3 w4 w5 w6 w7 w8 h8 h50 ?_;try exact⟨⟩
   generalize hM1:tset M _ _=M1
   have a1:Agr nx M M1:=by rw[<-hM1];exact(by(repeat (refine Agr.set ?_ (by omega) _));exact Agr.refl _ _)
   obtain⟨P,hP⟩:∃P,P=(nx+6):=⟨_,rfl⟩
   have z1:tget M1 (nx+6)=some (.row [.int .i64 0]):=by rw[<-hM1];exact(by(repeat (first | rw[tget_tset,if_pos rfl] | rw[tget_tset,if_neg (by omega)] | rw[tget_tdel,if_neg (by omega)]));try (first | rfl | assumption))
   rw[<-hP]at z1 ⊢
   clear hM1
   refine CN_fok (f214 ρ A ((a1 k hk).trans hM) hd (by omega) hn z1 (by omega) (by omega) (lo:=a) (up:=b) (by omega) hb) ?_
   rintro⟨u,M2,n2⟩ ⟨i2,s2,g1,g2,g3,g4,g5⟩
   simp only at g1 g3 g4 g5
   subst g1
   have a2:Agr nx M M2:=a1.trans (g4.below (by omega) (by omega))
   clear g4
   refine xt1 gy5 ?_;try exact⟨⟩
   refine CN_fok (f214 ρ A ((a2 k hk).trans hM) hd (by omega) hn g3 (by omega) (by omega) (lo:=a) (up:=b) (by omega) hb) ?_
   rintro⟨u,M3,n3⟩ ⟨i3,s3,k1,k2,k3,k4,k5⟩
   simp only at k1 k3 k4 k5
   subst k1
   have a3:Agr nx M M3:=a2.trans (k4.below (by omega) (by omega))
   clear k4 g3
   refine xt1 gy5 ?_;try exact⟨⟩
   refine CN_fok (f214 ρ A ((a3 k hk).trans hM) hd (by omega) hn k3 (by omega) (by omega) (lo:=a) (up:=b) (by omega) hb) ?_
   rintro⟨u,M4,n4⟩ ⟨i4,s4,j1,j2,j3,j4,j5⟩
   simp only at j1 j3 j4 j5
   subst j1
   have a4:Agr nx M M4:=a3.trans (j4.below (by omega) (by omega))
   clear j4 k3
   refine xt1 gy5 ?_;try exact⟨⟩
   refine CN_fok (f215 ρ A ((a4 k hk).trans hM) hd (by omega) hn j3 (by omega) (by omega) (lo:=a) (up:=b) (by omega) (by omega) (by omega) hb) ?_
   rintro⟨u,M5,n5⟩ ⟨i5,s5,f1,f2,f3,f4,f5⟩
   simp only at f1 f3 f4 f5
   subst f1
   have a5:Agr nx M M5:=a4.trans (f4.below (by omega) (by omega))
   clear f4 j3
   by_cases h0:s5=0
   ·refine xt4 gy5 f3 h0 @PivP.eq_1 ?_;try exact⟨⟩
    exact⟨i5,1,rfl,by omega,a5,by omega⟩
   ·by_cases h12:s5=12
    ·refine xt5 gy5 f3 h0 h12 @PivP.eq_1 ?_;try exact⟨⟩
     exact⟨i5,2,rfl,by omega,a5,by omega⟩
    ·refine xt5 gy5 f3 h0 h12 @PivP.eq_1 ?_;try exact⟨⟩
     exact⟨i5,0,rfl,by omega,a5,by omega⟩
  ·refine xt11 gy5 w1 w2 w3 w4 w5 w6 w7 w8 h8 h50 ?_;try exact⟨⟩
   generalize hM1:tset M _ _=M1
   have a1:Agr nx M M1:=by rw[<-hM1];exact(by(repeat (refine Agr.set ?_ (by omega) _));exact Agr.refl _ _)
   obtain⟨P,hP⟩:∃P,P=(nx+6):=⟨_,rfl⟩
   have z1:tget M1 (nx+6)=some (.row [.int .i64 0]):=by rw[<-hM1];exact(by(repeat (first | rw[tget_tset,if_pos rfl] | rw[tget_tset,if_neg (by omega)] | rw[tget_tdel,if_neg (by omega)]));try (first | rfl | assumption))
   rw[<-hP]at z1 ⊢
   clear hM1
   refine CN_fok (f215 ρ A ((a1 k hk).trans hM) hd (by omega) hn z1 (by omega) (by omega) (lo:=a) (up:=b) (by omega) (by omega) (by omega) hb) ?_
   rintro⟨u,M5,n5⟩ ⟨i5,s5,f1,f2,f3,f4,f5⟩
   simp only at f1 f3 f4 f5
   subst f1
   have a5:Agr nx M M5:=a1.trans (f4.below (by omega) (by omega))
   clear f4 z1
   by_cases h0:s5=0
   ·refine xt4 gy5 f3 h0 @PivP.eq_1 ?_;try exact⟨⟩
    exact⟨i5,1,rfl,by omega,a5,by omega⟩
   ·by_cases h12:s5=12
    ·refine xt5 gy5 f3 h0 h12 @PivP.eq_1 ?_;try exact⟨⟩
     exact⟨i5,2,rfl,by omega,a5,by omega⟩
    ·refine xt5 gy5 f3 h0 h12 @PivP.eq_1 ?_;try exact⟨⟩
     exact⟨i5,0,rfl,by omega,a5,by omega⟩
 ·refine xt11 gy5 w1 w2 w3 w4 w5 w6 w7 w8 h8 @PivP.eq_1 ?_;try exact⟨⟩
  exact⟨a+2*q,1,rfl,by omega,(by(repeat (refine Agr.set ?_ (by omega) _));exact Agr.refl _ _),by omega⟩
end
end Go.Xs
namespace Go.Xs
noncomputable section
open Go.Proofs Go.Sort
set_option maxRecDepth 100000
set_option maxHeartbeats 8000000
def InsEU (a b n:Nat) (R:Nat×Array Int) (m i j:Nat) (d':Array Int):Prop:=a<i/\i<=j+1/\j<b/\m=j+1 - i/\d'.size=n/\partEqLoop ltInt a i j d'=R
theorem f151 (ρ:Rho) {M:Hp} {nx k n:Nat} {sv:XV} {off:Nat->Nat} (A:ArrU k n sv off) {d:Array Int} (hM:tget M k=some (rwU d)) (hd:d.size=n) (hk:k<nx) (hn:n<=1000) {a b pivot:Nat} (hap:a<=pivot) (hpb:pivot<b) (hb:b<=n) :
 FOk Tryz.prog ρ 151 [sv,.int .i64 a,.int .i64 b,.int .i64 pivot] M nx (ParU nx k M (.int .i64 ((partitionEqual ltInt d a b pivot).1:Nat)) (partitionEqual ltInt d a b pivot).2):=by
 obtain⟨R,hR⟩:∃R,R=partitionEqual ltInt d a b pivot:=⟨_,rfl⟩
 rw[<-hR]
 have w1:=w_add1 (x:=a) (by omega)
 have w2:=w_sub1 (x:=b) (by omega) (by omega)
 have y1:=A.ix (a) (by omega)
 have y2:=A.ix (pivot) (by omega)
 have k1:=A.ld M d hM hd (a) (by omega)
 have k2:=A.ld M d hM hd (pivot) (by omega)
 have st1:=A.st M d hM hd (a) (by omega) d[pivot]!
 have st2:=A.st (tset M k (rwU (d.setIfInBounds (a) d[pivot]!))) _ (by(repeat (first | rw[tget_tset,if_pos rfl] | rw[tget_tset,if_neg (by omega)] | rw[tget_tdel,if_neg (by omega)]));try (first | rfl | assumption)) (by simp;omega) (pivot) (by omega) d[a]!
 refine FOk.walk (m:=84) (rs:=[.tmp 8]) follows Tryz.func151 (by kernel_rfl) rfl rfl rfl ?_
 conv in W _ _ _ _ _ _ _=>arg 4;whnf
 refine xt9 gy77 w1 w2 y1 y2 k1 k2 st1 st2 ?_;try exact⟨⟩
 refine W_loop (fun m s=>∃(i j:Nat) (d1:Array Int),tget s.env 0=some sv/\tget s.env 1=some (.int .i64 a)/\tget s.env 9=some (.int .i64 i)/\tget s.env 10=some (.int .i64 j)/\tget s.M k=some (rwU d1)/\Oth nx k M s.M/\nx<=s.nx/\InsEU a b n R m i j d1)
  (b - 1+1 - (a+1)) ⟨a+1,b - 1,swp d a pivot,?_⟩ ?_
 ·refine xt1 gy77 ?_;try exact⟨⟩
  exact⟨rfl,((Oth.refl _ _ _).set _).set _,by omega,by omega,by omega,by omega,rfl,(by rw[swp_size];exact hd),hR.symm⟩
 ·clear y1 y2 k1 k2 st1 st2 w1 w2 hR
  rintro m ⟨env,M1,n1⟩ ⟨i,j,d1,e0,e1,ei,ej,hM1,ho,hn1,h1,h2,h4,h3,hd1,hI⟩
  simp only at e0 e1 ei ej hM1 ho hn1
  obtain⟨i2,hi2⟩:∃q,q=scanUp (fun x=>!ltInt d1[a]! x) d1 j i:=⟨_,rfl⟩
  obtain⟨j2,hj2⟩:∃q,q=scanDown (fun x=>ltInt d1[a]! x) d1 i2 j:=⟨_,rfl⟩
  obtain⟨b1,b2,b3,b4,b5⟩:=scans (fun x=>by simp) (by omega) h2 hi2 hj2
  rw[partEqLoop_eq,<-hi2,<-hj2]at hI
  have hI:=Is.mk hI
  have hi2:=Is.mk hi2
  have hj2:=Is.mk hj2
  refine xt5 gy77 ei ej e0 e1 ?_;try exact⟨⟩
  refine W_loop_cut (fun m2 s=>∃i':Nat,tget s.env 0=some sv/\tget s.env 1=some (.int .i64 a)/\tget s.env 9=some (.int .i64 i')/\tget s.env 10=some (.int .i64 j)/\tget s.M k=some (rwU d1)/\Oth nx k M s.M/\nx<=s.nx/\ScU (fun x=>!ltInt d1[a]! x) d1 i j i' m2) (j+1 - i) (fun s=>tget s.env 0=some sv/\tget s.env 1=some (.int .i64 a)/\tget s.env 9=some (.int .i64 i2)/\tget s.env 10=some (.int .i64 j)/\tget s.M k=some (rwU d1)/\Oth nx k M s.M/\nx<=s.nx) ⟨i,?_⟩ ?_ ?_
  ·refine xt5 gy77 ei ej e0 e1 ?_;try exact⟨⟩
   exact⟨hM1,ho,by omega,by omega,by omega,rfl,rfl⟩
  ·clear ei ej e0 e1
   rintro m2 ⟨env,M2,n2⟩ ⟨i',e0,e1,ei,ej,hM2,ho2,hn2,c1,c2,c3,c4⟩
   simp only at ei ej e0 e1 hM2 ho2 hn2
   have c4:=Is.mk c4
   by_cases hij:(i':Int)<=j
   ·have x1:=A.ix a (by omega)
    have x2:=A.ix i' (by omega)
    have l1:=A.ld M2 d1 hM2 hd1 a (by omega)
    have l2:=A.ld M2 d1 hM2 hd1 i' (by omega)
    have wi:=w_add1 (x:=i') (by omega)
    refine xt10 gy77 ei ej hij x1 x2 l1 l2 e0 e1 ?_;try exact⟨⟩
    refine RD_gcall ?_ rfl ?_
    ·refine xt1 gy77 ?_;try exact⟨⟩
    refine xt1 gy77 ?_;try exact⟨⟩
    refine CD_sem (Csem.pure rfl rfl fun N=>f150 ρ N _ _ _) (by decide) ?_
    cases hq:ltInt d1[a]! d1[i']! with
    | false =>
      have hc:=hq
      have c5:scanUp (fun x=>!ltInt d1[a]! x) d1 j (i'+1)=scanUp (fun x=>!ltInt d1[a]! x) d1 j i:=by rw[<-c4.eq,scanUp_step (i:=i') (by omega) (by simp[hq])]
      have c5:=Is.mk c5
      refine xt7 gy77 ei ej hc wi e0 e1 ?_;try exact⟨⟩
      exact⟨j+1 - (i'+1),by omega,i'+1,rfl,hM2,ho2,by omega,by omega,by omega,rfl,c5.eq⟩
    | true =>
      have hc:=hq
      have c5:i'=i2:=by rw[hi2.eq,<-c4.eq,scanUp_stop (.inr (by simp[hq]))]
      have c6:=Is.mk c5
      clear c5
      refine xt6 gy77 ei ej hc e0 e1 ?_;try exact⟨⟩
      rw[c6.eq]
      exact⟨rfl,hM2,ho2,by omega⟩
   ·have c5:i'=i2:=by rw[hi2.eq,<-c4.eq,scanUp_stop (.inl (by omega))]
    have c6:=Is.mk c5
    clear c5
    refine xt6 gy77 ei ej hij e0 e1 ?_;try exact⟨⟩
    refine RD_gskip ?_ (by decide) ?_
    ·refine xt1 gy77 ?_;try exact⟨⟩
    refine xt6 gy77 ei ej hij e0 e1 ?_;try exact⟨⟩
    rw[c6.eq]
    exact⟨rfl,hM2,ho2,by omega⟩
  ·clear ei ej e0 e1 hM1 ho hn1
   rintro⟨env,M1,n1⟩ ⟨e0,e1,ei,ej,hM1,ho,hn1⟩
   simp only at ei ej e0 e1 hM1 ho hn1
   refine xt5 gy77 ei ej e0 e1 ?_;try exact⟨⟩
   refine W_loop_cut (fun m2 s=>∃j':Nat,tget s.env 0=some sv/\tget s.env 1=some (.int .i64 a)/\tget s.env 9=some (.int .i64 i2)/\tget s.env 10=some (.int .i64 j')/\tget s.M k=some (rwU d1)/\Oth nx k M s.M/\nx<=s.nx/\ScD (fun x=>ltInt d1[a]! x) d1 i2 j j' m2) j (fun s=>tget s.env 0=some sv/\tget s.env 1=some (.int .i64 a)/\tget s.env 9=some (.int .i64 i2)/\tget s.env 10=some (.int .i64 j2)/\tget s.M k=some (rwU d1)/\Oth nx k M s.M/\nx<=s.nx) ⟨j,?_⟩ ?_ ?_
   ·refine xt5 gy77 ei ej e0 e1 ?_;try exact⟨⟩
    exact⟨hM1,ho,by omega,by omega,by omega,rfl,rfl⟩
   ·clear ei ej e0 e1
    rintro m2 ⟨env,M2,n2⟩ ⟨j',e0,e1,ei,ej,hM2,ho2,hn2,c1,c2,c3,c4⟩
    simp only at ei ej e0 e1 hM2 ho2 hn2
    have c4:=Is.mk c4
    by_cases hij:(i2:Int)<=j'
    ·obtain⟨j',rfl⟩:∃q,j'=q+1:=⟨j' - 1,by omega⟩
     have x1:=A.ix a (by omega)
     have x2:=A.ix (j'+1) (by omega)
     have l1:=A.ld M2 d1 hM2 hd1 a (by omega)
     have l2:=A.ld M2 d1 hM2 hd1 (j'+1) (by omega)
     have wj:=w_sub1' (x:=j') (by omega)
     refine xt10 gy77 ei ej hij x1 x2 l1 l2 e0 e1 ?_;try exact⟨⟩
     refine RD_gcall ?_ rfl ?_
     ·refine xt1 gy77 ?_;try exact⟨⟩
     refine xt1 gy77 ?_;try exact⟨⟩
     refine CD_sem (Csem.pure rfl rfl fun N=>f150 ρ N _ _ _) (by decide) ?_
     cases hq:ltInt d1[a]! d1[j'+1]! with
     | true =>
       have hc:=hq
       have c5:scanDown (fun x=>ltInt d1[a]! x) d1 i2 j'=scanDown (fun x=>ltInt d1[a]! x) d1 i2 j:=by rw[<-c4.eq,scanDown_step (j:=j') (by omega) (by simp[hq])]
       have c5:=Is.mk c5
       refine xt7 gy77 ei ej hc wj e0 e1 ?_;try exact⟨⟩
       exact⟨j',by omega,j',rfl,hM2,ho2,by omega,by omega,by omega,rfl,c5.eq⟩
     | false =>
       have hc:=hq
       have c5:j'+1=j2:=by rw[hj2.eq,<-c4.eq,scanDown_stop (.inr (by simp[hq]))]
       have c6:=Is.mk c5
       clear c5
       refine xt6 gy77 ei ej hc e0 e1 ?_;try exact⟨⟩
       rw[c6.eq]
       exact⟨rfl,hM2,ho2,by omega⟩
    ·have c5:j'=j2:=by rw[hj2.eq,<-c4.eq,scanDown_stop (.inl (by omega))]
     have c6:=Is.mk c5
     clear c5
     refine xt6 gy77 ei ej hij e0 e1 ?_;try exact⟨⟩
     refine RD_gskip ?_ (by decide) ?_
     ·refine xt1 gy77 ?_;try exact⟨⟩
     refine xt6 gy77 ei ej hij e0 e1 ?_;try exact⟨⟩
     rw[c6.eq]
     exact⟨rfl,hM2,ho2,by omega⟩
   ·clear ei ej e0 e1 hM1 ho hn1
    rintro⟨env,M1,n1⟩ ⟨e0,e1,ei,ej,hM1,ho,hn1⟩
    simp only at ei ej e0 e1 hM1 ho hn1
    by_cases hgt:(j2:Int)<i2
    ·have hI2:=hI.eq
     rw[if_pos (by omega)]at hI2
     rw[<-hI2]
     clear hI hI2 hi2 hj2
     refine xt7 gy77 ei ej hgt @ParU.eq_1 e0 e1 ?_;try exact⟨⟩
     exact⟨⟨hM1,by omega⟩,ho,by omega⟩
    ·have hI2:=hI.eq
     rw[if_neg (by omega)]at hI2
     have hI2:=Is.mk hI2
     clear hI hi2 hj2
     have b6:=b5 (by omega)
     have w1:=w_add1 (x:=i2) (by omega)
     have w2:=w_sub1 (x:=j2) (by omega) (by omega)
     have y1:=A.ix (i2) (by omega)
     have y2:=A.ix (j2) (by omega)
     have k1:=A.ld M1 d1 hM1 hd1 (i2) (by omega)
     have k2:=A.ld M1 d1 hM1 hd1 (j2) (by omega)
     have st1:=A.st M1 d1 hM1 hd1 (i2) (by omega) d1[j2]!
     have st2:=A.st (tset M1 k (rwU (d1.setIfInBounds (i2) d1[j2]!))) _ (by(repeat (first | rw[tget_tset,if_pos rfl] | rw[tget_tset,if_neg (by omega)] | rw[tget_tdel,if_neg (by omega)]));try (first | rfl | assumption)) (by simp;omega) (j2) (by omega) d1[i2]!
     refine xt14 gy77 ei ej hgt w1 w2 y1 y2 k1 k2 st1 st2 e0 e1 ?_;try exact⟨⟩
     exact⟨j2 - 1+1 - (i2+1),by omega,i2+1,j2 - 1,swp d1 i2 j2,rfl,rfl,rfl,((ho.set _).set _),by omega,by omega,by omega,by omega,rfl,(by rw[swp_size];exact hd1),hI2.eq⟩
end
end Go.Xs
namespace Go.Xs
noncomputable section
open Go.Proofs Go.Sort
set_option maxRecDepth 100000
set_option maxHeartbeats 8000000
def InsQU (a b n:Nat) (R:Nat×Array Int) (m i j:Nat) (d':Array Int):Prop:=a<i/\i<=j+1/\j<b/\m=j+1 - i/\d'.size=n/\partLoop ltInt a i j d'=R
theorem f152 (ρ:Rho) {M:Hp} {nx k n:Nat} {sv:XV} {off:Nat->Nat} (A:ArrU k n sv off) {d:Array Int} (hM:tget M k=some (rwU d)) (hd:d.size=n) (hk:k<nx) (hn:n<=1000) {a b pivot:Nat} (hap:a<=pivot) (hpb:pivot<b) (hb:b<=n) :
 FOk Tryz.prog ρ 152 [sv,.int .i64 a,.int .i64 b,.int .i64 pivot] M nx (ParU nx k M (.tup [.int .i64 ((partition ltInt d a b pivot).1:Nat),.bool (partition ltInt d a b pivot).2.1]) (partition ltInt d a b pivot).2.2):=by
 obtain⟨R,hR⟩:∃R,R=partition ltInt d a b pivot:=⟨_,rfl⟩
 rw[<-hR]
 obtain⟨d1,hd1e⟩:∃q,q=swp d a pivot:=⟨_,rfl⟩
 obtain⟨i,hi⟩:∃q,q=a+1:=⟨_,rfl⟩
 obtain⟨j,hj⟩:∃q,q=b - 1:=⟨_,rfl⟩
 obtain⟨i2,hi2⟩:∃q,q=scanUp (fun x=>ltInt x d1[a]!) d1 j i:=⟨_,rfl⟩
 obtain⟨j2,hj2⟩:∃q,q=scanDown (fun x=>!ltInt x d1[a]!) d1 i2 j:=⟨_,rfl⟩
 have hd1:d1.size=n:=by rw[hd1e,swp_size];exact hd
 obtain⟨b1,b2,b3,b4,b5⟩:=scans (fun x=>rfl) (by omega) (by omega) hi2 hj2
 have hR2:R=if i2>j2 then (j2,true,swp d1 j2 a) else ((partLoop ltInt a (i2+1) (j2 - 1) (swp d1 i2 j2)).1,false,swp (partLoop ltInt a (i2+1) (j2 - 1) (swp d1 i2 j2)).2 (partLoop ltInt a (i2+1) (j2 - 1) (swp d1 i2 j2)).1 a):=by
  subst hj2;subst hi2;subst hd1e;subst hi;subst hj
  exact hR
 have hR2:=Is.mk hR2
 have w1:IntKind.i64.wrap ((a:Int)+1)=(i:Int):=by rw[wrap_i64 (by omega) (by omega)];omega
 have w2:IntKind.i64.wrap ((b:Int) - 1)=(j:Int):=by rw[wrap_i64 (by omega) (by omega)];omega
 have y1:=A.ix (a) (by omega)
 have y2:=A.ix (pivot) (by omega)
 have k1:=A.ld M d hM hd (a) (by omega)
 have k2:=A.ld M d hM hd (pivot) (by omega)
 have st1:=A.st M d hM hd (a) (by omega) d[pivot]!
 have st2:=A.st (tset M k (rwU (d.setIfInBounds (a) d[pivot]!))) _ (by(repeat (first | rw[tget_tset,if_pos rfl] | rw[tget_tset,if_neg (by omega)] | rw[tget_tdel,if_neg (by omega)]));try (first | rfl | assumption)) (by simp;omega) (pivot) (by omega) d[a]!
 have hM0:rwU ((d.setIfInBounds a d[pivot]!).setIfInBounds pivot d[a]!)=rwU d1:=by rw[hd1e];rfl
 have hi2:=Is.mk hi2
 have hj2:=Is.mk hj2
 have hR:=Is.mk hR
 have hd1e:=Is.mk hd1e
 refine FOk.walk (m:=168) (rs:=[.tmp 8,.tmp 9]) follows Tryz.func152 (by kernel_rfl) rfl rfl rfl ?_
 conv in W _ _ _ _ _ _ _=>arg 4;whnf
 refine xt9 gy77 w1 w2 y1 y2 k1 k2 st1 st2 ?_;try exact⟨⟩
 refine W_gen (fun s=>tget s.env 0=some sv/\tget s.env 1=some (.int .i64 a)/\tget s.env 10=some (.int .i64 i)/\tget s.env 11=some (.int .i64 j)/\tget s.M k=some (rwU d1)/\Oth nx k M s.M/\nx<=s.nx) ?_ ?_
 ·refine xt2 gy77 hM0 ?_;try exact⟨⟩
  exact⟨((Oth.refl _ _ _).set _).set _,by omega⟩
 clear y1 y2 k1 k2 st1 st2 w1 w2 hM0 hR hd1e hM hd
 rintro⟨env,M1,n1⟩ ⟨e0,e1,ei,ej,hM1,ho,hn1⟩
 simp only at e0 e1 ei ej hM1 ho hn1
 refine W_loop_cut (fun m2 s=>∃i':Nat,tget s.env 0=some sv/\tget s.env 1=some (.int .i64 a)/\tget s.env 10=some (.int .i64 i')/\tget s.env 11=some (.int .i64 j)/\tget s.M k=some (rwU d1)/\Oth nx k M s.M/\nx<=s.nx/\ScU (fun x=>ltInt x d1[a]!) d1 i j i' m2) (j+1 - i) (fun s=>tget s.env 0=some sv/\tget s.env 1=some (.int .i64 a)/\tget s.env 10=some (.int .i64 i2)/\tget s.env 11=some (.int .i64 j)/\tget s.M k=some (rwU d1)/\Oth nx k M s.M/\nx<=s.nx) ⟨i,?_⟩ ?_ ?_
 ·refine xt5 gy77 ei ej e0 e1 ?_;try exact⟨⟩
  exact⟨hM1,ho,by omega,by omega,by omega,rfl,rfl⟩
 ·clear ei ej e0 e1
  rintro m2 ⟨env,M2,n2⟩ ⟨i',e0,e1,ei,ej,hM2,ho2,hn2,c1,c2,c3,c4⟩
  simp only at ei ej e0 e1 hM2 ho2 hn2
  have c4:=Is.mk c4
  by_cases hij:(i':Int)<=j
  ·have x1:=A.ix a (by omega)
   have x2:=A.ix i' (by omega)
   have l1:=A.ld M2 d1 hM2 hd1 a (by omega)
   have l2:=A.ld M2 d1 hM2 hd1 i' (by omega)
   have wi:=w_add1 (x:=i') (by omega)
   refine xt10 gy77 ei ej hij x1 x2 l1 l2 e0 e1 ?_;try exact⟨⟩
   refine RD_gcall ?_ rfl ?_
   ·refine xt1 gy77 ?_;try exact⟨⟩
   refine xt1 gy77 ?_;try exact⟨⟩
   refine CD_sem (Csem.pure rfl rfl fun N=>f150 ρ N _ _ _) (by decide) ?_
   cases hq:ltInt d1[i']! d1[a]! with
   | true =>
     have hc:=hq
     have c5:scanUp (fun x=>ltInt x d1[a]!) d1 j (i'+1)=scanUp (fun x=>ltInt x d1[a]!) d1 j i:=by rw[<-c4.eq,scanUp_step (i:=i') (by omega) (by simp[hq])]
     have c5:=Is.mk c5
     refine xt7 gy77 ei ej hc wi e0 e1 ?_;try exact⟨⟩
     exact⟨j+1 - (i'+1),by omega,i'+1,rfl,hM2,ho2,by omega,by omega,by omega,rfl,c5.eq⟩
   | false =>
     have hc:=hq
     have c5:i'=i2:=by rw[hi2.eq,<-c4.eq,scanUp_stop (.inr (by simp[hq]))]
     have c6:=Is.mk c5
     clear c5
     refine xt6 gy77 ei ej hc e0 e1 ?_;try exact⟨⟩
     rw[c6.eq]
     exact⟨rfl,hM2,ho2,by omega⟩
  ·have c5:i'=i2:=by rw[hi2.eq,<-c4.eq,scanUp_stop (.inl (by omega))]
   have c6:=Is.mk c5
   clear c5
   refine xt6 gy77 ei ej hij e0 e1 ?_;try exact⟨⟩
   refine RD_gskip ?_ (by decide) ?_
   ·refine xt1 gy77 ?_;try exact⟨⟩
   refine xt6 gy77 ei ej hij e0 e1 ?_;try exact⟨⟩
   rw[c6.eq]
   exact⟨rfl,hM2,ho2,by omega⟩
 ·clear ei ej e0 e1 hM1 ho hn1
  rintro⟨env,M1,n1⟩ ⟨e0,e1,ei,ej,hM1,ho,hn1⟩
  simp only at ei ej e0 e1 hM1 ho hn1
  refine xt5 gy77 ei ej e0 e1 ?_;try exact⟨⟩
  refine W_loop_cut (fun m2 s=>∃j':Nat,tget s.env 0=some sv/\tget s.env 1=some (.int .i64 a)/\tget s.env 10=some (.int .i64 i2)/\tget s.env 11=some (.int .i64 j')/\tget s.M k=some (rwU d1)/\Oth nx k M s.M/\nx<=s.nx/\ScD (fun x=>!ltInt x d1[a]!) d1 i2 j j' m2) j (fun s=>tget s.env 0=some sv/\tget s.env 1=some (.int .i64 a)/\tget s.env 10=some (.int .i64 i2)/\tget s.env 11=some (.int .i64 j2)/\tget s.M k=some (rwU d1)/\Oth nx k M s.M/\nx<=s.nx) ⟨j,?_⟩ ?_ ?_
  ·refine xt5 gy77 ei ej e0 e1 ?_;try exact⟨⟩
   exact⟨hM1,ho,by omega,by omega,by omega,rfl,rfl⟩
  ·clear ei ej e0 e1
   rintro m2 ⟨env,M2,n2⟩ ⟨j',e0,e1,ei,ej,hM2,ho2,hn2,c1,c2,c3,c4⟩
   simp only at ei ej e0 e1 hM2 ho2 hn2
   have c4:=Is.mk c4
   by_cases hij:(i2:Int)<=j'
   ·obtain⟨j',rfl⟩:∃q,j'=q+1:=⟨j' - 1,by omega⟩
    have x1:=A.ix a (by omega)
    have x2:=A.ix (j'+1) (by omega)
    have l1:=A.ld M2 d1 hM2 hd1 a (by omega)
    have l2:=A.ld M2 d1 hM2 hd1 (j'+1) (by omega)
    have wj:=w_sub1' (x:=j') (by omega)
    refine xt10 gy77 ei ej hij x1 x2 l1 l2 e0 e1 ?_;try exact⟨⟩
    refine RD_gcall ?_ rfl ?_
    ·refine xt1 gy77 ?_;try exact⟨⟩
    refine xt1 gy77 ?_;try exact⟨⟩
    refine CD_sem (Csem.pure rfl rfl fun N=>f150 ρ N _ _ _) (by decide) ?_
    cases hq:ltInt d1[j'+1]! d1[a]! with
    | false =>
      have hc:=hq
      have c5:scanDown (fun x=>!ltInt x d1[a]!) d1 i2 j'=scanDown (fun x=>!ltInt x d1[a]!) d1 i2 j:=by rw[<-c4.eq,scanDown_step (j:=j') (by omega) (by simp[hq])]
      have c5:=Is.mk c5
      refine xt7 gy77 ei ej hc wj e0 e1 ?_;try exact⟨⟩
      exact⟨j',by omega,j',rfl,hM2,ho2,by omega,by omega,by omega,rfl,c5.eq⟩
    | true =>
      have hc:=hq
      have c5:j'+1=j2:=by rw[hj2.eq,<-c4.eq,scanDown_stop (.inr (by simp[hq]))]
      have c6:=Is.mk c5
      clear c5
      refine xt6 gy77 ei ej hc e0 e1 ?_;try exact⟨⟩
      rw[c6.eq]
      exact⟨rfl,hM2,ho2,by omega⟩
   ·have c5:j'=j2:=by rw[hj2.eq,<-c4.eq,scanDown_stop (.inl (by omega))]
    have c6:=Is.mk c5
    clear c5
    refine xt6 gy77 ei ej hij e0 e1 ?_;try exact⟨⟩
    refine RD_gskip ?_ (by decide) ?_
    ·refine xt1 gy77 ?_;try exact⟨⟩
    refine xt6 gy77 ei ej hij e0 e1 ?_;try exact⟨⟩
    rw[c6.eq]
    exact⟨rfl,hM2,ho2,by omega⟩
  ·clear ei ej e0 e1 hM1 ho hn1
   rintro⟨env,M1,n1⟩ ⟨e0,e1,ei,ej,hM1,ho,hn1⟩
   simp only at ei ej e0 e1 hM1 ho hn1
   have hR3:=hR2.eq
   by_cases hgt:(j2:Int)<i2
   ·rw[if_pos (by omega)]at hR3
    subst hR3
    clear hR2 hi2 hj2
    have y1:=A.ix (j2) (by omega)
    have y2:=A.ix (a) (by omega)
    have k1:=A.ld M1 d1 hM1 hd1 (j2) (by omega)
    have k2:=A.ld M1 d1 hM1 hd1 (a) (by omega)
    have st1:=A.st M1 d1 hM1 hd1 (j2) (by omega) d1[a]!
    have st2:=A.st (tset M1 k (rwU (d1.setIfInBounds (j2) d1[a]!))) _ (by(repeat (first | rw[tget_tset,if_pos rfl] | rw[tget_tset,if_neg (by omega)] | rw[tget_tdel,if_neg (by omega)]));try (first | rfl | assumption)) (by simp;omega) (a) (by omega) d1[j2]!
    refine xt13 gy77 ei ej hgt @ParU.eq_1 y1 y2 k1 k2 st1 st2 e0 e1 ?_;try exact⟨⟩
    exact⟨⟨rfl,(by rw[swp_size];omega)⟩,(ho.set _).set _,by omega⟩
   ·rw[if_neg (by omega)]at hR3
    obtain⟨Rr,hRr⟩:∃q,q=partLoop ltInt a (i2+1) (j2 - 1) (swp d1 i2 j2):=⟨_,rfl⟩
    rw[<-hRr]at hR3
    have hR3:=Is.mk hR3
    have hRr:=Is.mk hRr
    clear hR2 hi2 hj2
    have b6:=b5 (by omega)
    have w1:=w_add1 (x:=i2) (by omega)
    have w2:=w_sub1 (x:=j2) (by omega) (by omega)
    have y1:=A.ix (i2) (by omega)
    have y2:=A.ix (j2) (by omega)
    have k1:=A.ld M1 d1 hM1 hd1 (i2) (by omega)
    have k2:=A.ld M1 d1 hM1 hd1 (j2) (by omega)
    have st1:=A.st M1 d1 hM1 hd1 (i2) (by omega) d1[j2]!
    have st2:=A.st (tset M1 k (rwU (d1.setIfInBounds (i2) d1[j2]!))) _ (by(repeat (first | rw[tget_tset,if_pos rfl] | rw[tget_tset,if_neg (by omega)] | rw[tget_tdel,if_neg (by omega)]));try (first | rfl | assumption)) (by simp;omega) (j2) (by omega) d1[i2]!
    refine xt14 gy77 ei ej hgt w1 w2 y1 y2 k1 k2 st1 st2 e0 e1 ?_;try exact⟨⟩
    refine W_loop (fun m s=>∃(i j:Nat) (d1:Array Int),tget s.env 0=some sv/\tget s.env 1=some (.int .i64 a)/\tget s.env 10=some (.int .i64 i)/\tget s.env 11=some (.int .i64 j)/\tget s.M k=some (rwU d1)/\Oth nx k M s.M/\nx<=s.nx/\InsQU a b n Rr m i j d1)
     (j2 - 1+1 - (i2+1)) ⟨i2+1,j2 - 1,swp d1 i2 j2,?_⟩ ?_
    ·refine xt3 gy77 e0 e1 ?_;try exact⟨⟩
     exact⟨rfl,((ho.set _).set _),by omega,by omega,by omega,by omega,rfl,(by rw[swp_size];exact hd1),hRr.eq.symm⟩
    ·clear y1 y2 k1 k2 st1 st2 w1 w2 hRr ei ej e0 e1 hM1 ho hn1 hgt b1 b2 b3 b4 b5 b6 hd1
     rintro m ⟨env,M1,n1⟩ ⟨i,j,d1,e0,e1,ei,ej,hM1,ho,hn1,h1,h2,h4,h3,hd1,hI⟩
     simp only at e0 e1 ei ej hM1 ho hn1
     obtain⟨i2,hi2⟩:∃q,q=scanUp (fun x=>ltInt x d1[a]!) d1 j i:=⟨_,rfl⟩
     obtain⟨j2,hj2⟩:∃q,q=scanDown (fun x=>!ltInt x d1[a]!) d1 i2 j:=⟨_,rfl⟩
     obtain⟨b1,b2,b3,b4,b5⟩:=scans (fun x=>rfl) (by omega) h2 hi2 hj2
     rw[partLoop_eq,<-hi2,<-hj2]at hI
     have hI:=Is.mk hI
     have hi2:=Is.mk hi2
     have hj2:=Is.mk hj2
     refine xt5 gy77 ei ej e0 e1 ?_;try exact⟨⟩
     refine W_loop_cut (fun m2 s=>∃i':Nat,tget s.env 0=some sv/\tget s.env 1=some (.int .i64 a)/\tget s.env 10=some (.int .i64 i')/\tget s.env 11=some (.int .i64 j)/\tget s.M k=some (rwU d1)/\Oth nx k M s.M/\nx<=s.nx/\ScU (fun x=>ltInt x d1[a]!) d1 i j i' m2) (j+1 - i) (fun s=>tget s.env 0=some sv/\tget s.env 1=some (.int .i64 a)/\tget s.env 10=some (.int .i64 i2)/\tget s.env 11=some (.int .i64 j)/\tget s.M k=some (rwU d1)/\Oth nx k M s.M/\nx<=s.nx) ⟨i,?_⟩ ?_ ?_
     ·refine xt5 gy77 ei ej e0 e1 ?_;try exact⟨⟩
      exact⟨hM1,ho,by omega,by omega,by omega,rfl,rfl⟩
     ·clear ei ej e0 e1
      rintro m2 ⟨env,M2,n2⟩ ⟨i',e0,e1,ei,ej,hM2,ho2,hn2,c1,c2,c3,c4⟩
      simp only at ei ej e0 e1 hM2 ho2 hn2
      have c4:=Is.mk c4
      by_cases hij:(i':Int)<=j
      ·have x1:=A.ix a (by omega)
       have x2:=A.ix i' (by omega)
       have l1:=A.ld M2 d1 hM2 hd1 a (by omega)
       have l2:=A.ld M2 d1 hM2 hd1 i' (by omega)
       have wi:=w_add1 (x:=i') (by omega)
       refine xt10 gy77 ei ej hij x1 x2 l1 l2 e0 e1 ?_;try exact⟨⟩
       refine RD_gcall ?_ rfl ?_
       ·refine xt1 gy77 ?_;try exact⟨⟩
       refine xt1 gy77 ?_;try exact⟨⟩
       refine CD_sem (Csem.pure rfl rfl fun N=>f150 ρ N _ _ _) (by decide) ?_
       cases hq:ltInt d1[i']! d1[a]! with
       | true =>
         have hc:=hq
         have c5:scanUp (fun x=>ltInt x d1[a]!) d1 j (i'+1)=scanUp (fun x=>ltInt x d1[a]!) d1 j i:=by rw[<-c4.eq,scanUp_step (i:=i') (by omega) (by simp[hq])]
         have c5:=Is.mk c5
         refine xt7 gy77 ei ej hc wi e0 e1 ?_;try exact⟨⟩
         exact⟨j+1 - (i'+1),by omega,i'+1,rfl,hM2,ho2,by omega,by omega,by omega,rfl,c5.eq⟩
       | false =>
         have hc:=hq
         have c5:i'=i2:=by rw[hi2.eq,<-c4.eq,scanUp_stop (.inr (by simp[hq]))]
         have c6:=Is.mk c5
         clear c5
         refine xt6 gy77 ei ej hc e0 e1 ?_;try exact⟨⟩
         rw[c6.eq]
         exact⟨rfl,hM2,ho2,by omega⟩
      ·have c5:i'=i2:=by rw[hi2.eq,<-c4.eq,scanUp_stop (.inl (by omega))]
       have c6:=Is.mk c5
       clear c5
       refine xt6 gy77 ei ej hij e0 e1 ?_;try exact⟨⟩
       refine RD_gskip ?_ (by decide) ?_
       ·refine xt1 gy77 ?_;try exact⟨⟩
       refine xt6 gy77 ei ej hij e0 e1 ?_;try exact⟨⟩
       rw[c6.eq]
       exact⟨rfl,hM2,ho2,by omega⟩
     ·clear ei ej e0 e1 hM1 ho hn1
      rintro⟨env,M1,n1⟩ ⟨e0,e1,ei,ej,hM1,ho,hn1⟩
      simp only at ei ej e0 e1 hM1 ho hn1
      refine xt5 gy77 ei ej e0 e1 ?_;try exact⟨⟩
      refine W_loop_cut (fun m2 s=>∃j':Nat,tget s.env 0=some sv/\tget s.env 1=some (.int .i64 a)/\tget s.env 10=some (.int .i64 i2)/\tget s.env 11=some (.int .i64 j')/\tget s.M k=some (rwU d1)/\Oth nx k M s.M/\nx<=s.nx/\ScD (fun x=>!ltInt x d1[a]!) d1 i2 j j' m2) j (fun s=>tget s.env 0=some sv/\tget s.env 1=some (.int .i64 a)/\tget s.env 10=some (.int .i64 i2)/\tget s.env 11=some (.int .i64 j2)/\tget s.M k=some (rwU d1)/\Oth nx k M s.M/\nx<=s.nx) ⟨j,?_⟩ ?_ ?_
      ·refine xt5 gy77 ei ej e0 e1 ?_;try exact⟨⟩
       exact⟨hM1,ho,by omega,by omega,by omega,rfl,rfl⟩
      ·clear ei ej e0 e1
       rintro m2 ⟨env,M2,n2⟩ ⟨j',e0,e1,ei,ej,hM2,ho2,hn2,c1,c2,c3,c4⟩
       simp only at ei ej e0 e1 hM2 ho2 hn2
       have c4:=Is.mk c4
       by_cases hij:(i2:Int)<=j'
       ·obtain⟨j',rfl⟩:∃q,j'=q+1:=⟨j' - 1,by omega⟩
        have x1:=A.ix a (by omega)
        have x2:=A.ix (j'+1) (by omega)
        have l1:=A.ld M2 d1 hM2 hd1 a (by omega)
        have l2:=A.ld M2 d1 hM2 hd1 (j'+1) (by omega)
        have wj:=w_sub1' (x:=j') (by omega)
        refine xt10 gy77 ei ej hij x1 x2 l1 l2 e0 e1 ?_;try exact⟨⟩
        refine RD_gcall ?_ rfl ?_
        ·refine xt1 gy77 ?_;try exact⟨⟩
        refine xt1 gy77 ?_;try exact⟨⟩
        refine CD_sem (Csem.pure rfl rfl fun N=>f150 ρ N _ _ _) (by decide) ?_
        cases hq:ltInt d1[j'+1]! d1[a]! with
        | false =>
          have hc:=hq
          have c5:scanDown (fun x=>!ltInt x d1[a]!) d1 i2 j'=scanDown (fun x=>!ltInt x d1[a]!) d1 i2 j:=by rw[<-c4.eq,scanDown_step (j:=j') (by omega) (by simp[hq])]
          have c5:=Is.mk c5
          refine xt7 gy77 ei ej hc wj e0 e1 ?_;try exact⟨⟩
          exact⟨j',by omega,j',rfl,hM2,ho2,by omega,by omega,by omega,rfl,c5.eq⟩
        | true =>
          have hc:=hq
          have c5:j'+1=j2:=by rw[hj2.eq,<-c4.eq,scanDown_stop (.inr (by simp[hq]))]
          have c6:=Is.mk c5
          clear c5
          refine xt6 gy77 ei ej hc e0 e1 ?_;try exact⟨⟩
          rw[c6.eq]
          exact⟨rfl,hM2,ho2,by omega⟩
       ·have c5:j'=j2:=by rw[hj2.eq,<-c4.eq,scanDown_stop (.inl (by omega))]
        have c6:=Is.mk c5
        clear c5
        refine xt6 gy77 ei ej hij e0 e1 ?_;try exact⟨⟩
        refine RD_gskip ?_ (by decide) ?_
        ·refine xt1 gy77 ?_;try exact⟨⟩
        refine xt6 gy77 ei ej hij e0 e1 ?_;try exact⟨⟩
        rw[c6.eq]
        exact⟨rfl,hM2,ho2,by omega⟩
      ·clear ei ej e0 e1 hM1 ho hn1
       rintro⟨env,M1,n1⟩ ⟨e0,e1,ei,ej,hM1,ho,hn1⟩
       simp only at ei ej e0 e1 hM1 ho hn1
       by_cases hgt:(j2:Int)<i2
       ·have hI2:=hI.eq
        rw[if_pos (by omega)]at hI2
        have hR4:=hR3.eq
        rw[<-hI2]at hR4
        subst hR4
        clear hI hI2 hi2 hj2 hR3
        have y1:=A.ix (j2) (by omega)
        have y2:=A.ix (a) (by omega)
        have k1:=A.ld M1 d1 hM1 hd1 (j2) (by omega)
        have k2:=A.ld M1 d1 hM1 hd1 (a) (by omega)
        have st1:=A.st M1 d1 hM1 hd1 (j2) (by omega) d1[a]!
        have st2:=A.st (tset M1 k (rwU (d1.setIfInBounds (j2) d1[a]!))) _ (by(repeat (first | rw[tget_tset,if_pos rfl] | rw[tget_tset,if_neg (by omega)] | rw[tget_tdel,if_neg (by omega)]));try (first | rfl | assumption)) (by simp;omega) (a) (by omega) d1[j2]!
        refine xt13 gy77 ei ej hgt @ParU.eq_1 y1 y2 k1 k2 st1 st2 e0 e1 ?_;try exact⟨⟩
        exact⟨⟨rfl,(by rw[swp_size];omega)⟩,(ho.set _).set _,by omega⟩
       ·have hI2:=hI.eq
        rw[if_neg (by omega)]at hI2
        have hI2:=Is.mk hI2
        clear hI hi2 hj2
        have b6:=b5 (by omega)
        have w1:=w_add1 (x:=i2) (by omega)
        have w2:=w_sub1 (x:=j2) (by omega) (by omega)
        have y1:=A.ix (i2) (by omega)
        have y2:=A.ix (j2) (by omega)
        have k1:=A.ld M1 d1 hM1 hd1 (i2) (by omega)
        have k2:=A.ld M1 d1 hM1 hd1 (j2) (by omega)
        have st1:=A.st M1 d1 hM1 hd1 (i2) (by omega) d1[j2]!
        have st2:=A.st (tset M1 k (rwU (d1.setIfInBounds (i2) d1[j2]!))) _ (by(repeat (first | rw[tget_tset,if_pos rfl] | rw[tget_tset,if_neg (by omega)] | rw[tget_tdel,if_neg (by omega)]));try (first | rfl | assumption)) (by simp;omega) (j2) (by omega) d1[i2]!
        refine xt14 gy77 ei ej hgt w1 w2 y1 y2 k1 k2 st1 st2 e0 e1 ?_;try exact⟨⟩
        exact⟨j2 - 1+1 - (i2+1),by omega,i2+1,j2 - 1,swp d1 i2 j2,rfl,rfl,rfl,((ho.set _).set _),by omega,by omega,by omega,by omega,rfl,(by rw[swp_size];exact hd1),hI2.eq⟩
end
end Go.Xs
namespace Go.Xs
noncomputable section
open Go.Proofs Go.Sort
set_option maxRecDepth 100000
set_option maxHeartbeats 8000000
def InsTU (a b n:Nat) (R:Array Int×Bool) (m jj i:Nat) (d':Array Int):Prop:=a<i/\i<=b/\jj<=5/\m=5 - jj/\d'.size=n/\partialIns ltInt a b (5 - jj) i d'=R
theorem f149 (ρ:Rho) {M:Hp} {nx k n:Nat} {sv:XV} {off:Nat->Nat} (A:ArrU k n sv off) {d:Array Int} (hM:tget M k=some (rwU d)) (hd:d.size=n) (hk:k<nx) (hn:n<=1000) {a b:Nat} (hab:a<b) (hb:b<=n) :
 FOk Tryz.prog ρ 149 [sv,.int .i64 a,.int .i64 b] M nx (ParU nx k M (.bool (partialInsertionSort ltInt d a b).2) (partialInsertionSort ltInt d a b).1):=by
 obtain⟨R,hR⟩:∃R,R=partialInsertionSort ltInt d a b:=⟨_,rfl⟩
 rw[<-hR]
 have hR:=Is.mk hR
 have w1:=w_add1 (x:=a) (by omega)
 refine FOk.walk (m:=133) (rs:=[.tmp 6]) follows Tryz.func149 (by kernel_rfl) rfl rfl rfl ?_
 conv in W _ _ _ _ _ _ _=>arg 4;whnf
 refine xt2 gy77 w1 ?_;try exact⟨⟩
 refine W_loop (fun m s=>∃(jj i:Nat) (d1:Array Int),tget s.env 0=some sv/\tget s.env 1=some (.int .i64 a)/\tget s.env 2=some (.int .i64 b)/\tget s.env 7=some (.int .i64 i)/\tget s.env 8=some (.int .i64 jj)/\tget s.M k=some (rwU d1)/\Oth nx k M s.M/\nx<=s.nx/\InsTU a b n R m jj i d1)
  5 ⟨0,a+1,d,?_⟩ ?_
 ·refine xt1 gy77 ?_;try exact⟨⟩
  have hR':=hR.eq.symm
  (repeat' (apply And.intro))<;>first | assumption | rfl | omega | exact Oth.refl _ _ _ | exact Oth.set (Oth.set ho _) _ | (rw[swp_size];assumption) | exact congrArg _ (by omega)
 ·clear w1 hR hM hd
  rintro m ⟨env,M1,n1⟩ ⟨jj,i,d1,e0,e1,e2,ei,ej,hM1,ho,hn1,h1,h2,h4,h3,hd1,hI⟩
  simp only at e0 e1 e2 ei ej hM1 ho hn1
  by_cases h5:(jj:Int)<5
  ·obtain⟨i2,hi2⟩:∃q,q=scanSorted ltInt d1 b i:=⟨_,rfl⟩
   obtain⟨b1,b2⟩:=scanSorted_bd ltInt d1 b _ i rfl h2
   rw[<-hi2]at b1 b2
   rw[show 5 - jj=(5 - (jj+1))+1 by omega,partialIns_succ,<-hi2]at hI
   have hI:=Is.mk hI
   have hi2:=Is.mk hi2
   have wjj:=w_add1 (x:=jj) (by omega)
   refine xt7 gy77 ei ej h5 e0 e1 e2 ?_;try exact⟨⟩
   refine W_loop_cut (fun m2 s=>∃i':Nat,tget s.env 0=some sv/\tget s.env 1=some (.int .i64 a)/\tget s.env 2=some (.int .i64 b)/\tget s.env 7=some (.int .i64 i')/\tget s.env 8=some (.int .i64 jj)/\tget s.M k=some (rwU d1)/\Oth nx k M s.M/\nx<=s.nx/\ScS ltInt d1 b i i' m2) (b - i)
    (fun s=>tget s.env 0=some sv/\tget s.env 1=some (.int .i64 a)/\tget s.env 2=some (.int .i64 b)/\tget s.env 7=some (.int .i64 i2)/\tget s.env 8=some (.int .i64 jj)/\tget s.M k=some (rwU d1)/\Oth nx k M s.M/\nx<=s.nx) ⟨i,?_⟩ ?_ ?_
   ·refine xt6 gy77 ei ej e0 e1 e2 ?_;try exact⟨⟩
    exact⟨hM1,ho,by omega,by omega,by omega,rfl,rfl⟩
   ·clear ei ej e0 e1 e2
    rintro m2 ⟨env,M2,n2⟩ ⟨i',e0,e1,e2,ei,ej,hM2,ho2,hn2,c1,c2,c3,c4⟩
    simp only at ei ej e0 e1 e2 hM2 ho2 hn2
    have c4:=Is.mk c4
    by_cases hij:(i':Int)<b
    ·have x1:=A.ix i' (by omega)
     have x2:=A.ix (i' - 1) (by omega)
     have l1:=A.ld M2 d1 hM2 hd1 i' (by omega)
     have l2:=A.ld M2 d1 hM2 hd1 (i' - 1) (by omega)
     have wi:=w_add1 (x:=i') (by omega)
     have wm:=w_sub1 (x:=i') (by omega) (by omega)
     refine xt12 gy77 ei ej hij wm x1 x2 l1 l2 e0 e1 e2 ?_;try exact⟨⟩
     refine RD_gcall ?_ rfl ?_
     ·refine xt1 gy77 ?_;try exact⟨⟩
     refine xt1 gy77 ?_;try exact⟨⟩
     refine CD_sem (Csem.pure rfl rfl fun N=>f150 ρ N _ _ _) (by decide) ?_
     cases hq:ltInt d1[i']! d1[i' - 1]! with
     | false =>
       have hc:=hq
       have c5:scanSorted ltInt d1 b (i'+1)=scanSorted ltInt d1 b i:=by rw[<-c4.eq,scanSorted_step (i:=i') (by omega) hq]
       have c5:=Is.mk c5
       refine xt8 gy77 ei ej hc wi e0 e1 e2 ?_;try exact⟨⟩
       exact⟨b - (i'+1),by omega,i'+1,rfl,hM2,ho2,by omega,by omega,by omega,rfl,c5.eq⟩
     | true =>
       have hc:=hq
       have c5:i'=i2:=by rw[hi2.eq,<-c4.eq,scanSorted_stop (.inr hq)]
       have c6:=Is.mk c5
       clear c5
       refine xt7 gy77 ei ej hc e0 e1 e2 ?_;try exact⟨⟩
       rw[c6.eq]
       exact⟨rfl,hM2,ho2,by omega⟩
    ·have c5:i'=i2:=by rw[hi2.eq,<-c4.eq,scanSorted_stop (.inl (by omega))]
     have c6:=Is.mk c5
     clear c5
     refine xt7 gy77 ei ej hij e0 e1 e2 ?_;try exact⟨⟩
     refine RD_gskip ?_ (by decide) ?_
     ·refine xt1 gy77 ?_;try exact⟨⟩
     refine xt7 gy77 ei ej hij e0 e1 e2 ?_;try exact⟨⟩
     rw[c6.eq]
     exact⟨rfl,hM2,ho2,by omega⟩
   ·clear ei ej e0 e1 e2 hM1 ho hn1
    rintro⟨env,M1,n1⟩ ⟨e0,e1,e2,ei,ej,hM1,ho,hn1⟩
    simp only at ei ej e0 e1 e2 hM1 ho hn1
    by_cases hib:i2=b
    ·have hI2:=hI.eq
     rw[if_pos hib]at hI2
     subst hI2
     have hib2:(i2:Int)=(b:Int):=by omega
     clear hI hi2
     refine xt9 gy77 ei ej hib hib2 @ParU.eq_1 e0 e1 e2 ?_;try exact⟨⟩
     exact⟨⟨hM1,by omega⟩,ho,by omega⟩
    ·have hI2:=hI.eq
     rw[if_neg hib]at hI2
     have hib2:¬ (i2:Int)=(b:Int):=by omega
     have wba:=w_sub (x:=b) (y:=a) (by omega) (by omega)
     by_cases h50:((b - a:Nat):Int)<50
     ·rw[if_pos (by omega)]at hI2
      subst hI2
      clear hI hi2
      refine xt11 gy77 ei ej hib hib2 wba h50 @ParU.eq_1 e0 e1 e2 ?_;try exact⟨⟩
      exact⟨⟨hM1,by omega⟩,ho,by omega⟩
     ·rw[if_neg (by omega)]at hI2
      obtain⟨d3,hd3⟩:∃q,q=fixDown ltInt a i2 (swp d1 i2 (i2 - 1)):=⟨_,rfl⟩
      rw[<-hd3]at hI2
      obtain⟨d4,hd4⟩:∃q,q=fixUp ltInt b i2 d3:=⟨_,rfl⟩
      rw[<-hd4]at hI2
      have hI3:=Is.mk hI2
      have s3:d3.size=n:=by
       rw[hd3];unfold fixDown;split
       ·exact shiftDown_size _ _ _ (by rw[swp_size];exact hd1)
       ·rw[swp_size];exact hd1
      have s4:d4.size=n:=by
       rw[hd4];unfold fixUp;split
       ·exact shiftUp_size _ _ _ _ _ rfl s3
       ·exact s3
      unfold fixDown at hd3
      unfold fixUp at hd4
      clear hI hI2 hi2
      have wia:=w_sub (x:=i2) (y:=a) (by omega) (by omega)
      have wbi:=w_sub (x:=b) (y:=i2) (by omega) (by omega)
      have wi1:=w_sub1 (x:=i2) (by omega) (by omega)
      have wi2:=w_add1 (x:=i2) (by omega)
      have y1:=A.ix (i2) (by omega)
      have y2:=A.ix (i2 - 1) (by omega)
      have k1:=A.ld M1 d1 hM1 hd1 (i2) (by omega)
      have k2:=A.ld M1 d1 hM1 hd1 (i2 - 1) (by omega)
      have st1:=A.st M1 d1 hM1 hd1 (i2) (by omega) d1[i2 - 1]!
      have st2:=A.st (tset M1 k (rwU (d1.setIfInBounds (i2) d1[i2 - 1]!))) _ (by(repeat (first | rw[tget_tset,if_pos rfl] | rw[tget_tset,if_neg (by omega)] | rw[tget_tdel,if_neg (by omega)]));try (first | rfl | assumption)) (by simp;omega) (i2 - 1) (by omega) d1[i2]!
      by_cases q2:(2:Int)<=((i2 - a:Nat):Int)
      ·rw[if_pos (by omega)]at hd3
       have hd3:=Is.mk hd3
       by_cases q3:(2:Int)<=((b - i2:Nat):Int)
       ·rw[if_pos (by omega)]at hd4
        have hd4:=Is.mk hd4
        refine xt19 gy77 ei ej hib hib2 wba h50 wia q2 wi1 y1 y2 k1 k2 st1 st2 e0 e1 e2 ?_;try exact⟨⟩
        clear y1 y2 k1 k2 st1 st2
        refine W_loop_cut (fun m2 s=>∃(j':Nat) (d':Array Int),tget s.env 0=some sv/\tget s.env 1=some (.int .i64 a)/\tget s.env 2=some (.int .i64 b)/\tget s.env 7=some (.int .i64 i2)/\tget s.env 8=some (.int .i64 jj)/\tget s.env 9=some (.int .i64 j')/\tget s.M k=some (rwU d')/\Oth nx k M s.M/\nx<=s.nx/\ShD ltInt n i2 d3 j' m2 d') (i2 - 1)
         (fun s=>tget s.env 0=some sv/\tget s.env 1=some (.int .i64 a)/\tget s.env 2=some (.int .i64 b)/\tget s.env 7=some (.int .i64 i2)/\tget s.env 8=some (.int .i64 jj)/\tget s.M k=some (rwU d3)/\Oth nx k M s.M/\nx<=s.nx) ⟨i2 - 1,swp d1 i2 (i2 - 1),?_⟩ ?_ ?_
        ·refine xt6 gy77 ei ej e0 e1 e2 ?_;try exact⟨⟩
         have hd3':=hd3.eq.symm
         (repeat' (apply And.intro))<;>first | assumption | rfl | omega | exact Oth.refl _ _ _ | exact Oth.set (Oth.set ho _) _ | (rw[swp_size];assumption) | exact congrArg _ (by omega)
        ·clear ei ej e0 e1 e2 hM1 hn1
         rintro m2 ⟨env,M2,n2⟩ ⟨j',d2,e0,e1,e2,ei,ej,e9,hM2,ho2,hn2,c1,c2,c3,c4⟩
         simp only at ei ej e9 e0 e1 e2 hM2 ho2 hn2
         by_cases hj1:(1:Int)<=j'
         ·obtain⟨j',rfl⟩:∃q,j'=q+1:=⟨j' - 1,by omega⟩
          have c4:=Is.mk c4
          have wj:=w_sub1' (x:=j') (by omega)
          have y1:=A.ix (j'+1) (by omega)
          have y2:=A.ix (j') (by omega)
          have k1:=A.ld M2 d2 hM2 c3 (j'+1) (by omega)
          have k2:=A.ld M2 d2 hM2 c3 (j') (by omega)
          have st1:=A.st M2 d2 hM2 c3 (j'+1) (by omega) d2[j']!
          have st2:=A.st (tset M2 k (rwU (d2.setIfInBounds (j'+1) d2[j']!))) _ (by(repeat (first | rw[tget_tset,if_pos rfl] | rw[tget_tset,if_neg (by omega)] | rw[tget_tdel,if_neg (by omega)]));try (first | rfl | assumption)) (by simp;omega) (j') (by omega) d2[j'+1]!
          refine xt13 gy77 ei ej e9 hj1 wj y1 y2 k1 k2 e0 e1 e2 ?_;try exact⟨⟩
          refine CD_sem (Csem.pure rfl rfl fun N=>f150 ρ N _ _ _) (by decide) ?_
          cases hq:ltInt d2[j'+1]! d2[j']! with
          | true =>
            have hc:=hq
            have c5:shiftDown ltInt j' (swp d2 (j'+1) j')=d3:=by rw[<-c4.eq,shiftDown,hq];rfl
            have c5:=Is.mk c5
            refine xt15 gy77 ei ej e9 hc wj y1 y2 k1 k2 st1 st2 e0 e1 e2 ?_;try exact⟨⟩
            exact⟨j',by omega,j',swp d2 (j'+1) j',rfl,rfl,((ho2.set _).set _),by omega,by omega,rfl,(by rw[swp_size];exact c3),c5.eq⟩
          | false =>
            have hc:=hq
            have c5:d2=d3:=by rw[<-c4.eq,shiftDown,hq];rfl
            have c5:=Is.mk c5
            clear c4
            refine xt8 gy77 ei ej e9 hc e0 e1 e2 ?_;try exact⟨⟩
            rw[<-c5.eq]
            exact⟨hM2,ho2,by omega⟩
         ·have c5:d2=d3:=by rw[<-c4,show j'=0 by omega];rfl
          have c5:=Is.mk c5
          clear c4
          refine xt8 gy77 ei ej e9 hj1 e0 e1 e2 ?_;try exact⟨⟩
          rw[<-c5.eq]
          exact⟨hM2,ho2,by omega⟩
        ·clear ei ej e0 e1 e2 hM1 ho hn1 hd1
         rintro⟨env,M1,n1⟩ ⟨e0,e1,e2,ei,ej,hM1,ho,hn1⟩
         simp only at ei ej e0 e1 e2 hM1 ho hn1
         refine xt9 gy77 ei ej wbi q3 wi2 e0 e1 e2 ?_;try exact⟨⟩
         refine W_loop_cut (fun m2 s=>∃(j':Nat) (d':Array Int),tget s.env 0=some sv/\tget s.env 1=some (.int .i64 a)/\tget s.env 2=some (.int .i64 b)/\tget s.env 7=some (.int .i64 i2)/\tget s.env 8=some (.int .i64 jj)/\tget s.env 10=some (.int .i64 j')/\tget s.M k=some (rwU d')/\Oth nx k M s.M/\nx<=s.nx/\ShU ltInt n b i2 d4 j' m2 d') (b - (i2+1))
          (fun s=>tget s.env 0=some sv/\tget s.env 1=some (.int .i64 a)/\tget s.env 2=some (.int .i64 b)/\tget s.env 7=some (.int .i64 i2)/\tget s.env 8=some (.int .i64 jj)/\tget s.M k=some (rwU d4)/\Oth nx k M s.M/\nx<=s.nx) ⟨i2+1,d3,?_⟩ ?_ ?_
         ·refine xt6 gy77 ei ej e0 e1 e2 ?_;try exact⟨⟩
          have hd4':=hd4.eq.symm
          (repeat' (apply And.intro))<;>first | assumption | rfl | omega | exact Oth.refl _ _ _ | exact Oth.set (Oth.set ho _) _ | (rw[swp_size];assumption) | exact congrArg _ (by omega)
         ·clear ei ej e0 e1 e2 hM1 hn1
          rintro m2 ⟨env,M2,n2⟩ ⟨j',d2,e0,e1,e2,ei,ej,e9,hM2,ho2,hn2,c0,c1,c2,c3,c4⟩
          simp only at ei ej e9 e0 e1 e2 hM2 ho2 hn2
          by_cases hj1:(j':Int)<b
          ·have c4:=Is.mk c4
           have wj:=w_sub1 (x:=j') (by omega) (by omega)
           have wj1:=w_add1 (x:=j') (by omega)
           have y1:=A.ix (j') (by omega)
           have y2:=A.ix (j' - 1) (by omega)
           have k1:=A.ld M2 d2 hM2 c3 (j') (by omega)
           have k2:=A.ld M2 d2 hM2 c3 (j' - 1) (by omega)
           have st1:=A.st M2 d2 hM2 c3 (j') (by omega) d2[j' - 1]!
           have st2:=A.st (tset M2 k (rwU (d2.setIfInBounds (j') d2[j' - 1]!))) _ (by(repeat (first | rw[tget_tset,if_pos rfl] | rw[tget_tset,if_neg (by omega)] | rw[tget_tdel,if_neg (by omega)]));try (first | rfl | assumption)) (by simp;omega) (j' - 1) (by omega) d2[j']!
           refine xt13 gy77 ei ej e9 hj1 wj y1 y2 k1 k2 e0 e1 e2 ?_;try exact⟨⟩
           refine CD_sem (Csem.pure rfl rfl fun N=>f150 ρ N _ _ _) (by decide) ?_
           cases hq:ltInt d2[j']! d2[j' - 1]! with
           | true =>
             have hc:=hq
             have c5:shiftUp ltInt b (j'+1) (swp d2 j' (j' - 1))=d4:=by rw[<-c4.eq,shiftUp_step (j:=j') (d:=d2) (by omega) hq]
             have c5:=Is.mk c5
             refine xt16 gy77 ei ej e9 hc wj wj1 y1 y2 k1 k2 st1 st2 e0 e1 e2 ?_;try exact⟨⟩
             exact⟨b - (j'+1),by omega,j'+1,swp d2 j' (j' - 1),rfl,rfl,((ho2.set _).set _),by omega,by omega,by omega,rfl,(by rw[swp_size];exact c3),c5.eq⟩
           | false =>
             have hc:=hq
             have c5:d2=d4:=by rw[<-c4.eq,shiftUp,if_pos (by omega),hq];rfl
             have c5:=Is.mk c5
             clear c4
             refine xt8 gy77 ei ej e9 hc e0 e1 e2 ?_;try exact⟨⟩
             rw[<-c5.eq]
             exact⟨hM2,ho2,by omega⟩
          ·have c5:d2=d4:=by rw[<-c4,shiftUp,if_neg (by omega)]
           have c5:=Is.mk c5
           clear c4
           refine xt8 gy77 ei ej e9 hj1 e0 e1 e2 ?_;try exact⟨⟩
           rw[<-c5.eq]
           exact⟨hM2,ho2,by omega⟩
         ·clear ei ej e0 e1 e2 hM1 ho hn1
          rintro⟨env,M1,n1⟩ ⟨e0,e1,e2,ei,ej,hM1,ho,hn1⟩
          simp only at ei ej e0 e1 e2 hM1 ho hn1
          refine xt7 gy77 ei ej wjj e0 e1 e2 ?_;try exact⟨⟩
          exact⟨5 - (jj+1),by omega,jj+1,i2,d4,rfl,rfl,hM1,ho,by omega,by omega,by omega,by omega,rfl,s4,hI3.eq⟩
       ·rw[if_neg (by omega)]at hd4
        have hd4:=Is.mk hd4
        refine xt19 gy77 ei ej hib hib2 wba h50 wia q2 wi1 y1 y2 k1 k2 st1 st2 e0 e1 e2 ?_;try exact⟨⟩
        clear y1 y2 k1 k2 st1 st2
        refine W_loop_cut (fun m2 s=>∃(j':Nat) (d':Array Int),tget s.env 0=some sv/\tget s.env 1=some (.int .i64 a)/\tget s.env 2=some (.int .i64 b)/\tget s.env 7=some (.int .i64 i2)/\tget s.env 8=some (.int .i64 jj)/\tget s.env 9=some (.int .i64 j')/\tget s.M k=some (rwU d')/\Oth nx k M s.M/\nx<=s.nx/\ShD ltInt n i2 d3 j' m2 d') (i2 - 1)
         (fun s=>tget s.env 0=some sv/\tget s.env 1=some (.int .i64 a)/\tget s.env 2=some (.int .i64 b)/\tget s.env 7=some (.int .i64 i2)/\tget s.env 8=some (.int .i64 jj)/\tget s.M k=some (rwU d3)/\Oth nx k M s.M/\nx<=s.nx) ⟨i2 - 1,swp d1 i2 (i2 - 1),?_⟩ ?_ ?_
        ·refine xt6 gy77 ei ej e0 e1 e2 ?_;try exact⟨⟩
         have hd3':=hd3.eq.symm
         (repeat' (apply And.intro))<;>first | assumption | rfl | omega | exact Oth.refl _ _ _ | exact Oth.set (Oth.set ho _) _ | (rw[swp_size];assumption) | exact congrArg _ (by omega)
        ·clear ei ej e0 e1 e2 hM1 hn1
         rintro m2 ⟨env,M2,n2⟩ ⟨j',d2,e0,e1,e2,ei,ej,e9,hM2,ho2,hn2,c1,c2,c3,c4⟩
         simp only at ei ej e9 e0 e1 e2 hM2 ho2 hn2
         by_cases hj1:(1:Int)<=j'
         ·obtain⟨j',rfl⟩:∃q,j'=q+1:=⟨j' - 1,by omega⟩
          have c4:=Is.mk c4
          have wj:=w_sub1' (x:=j') (by omega)
          have y1:=A.ix (j'+1) (by omega)
          have y2:=A.ix (j') (by omega)
          have k1:=A.ld M2 d2 hM2 c3 (j'+1) (by omega)
          have k2:=A.ld M2 d2 hM2 c3 (j') (by omega)
          have st1:=A.st M2 d2 hM2 c3 (j'+1) (by omega) d2[j']!
          have st2:=A.st (tset M2 k (rwU (d2.setIfInBounds (j'+1) d2[j']!))) _ (by(repeat (first | rw[tget_tset,if_pos rfl] | rw[tget_tset,if_neg (by omega)] | rw[tget_tdel,if_neg (by omega)]));try (first | rfl | assumption)) (by simp;omega) (j') (by omega) d2[j'+1]!
          refine xt13 gy77 ei ej e9 hj1 wj y1 y2 k1 k2 e0 e1 e2 ?_;try exact⟨⟩
          refine CD_sem (Csem.pure rfl rfl fun N=>f150 ρ N _ _ _) (by decide) ?_
          cases hq:ltInt d2[j'+1]! d2[j']! with
          | true =>
            have hc:=hq
            have c5:shiftDown ltInt j' (swp d2 (j'+1) j')=d3:=by rw[<-c4.eq,shiftDown,hq];rfl
            have c5:=Is.mk c5
            refine xt15 gy77 ei ej e9 hc wj y1 y2 k1 k2 st1 st2 e0 e1 e2 ?_;try exact⟨⟩
            exact⟨j',by omega,j',swp d2 (j'+1) j',rfl,rfl,((ho2.set _).set _),by omega,by omega,rfl,(by rw[swp_size];exact c3),c5.eq⟩
          | false =>
            have hc:=hq
            have c5:d2=d3:=by rw[<-c4.eq,shiftDown,hq];rfl
            have c5:=Is.mk c5
            clear c4
            refine xt8 gy77 ei ej e9 hc e0 e1 e2 ?_;try exact⟨⟩
            rw[<-c5.eq]
            exact⟨hM2,ho2,by omega⟩
         ·have c5:d2=d3:=by rw[<-c4,show j'=0 by omega];rfl
          have c5:=Is.mk c5
          clear c4
          refine xt8 gy77 ei ej e9 hj1 e0 e1 e2 ?_;try exact⟨⟩
          rw[<-c5.eq]
          exact⟨hM2,ho2,by omega⟩
        ·clear ei ej e0 e1 e2 hM1 ho hn1 hd1
         rintro⟨env,M1,n1⟩ ⟨e0,e1,e2,ei,ej,hM1,ho,hn1⟩
         simp only at ei ej e0 e1 e2 hM1 ho hn1
         refine xt9 gy77 ei ej wbi q3 wjj e0 e1 e2 ?_;try exact⟨⟩
         exact⟨5 - (jj+1),by omega,jj+1,i2,d4,rfl,rfl,by rw[hd4.eq];exact hM1,ho,by omega,by omega,by omega,by omega,rfl,s4,hI3.eq⟩
      ·rw[if_neg (by omega)]at hd3
       have hd3:=Is.mk hd3
       by_cases q3:(2:Int)<=((b - i2:Nat):Int)
       ·rw[if_pos (by omega),hd3.eq]at hd4
        have hd4:=Is.mk hd4
        refine xt22 gy77 ei ej hib hib2 wba h50 wia q2 wi1 wbi q3 wi2 y1 y2 k1 k2 st1 st2 e0 e1 e2 ?_;try exact⟨⟩
        clear y1 y2 k1 k2 st1 st2
        refine W_loop_cut (fun m2 s=>∃(j':Nat) (d':Array Int),tget s.env 0=some sv/\tget s.env 1=some (.int .i64 a)/\tget s.env 2=some (.int .i64 b)/\tget s.env 7=some (.int .i64 i2)/\tget s.env 8=some (.int .i64 jj)/\tget s.env 10=some (.int .i64 j')/\tget s.M k=some (rwU d')/\Oth nx k M s.M/\nx<=s.nx/\ShU ltInt n b i2 d4 j' m2 d') (b - (i2+1))
         (fun s=>tget s.env 0=some sv/\tget s.env 1=some (.int .i64 a)/\tget s.env 2=some (.int .i64 b)/\tget s.env 7=some (.int .i64 i2)/\tget s.env 8=some (.int .i64 jj)/\tget s.M k=some (rwU d4)/\Oth nx k M s.M/\nx<=s.nx) ⟨i2+1,swp d1 i2 (i2 - 1),?_⟩ ?_ ?_
        ·refine xt6 gy77 ei ej e0 e1 e2 ?_;try exact⟨⟩
         have hd4':=hd4.eq.symm
         (repeat' (apply And.intro))<;>first | assumption | rfl | omega | exact Oth.refl _ _ _ | exact Oth.set (Oth.set ho _) _ | (rw[swp_size];assumption) | exact congrArg _ (by omega)
        ·clear ei ej e0 e1 e2 hM1 hn1
         rintro m2 ⟨env,M2,n2⟩ ⟨j',d2,e0,e1,e2,ei,ej,e9,hM2,ho2,hn2,c0,c1,c2,c3,c4⟩
         simp only at ei ej e9 e0 e1 e2 hM2 ho2 hn2
         by_cases hj1:(j':Int)<b
         ·have c4:=Is.mk c4
          have wj:=w_sub1 (x:=j') (by omega) (by omega)
          have wj1:=w_add1 (x:=j') (by omega)
          have y1:=A.ix (j') (by omega)
          have y2:=A.ix (j' - 1) (by omega)
          have k1:=A.ld M2 d2 hM2 c3 (j') (by omega)
          have k2:=A.ld M2 d2 hM2 c3 (j' - 1) (by omega)
          have st1:=A.st M2 d2 hM2 c3 (j') (by omega) d2[j' - 1]!
          have st2:=A.st (tset M2 k (rwU (d2.setIfInBounds (j') d2[j' - 1]!))) _ (by(repeat (first | rw[tget_tset,if_pos rfl] | rw[tget_tset,if_neg (by omega)] | rw[tget_tdel,if_neg (by omega)]));try (first | rfl | assumption)) (by simp;omega) (j' - 1) (by omega) d2[j']!
          refine xt13 gy77 ei ej e9 hj1 wj y1 y2 k1 k2 e0 e1 e2 ?_;try exact⟨⟩
          refine CD_sem (Csem.pure rfl rfl fun N=>f150 ρ N _ _ _) (by decide) ?_
          cases hq:ltInt d2[j']! d2[j' - 1]! with
          | true =>
            have hc:=hq
            have c5:shiftUp ltInt b (j'+1) (swp d2 j' (j' - 1))=d4:=by rw[<-c4.eq,shiftUp_step (j:=j') (d:=d2) (by omega) hq]
            have c5:=Is.mk c5
            refine xt16 gy77 ei ej e9 hc wj wj1 y1 y2 k1 k2 st1 st2 e0 e1 e2 ?_;try exact⟨⟩
            exact⟨b - (j'+1),by omega,j'+1,swp d2 j' (j' - 1),rfl,rfl,((ho2.set _).set _),by omega,by omega,by omega,rfl,(by rw[swp_size];exact c3),c5.eq⟩
          | false =>
            have hc:=hq
            have c5:d2=d4:=by rw[<-c4.eq,shiftUp,if_pos (by omega),hq];rfl
            have c5:=Is.mk c5
            clear c4
            refine xt8 gy77 ei ej e9 hc e0 e1 e2 ?_;try exact⟨⟩
            rw[<-c5.eq]
            exact⟨hM2,ho2,by omega⟩
         ·have c5:d2=d4:=by rw[<-c4,shiftUp,if_neg (by omega)]
          have c5:=Is.mk c5
          clear c4
          refine xt8 gy77 ei ej e9 hj1 e0 e1 e2 ?_;try exact⟨⟩
          rw[<-c5.eq]
          exact⟨hM2,ho2,by omega⟩
        ·clear ei ej e0 e1 e2 hM1 ho hn1
         rintro⟨env,M1,n1⟩ ⟨e0,e1,e2,ei,ej,hM1,ho,hn1⟩
         simp only at ei ej e0 e1 e2 hM1 ho hn1
         refine xt7 gy77 ei ej wjj e0 e1 e2 ?_;try exact⟨⟩
         exact⟨5 - (jj+1),by omega,jj+1,i2,d4,rfl,rfl,hM1,ho,by omega,by omega,by omega,by omega,rfl,s4,hI3.eq⟩
       ·rw[if_neg (by omega),hd3.eq]at hd4
        have hd4:=Is.mk hd4
        refine xt22 gy77 ei ej hib hib2 wba h50 wia q2 wi1 wbi q3 wjj y1 y2 k1 k2 st1 st2 e0 e1 e2 ?_;try exact⟨⟩
        exact⟨5 - (jj+1),by omega,jj+1,i2,d4,rfl,rfl,by rw[hd4.eq];rfl,(ho.set _).set _,by omega,by omega,by omega,by omega,rfl,s4,hI3.eq⟩
  ·rw[show 5 - jj=0 by omega]at hI
   have hI2:R=(d1,false):=hI.symm
   subst hI2
   clear hI
   refine xt8 gy77 ei ej h5 @ParU.eq_1 e0 e1 e2 ?_;try exact⟨⟩
   exact⟨⟨hM1,by omega⟩,ho,by omega⟩
end
end Go.Xs
namespace Go.Xs
noncomputable section
open Go.Proofs Go.Sort
set_option maxRecDepth 100000
set_option maxHeartbeats 8000000
def BrkPU (nx k n:Nat) (M:Hp) (a b:Nat) (d:Array Int) (r:Out):Prop:=r.1 = .tup []/\(∃d':Array Int,d'.size=n/\PermIn a b d d'/\tget r.2.1 k=some (rwU d'))/\Oth nx k M r.2.1/\nx<=r.2.2
def InsXU (a b n:Nat) (d:Array Int) (i0 m i:Nat) (d':Array Int):Prop:=i0<=i/\i<=i0+3/\m=i0+3 - i/\d'.size=n/\PermIn a b d d'
theorem f146 (ρ:Rho) {M:Hp} {nx k n:Nat} {sv:XV} {off:Nat->Nat} (A:ArrU k n sv off) {d:Array Int} (hM:tget M k=some (rwU d)) (hd:d.size=n) (hk:k<nx) (hn:n<=1000) {a b:Nat} (hab:a<b) (hb:b<=n) :
 FOk Tryz.prog ρ 146 [sv,.int .i64 a,.int .i64 b] M nx (BrkPU nx k n M a b d):=by
 obtain⟨l,hl⟩:∃q,q=b - a:=⟨_,rfl⟩
 have w1:IntKind.i64.wrap ((b:Int) - (a:Int))=(l:Int):=by rw[hl];exact w_sub (by omega) (by omega)
 refine FOk.walk (m:=65) (rs:=[]) follows Tryz.func146 (by kernel_rfl) rfl rfl rfl ?_
 conv in W _ _ _ _ _ _ _=>arg 4;whnf
 by_cases h8:(8:Int)<=l
 ·obtain⟨q,hq⟩:∃q,q=l / 4:=⟨_,rfl⟩
  obtain⟨i0,hi0⟩:∃i,i=a+2*q - 1:=⟨_,rfl⟩
  have w2:IntKind.i64.wrap ((l:Int).tdiv 4)=(q:Int):=by
   rw[show (l:Int).tdiv 4=(q:Int) by rw[Int.tdiv_eq_ediv_of_nonneg (by omega)];omega,wrap_i64 (by omega) (by omega)]
  have w4:IntKind.i64.wrap ((q:Int)*2)=((2*q:Nat):Int):=by rw[wrap_i64 (by omega) (by omega)];omega
  have w5:=w_add (x:=a) (y:=2*q) (by omega)
  have w6:IntKind.i64.wrap (((a+2*q:Nat):Int) - 1)=(i0:Int):=by rw[wrap_i64 (by omega) (by omega)];omega
  have w7:=w_add1 (x:=a+2*q) (by omega)
  have w8:IntKind.u64.wrap (l:Int)=(l:Int):=wrap_u64 (by omega) (by omega)
  refine xt4 gy78 w1 h8 w8 ?_;try exact⟨⟩
  generalize hM1:tset (tset M _ _) _ _=M1
  have o1:Oth nx k M M1:=by rw[<-hM1];exact((Oth.refl _ _ _).new (by omega) _).new (by omega) _
  have z1:tget M1 (nx+8)=some (.row [.int .u64 l]):=by rw[<-hM1];exact(by(repeat (first | rw[tget_tset,if_pos rfl] | rw[tget_tset,if_neg (by omega)] | rw[tget_tdel,if_neg (by omega)]));try (first | rfl | assumption))
  have z2:tget M1 k=some (rwU d):=by rw[<-hM1];exact(by(repeat (first | rw[tget_tset,if_pos rfl] | rw[tget_tset,if_neg (by omega)] | rw[tget_tdel,if_neg (by omega)]));try (first | rfl | assumption))
  clear hM1
  refine CN_fok (f139 ρ _ _ l (by omega)) ?_
  rintro⟨u,M2,n2⟩ ⟨g1,g2,g3⟩
  simp only at g1 g2 g3
  subst g1
  have o2:Oth nx k M M2:=o1.agr (g2.le (by omega)) (Nat.le_refl _)
  have z3:=(g2 (nx+8) (by omega)).trans z1
  have z4:=(g2 k (by omega)).trans z2
  have hpw:=bitsLen_pow l (by omega) (by omega)
  have hpp:1<=2 ^ bitsLen l:=Nat.one_le_two_pow
  generalize 2 ^ bitsLen l=md at hpw hpp
  have w9:IntKind.u64.wrap ((md:Int) - 1)=((md - 1:Nat):Int):=by rw[wrap_u64 (by omega) (by omega)];omega
  clear z1 z2 o1 g2
  refine xt7 gy78 w1 w2 w4 w5 w6 h8 ?_;try exact⟨⟩
  refine W_loop (fun m s=>∃(i:Nat) (d':Array Int) (r:Int),tget s.env 0=some sv/\tget s.env 1=some (.int .i64 a)/\tget s.env 6=some (.int .i64 l)/\tget s.env 7=some (.mp (nx+8) 0)/\tget s.env 8=some (.int .u64 md)/\tget s.env 9=some (.int .i64 i)/\tget s.M k=some (rwU d')/\tget s.M (nx+8)=some (.row [.int .u64 r])/\Oth nx k M s.M/\nx+9<=s.nx/\InsXU a b n d i0 m i d')
   3 ⟨i0,d,l,?_⟩ ?_
  ·refine xt1 gy78 ?_;try exact⟨⟩
   exact⟨z4,z3,o2,by omega,by omega,by omega,by omega,hd,permIn_refl _ _ _⟩
  ·clear z3 z4 o2 hM hd
   rintro m ⟨env,M1,n1⟩ ⟨i,d1,r,e0,e1,e6,e7,e8,e9,hM1,hr,ho,hn1,h1,h2,h3,hd1,hP⟩
   simp only at e0 e1 e6 e7 e8 e9 hM1 hr ho hn1
   by_cases hlt:(i:Int)<=(a+(2*q+1):Nat)
   ·refine xt12 gy78 e0 e1 e6 e7 e8 e9 w2 w4 w5 w7 hlt ?_;try exact⟨⟩
    refine CN_fok (f140 ρ hr) ?_
    rintro⟨u,M2,n2⟩ ⟨r2,k1,k2,k3,k4⟩
    simp only at k1 k2 k3 k4
    subst k1
    obtain⟨o,hoe,hob⟩:=and_bd r2 (md - 1) (by omega)
    have s4:binInt .and .u64 r2 .u64 ((md - 1:Nat):Int)=some (.int .u64 (o:Int)):=by rw[<-hoe];rfl
    have w10:IntKind.i64.wrap (o:Int)=(o:Int):=wrap_i64 (by omega) (by omega)
    have hM2:tget M2 k=some (rwU d1):=k3.get (by omega) (by omega) hM1
    have ho2:Oth nx k M M2:=fun j hj hk'=>(k3 j (by omega) (by omega)).trans (ho j hj hk')
    have wi:=w_add1 (x:=i) (by omega)
    clear k3 hr
    by_cases hol:(l:Int)<=o
    ·have w11:=w_sub (x:=o) (y:=l) (by omega) (by omega)
     have w12:=w_add (x:=a) (y:=o - l) (by omega)
     have y1:=A.ix (i) (by omega)
     have y2:=A.ix (a+(o - l)) (by omega)
     have k1:=A.ld M2 d1 hM2 hd1 (i) (by omega)
     have k2:=A.ld M2 d1 hM2 hd1 (a+(o - l)) (by omega)
     have st1:=A.st M2 d1 hM2 hd1 (i) (by omega) d1[a+(o - l)]!
     have st2:=A.st (tset M2 k (rwU (d1.setIfInBounds (i) d1[a+(o - l)]!))) _ (by(repeat (first | rw[tget_tset,if_pos rfl] | rw[tget_tset,if_neg (by omega)] | rw[tget_tdel,if_neg (by omega)]));try (first | rfl | assumption)) (by simp;omega) (a+(o - l)) (by omega) d1[i]!
     refine xt20 gy78 e0 e1 e6 e7 e8 e9 w9 s4 w10 hol w11 w12 wi y1 y2 k1 k2 st1 st2 ?_;try exact⟨⟩
     exact⟨i0+3 - (i+1),by omega,i+1,swp d1 i (a+(o - l)),r2,rfl,rfl,(by(repeat (first | rw[tget_tset,if_pos rfl] | rw[tget_tset,if_neg (by omega)] | rw[tget_tdel,if_neg (by omega)]));try (first | rfl | assumption)),(ho2.set _).set _,by omega,by omega,by omega,rfl,(by rw[swp_size];exact hd1),permIn_trans _ _ _ _ _ hP (swp_permIn _ _ _ _ _ (by omega) (by omega) (by omega) (by omega) (by omega))⟩
    ·have w12:=w_add (x:=a) (y:=o) (by omega)
     have y1:=A.ix (i) (by omega)
     have y2:=A.ix (a+o) (by omega)
     have k1:=A.ld M2 d1 hM2 hd1 (i) (by omega)
     have k2:=A.ld M2 d1 hM2 hd1 (a+o) (by omega)
     have st1:=A.st M2 d1 hM2 hd1 (i) (by omega) d1[a+o]!
     have st2:=A.st (tset M2 k (rwU (d1.setIfInBounds (i) d1[a+o]!))) _ (by(repeat (first | rw[tget_tset,if_pos rfl] | rw[tget_tset,if_neg (by omega)] | rw[tget_tdel,if_neg (by omega)]));try (first | rfl | assumption)) (by simp;omega) (a+o) (by omega) d1[i]!
     refine xt19 gy78 e0 e1 e6 e7 e8 e9 w9 s4 w10 hol w12 wi y1 y2 k1 k2 st1 st2 ?_;try exact⟨⟩
     exact⟨i0+3 - (i+1),by omega,i+1,swp d1 i (a+o),r2,rfl,rfl,(by(repeat (first | rw[tget_tset,if_pos rfl] | rw[tget_tset,if_neg (by omega)] | rw[tget_tdel,if_neg (by omega)]));try (first | rfl | assumption)),(ho2.set _).set _,by omega,by omega,by omega,rfl,(by rw[swp_size];exact hd1),permIn_trans _ _ _ _ _ hP (swp_permIn _ _ _ _ _ (by omega) (by omega) (by omega) (by omega) (by omega))⟩
   ·refine xt13 gy78 e0 e1 e6 e7 e8 e9 w2 w4 w5 w7 hlt @BrkPU.eq_1 ?_;try exact⟨⟩
    exact⟨⟨d1,hd1,hP,hM1⟩,ho,by omega⟩
 ·refine xt4 gy78 w1 h8 @BrkPU.eq_1 ?_;try exact⟨⟩
  exact⟨⟨d,hd,permIn_refl _ _ _,hM⟩,Oth.refl _ _ _,by omega⟩
end
end Go.Xs
namespace Go.Xs
noncomputable section
open Go.Proofs Go.Sort
set_option maxRecDepth 100000
set_option maxHeartbeats 8000000
def PdqPU (nx k n:Nat) (M:Hp) (a b:Nat) (d:Array Int) (r:Out):Prop:=r.1 = .tup []/\(∃d':Array Int,d'.size=n/\(PermIn a b d d'/\SortedIn ltInt a b d')/\tget r.2.1 k=some (rwU d'))/\Oth nx k M r.2.1/\nx<=r.2.2
theorem f107 (ρ:Rho):∀(sz:Nat) {M:Hp} {nx k n:Nat} {sv:XV} {off:Nat->Nat} (A:ArrU k n sv off) {d:Array Int} (hM:tget M k=some (rwU d)) (hd:d.size=n) (hk:k<nx) (hn:n<=1000) {a b:Nat} (lim:Int) (hsz:b - a<=sz) (hab:a<=b) (hb:b<=n) (hB:Below ltInt a b d),
 FOk Tryz.prog ρ 107 [sv,.int .i64 a,.int .i64 b,.int .i64 lim] M nx (PdqPU nx k n M a b d):=by
 intro sz
 induction sz using Nat.strongRecOn with
 | _ sz ih =>
 intro M nx k n sv off A d hM hd hk hn a b lim hsz hab hb hB
 refine FOk.walk (m:=134) (rs:=[]) follows Tryz.func107 (by kernel_rfl) rfl rfl rfl ?_
 conv in W _ _ _ _ _ _ _=>arg 4;whnf
 refine xt1 gy79 ?_;try exact⟨⟩
 refine W_loop (fun m s=>∃(x y:Nat) (lim':Int) (wb wp:Bool) (d1:Array Int),tget s.env 0=some sv/\tget s.env 1=some (.int .i64 (x:Nat))/\tget s.env 2=some (.int .i64 (y:Nat))/\tget s.env 3=some (.int .i64 lim')/\tget s.env 8=some (.bool wb)/\tget s.env 9=some (.bool wp)/\tget s.M k=some (rwU d1)/\Oth nx k M s.M/\nx<=s.nx/\InsD ltInt a b n d m x y d1)
  (b - a) ⟨a,b,lim,true,true,d,?_⟩ ?_
 ·refine xt1 gy79 ?_;try exact⟨⟩
  exact⟨hM,Oth.refl _ _ _,by omega,by omega,by omega,by omega,rfl,hd,hB,fun R h1 h2=>⟨h1,h2⟩⟩
 ·clear hM hd hB
  rintro m ⟨env,M1,n1⟩ ⟨x,y,lim',wb,wp,d1,e0,e1,e2,e3,e8,e9,hM1,ho,hn1,h1,h2,h3,h4,hd1,hB,hG⟩
  simp only at e0 e1 e2 e3 e8 e9 hM1 ho hn1
  rw[W_block]
  have w1:=w_sub (x:=y) (y:=x) (by omega) (by omega)
  refine W_cut4 (fun s=>∃(lim2:Int) (d2:Array Int),tget s.env 0=some sv/\tget s.env 1=some (.int .i64 (x:Nat))/\tget s.env 2=some (.int .i64 (y:Nat))/\tget s.env 3=some (.int .i64 lim2)/\tget s.env 8=some (.bool wb)/\tget s.env 9=some (.bool wp)/\tget s.env 10=some (.int .i64 (y - x:Nat))/\tget s.M k=some (rwU d2)/\Oth nx k M s.M/\nx<=s.nx/\PmD n x y d1 d2) ?_ ?_
  ·by_cases h12:((y - x:Nat):Int)<=12
   ·refine xt9 gy79 w1 h12 e0 e1 e2 e3 e8 e9 ?_;try exact⟨⟩
    refine CN_fok (f144 ρ A hM1 hd1 (by omega) hn (a:=x) (b:=y) (by omega) (by omega)) ?_
    rintro⟨u,M2,n2⟩ ⟨k1,⟨k2,_⟩,k3,k4⟩
    simp only at k1 k2 k3 k4
    subst k1
    obtain⟨u1,u2⟩:=insertionSort_holds swoU d1 x y (by omega) (by omega)
    obtain⟨t1,t2⟩:=hG _ u1 u2
    have ts:(insertionSort ltInt d1 x y).size=n:=u1.1.trans hd1
    refine xt5 gy79 @cutK_n @cutK_ret @cutK_exit @PdqPU.eq_1 ?_;try exact⟨⟩
    exact⟨⟨_,ts,⟨t1,t2⟩,k2⟩,ho.trans k3 (by omega),by omega⟩
   ·by_cases hl0:lim'=0
    ·refine xt10 gy79 w1 h12 hl0 e0 e1 e2 e3 e8 e9 ?_;try exact⟨⟩
     refine CN_fok (f145 ρ A hM1 hd1 (by omega) hn (a:=x) (b:=y) (by omega) (by omega)) ?_
     rintro⟨u,M2,n2⟩ ⟨k1,⟨k2,_⟩,k3,k4⟩
     simp only at k1 k2 k3 k4
     subst k1
     obtain⟨u1,u2⟩:=heapSort_holds swoU d1 x y (by omega) (by omega)
     obtain⟨t1,t2⟩:=hG _ u1 u2
     have ts:(heapSort ltInt d1 x y).size=n:=u1.1.trans hd1
     refine xt5 gy79 @cutK_n @cutK_ret @cutK_exit @PdqPU.eq_1 ?_;try exact⟨⟩
     exact⟨⟨_,ts,⟨t1,t2⟩,k2⟩,ho.trans k3 (by omega),by omega⟩
    ·cases wb with
     | true =>
       refine xt13 gy79 w1 h12 hl0 @cutK_n @cutK_ret @cutK_exit e0 e1 e2 e3 e8 e9 ?_;try exact⟨⟩
       exact⟨lim',d1,rfl,hM1,ho,by omega,by omega,hd1,permIn_refl _ _ _⟩
     | false =>
       refine xt10 gy79 w1 h12 hl0 e0 e1 e2 e3 e8 e9 ?_;try exact⟨⟩
       refine CN_fok (f146 ρ A hM1 hd1 (by omega) hn (a:=x) (b:=y) (by omega) (by omega)) ?_
       rintro⟨u,M2,n2⟩ ⟨k1,⟨d2,k2,k5,k6⟩,k3,k4⟩
       simp only at k1 k6 k3 k4
       subst k1
       refine xt10 gy79 @cutK_n @cutK_ret @cutK_exit e0 e1 e2 e3 e8 e9 ?_;try exact⟨⟩
       exact⟨IntKind.i64.wrap (lim' - 1),d2,rfl,k6,ho.trans k3 (by omega),by omega,by omega,k2,k5⟩
  clear e0 e1 e2 e3 e8 e9 hM1 ho hn1
  rintro⟨env,M1,n1⟩ ⟨lim2,d2,e0,e1,e2,e3,e8,e9,e10,hM1,ho,hn1,hl,hd2,hP⟩
  simp only at e0 e1 e2 e3 e8 e9 e10 hM1 ho hn1
  refine W_cut2 (fun s=>∃(p:Nat) (hh:Int) (d3:Array Int),tget s.env 0=some sv/\tget s.env 1=some (.int .i64 (x:Nat))/\tget s.env 2=some (.int .i64 (y:Nat))/\tget s.env 3=some (.int .i64 lim2)/\tget s.env 8=some (.bool wb)/\tget s.env 9=some (.bool wp)/\tget s.env 10=some (.int .i64 (y - x:Nat))/\tget s.env 11=some (.int .i64 p)/\tget s.env 12=some (.int .i64 hh)/\tget s.M k=some (rwU d3)/\Oth nx k M s.M/\nx<=s.nx/\PmE n x y p d1 d3) ?_ ?_
  ·refine xt8 gy79 e10 e0 e1 e2 e3 e8 e9 ?_;try exact⟨⟩
   refine CN_fok (f147 ρ A hM1 hd2 (by omega) hn (a:=x) (b:=y) (by omega) (by omega)) ?_
   rintro⟨u,M2,n2⟩ ⟨p,hh,k1,k2,k3,k4⟩
   simp only at k1 k3 k4
   subst k1
   have hM2:=(k3 k (by omega)).trans hM1
   have ho2:=ho.agr k3 (by omega)
   clear k3
   by_cases h2':hh=2
   ·have v1:=w_sub1 (x:=y) (by omega) (by omega)
    have v2:=w_sub (x:=p) (y:=x) (by omega) (by omega)
    have v3:=w_sub (x:=y - 1) (y:=p - x) (by omega) (by omega)
    refine xt9 gy79 e10 h2' e0 e1 e2 e3 e8 e9 ?_;try exact⟨⟩
    refine CN_fok (f148 ρ A hM2 hd2 (by omega) hn (a:=x) (b:=y) (by omega) (by omega)) ?_
    rintro⟨u,M3,n3⟩ ⟨j1,⟨j2,_⟩,j3,j4⟩
    simp only at j1 j2 j3 j4
    subst j1
    have hPr:=reverseRange_holds d2 x y (by omega) (by omega)
    refine xt14 gy79 @cutK_n @cutK_ret @cutK_exit e10 v1 v2 v3 e0 e1 e2 e3 e8 e9 ?_;try exact⟨⟩
    exact⟨y - 1 - (p - x),1,reverseRange d2 x y,rfl,rfl,j2,ho2.trans j3 (by omega),by omega,by omega,by omega,hPr.1.trans hd2,permIn_trans _ _ _ _ _ hP hPr⟩
   ·refine xt12 gy79 @cutK_n @cutK_ret @cutK_exit e10 h2' e0 e1 e2 e3 e8 e9 ?_;try exact⟨⟩
    exact⟨p,hh,d2,rfl,rfl,hM2,ho2,by omega,by omega,k2,hd2,hP⟩
  clear e0 e1 e2 e3 e8 e9 e10 hM1 ho hn1 hl hd2 hP d2
  rintro⟨env,M1,n1⟩ ⟨p,hh,d3,e0,e1,e2,e3,e8,e9,e10,ep,eh,hM1,ho,hn1,hl,hp,hd3,hP⟩
  simp only at e0 e1 e2 e3 e8 e9 e10 ep eh hM1 ho hn1
  refine W_cut1 (fun s=>∃(d4:Array Int),tget s.env 0=some sv/\tget s.env 1=some (.int .i64 (x:Nat))/\tget s.env 2=some (.int .i64 (y:Nat))/\tget s.env 3=some (.int .i64 lim2)/\tget s.env 8=some (.bool wb)/\tget s.env 9=some (.bool wp)/\tget s.env 10=some (.int .i64 (y - x:Nat))/\tget s.env 11=some (.int .i64 p)/\tget s.M k=some (rwU d4)/\Oth nx k M s.M/\nx<=s.nx/\PmE n x y p d1 d4) ?_ ?_
  ·by_cases hc:wb=true/\wp=true/\hh=1
   ·obtain⟨c1,c2,c3⟩:=hc
    subst c1
    subst c2
    refine xt11 gy79 e10 ep eh c3 e0 e1 e2 e3 e8 e9 ?_;try exact⟨⟩
    refine CN_fok (f149 ρ A hM1 hd3 (by omega) hn (a:=x) (b:=y) (by omega) (by omega)) ?_
    rintro⟨u,M2,n2⟩ ⟨k1,⟨k2,_⟩,k3,k4⟩
    simp only at k1 k2 k3 k4
    subst k1
    obtain⟨u1,u2⟩:=partialInsertionSort_holds swoU d3 x y (by omega) (by omega) (hB.perm (by omega) hP)
    have ts:(partialInsertionSort ltInt d3 x y).1.size=n:=u1.1.trans hd3
    cases hR:(partialInsertionSort ltInt d3 x y).2 with
    | true =>
      obtain⟨t1,t2⟩:=hG _ (permIn_trans _ _ _ _ _ hP u1) (u2 hR)
      refine xt11 gy79 @cutK_n @cutK_ret @cutK_exit @PdqPU.eq_1 e0 e1 e2 e3 e8 e9 ?_;try exact⟨⟩
      exact⟨⟨_,ts,⟨t1,t2⟩,k2⟩,ho.trans k3 (by omega),by omega⟩
    | false =>
      refine xt13 gy79 @cutK_n @cutK_ret @cutK_exit e10 ep eh e0 e1 e2 e3 e8 e9 ?_;try exact⟨⟩
      exact⟨_,k2,ho.trans k3 (by omega),by omega,by omega,hp,ts,permIn_trans _ _ _ _ _ hP u1⟩
   ·cases wb with
    | false =>
      refine xt13 gy79 @cutK_n @cutK_ret @cutK_exit e10 ep eh e0 e1 e2 e3 e8 e9 ?_;try exact⟨⟩
      exact⟨d3,hM1,ho,by omega,by omega,hp,hd3,hP⟩
    | true =>
      cases wp with
      | false =>
        refine xt13 gy79 @cutK_n @cutK_ret @cutK_exit e10 ep eh e0 e1 e2 e3 e8 e9 ?_;try exact⟨⟩
        exact⟨d3,hM1,ho,by omega,by omega,hp,hd3,hP⟩
      | true =>
        have hh1:¬ hh=1:=fun q=>hc ⟨rfl,rfl,q⟩
        clear hc
        refine xt14 gy79 @cutK_n @cutK_ret @cutK_exit e10 ep eh hh1 e0 e1 e2 e3 e8 e9 ?_;try exact⟨⟩
        exact⟨d3,hM1,ho,by omega,by omega,hp,hd3,hP⟩
  clear e0 e1 e2 e3 e8 e9 e10 ep eh hM1 ho hn1 hl hp hd3 hP d3
  rintro⟨env,M1,n1⟩ ⟨d4,e0,e1,e2,e3,e8,e9,e10,ep,hM1,ho,hn1,hl,hp,hd4,hP⟩
  simp only at e0 e1 e2 e3 e8 e9 e10 ep hM1 ho hn1
  by_cases hx0:(0:Int)<x
  ·have x1:=A.ix (x - 1) (by omega)
   have x2:=A.ix p (by omega)
   have l1:=A.ld M1 d4 hM1 hd4 (x - 1) (by omega)
   have l2:=A.ld M1 d4 hM1 hd4 p (by omega)
   have wx:=w_sub1 (x:=x) (by omega) (by omega)
   simp (maxSteps:=10000000) (disch:=first|assumption|decide|omega|(simp only[zde, *];done)|(simp only[zdf,big];first|done|assumption|omega)) only [zst,argsE,spl,resXs,resX,vI,vB,vX,oneOr_0,oneOr_1,oneOr_2,Nat.reduceLT,Nat.reduceEqDiff,Nat.reduceAdd,Nat.reduceMul,Nat.reduceSub,reduceIte,Int.reduceLT,Int.reduceLE,Int.reduceEq,Int.reduceNeg,Int.reduceToNat,gy79,e10,ep,hx0,wx,x1,x2,l1,l2,e0,e1,e2,e3,e8,e9]
   refine RD_gcall ?_ rfl ?_
   ·refine xt1 gy79 ?_;try exact⟨⟩
   refine xt1 gy79 ?_;try exact⟨⟩
   refine CD_sem (Csem.pure rfl rfl fun N=>f150 ρ N _ _ _) (by decide) ?_
   cases hq:ltInt d4[x - 1]! d4[p]! with
   | false =>
     have hc:=hq
     refine xt10 gy79 e10 ep hc e0 e1 e2 e3 e8 e9 ?_;try exact⟨⟩
     refine CN_fok (f151 ρ A hM1 hd4 (by omega) hn (a:=x) (b:=y) (pivot:=p) (by omega) (by omega) (by omega)) ?_
     rintro⟨u,M2,n2⟩ ⟨k1,⟨k2,_⟩,k3,k4⟩
     simp only at k1 k2 k3 k4
     subst k1
     obtain⟨mid,d5,hRe⟩:∃mid d5,partitionEqual ltInt d4 x y p=(mid,d5):=⟨_,_,rfl⟩
     rw[hRe]at k2 ⊢
     simp only at k2 ⊢
     obtain⟨r1,r2,r3,r4,r5⟩:=round_eq swoU (partitionEqual_holds _) (d3:=d4) (by omega) hp.1 hp.2 (by rw[hd4];omega) (hB.perm (by rw[hd1];omega) hP) hq hRe
     refine xt9 gy79 e10 ep e0 e1 e2 e3 e8 e9 ?_;try exact⟨⟩
     exact⟨y - mid,by omega,mid,y,lim2,wb,wp,d5,rfl,rfl,rfl,rfl,rfl,k2,ho.trans k3 (by omega),by omega,by omega,by omega,by omega,rfl,r3.trans hd4,r4,fun R q1 q2=>let ⟨u1,u2⟩:=r5 R q1 q2;hG R (permIn_trans _ _ _ _ _ hP u1) u2⟩
   | true =>
     have hc:=hq
     refine xt10 gy79 e10 ep hc e0 e1 e2 e3 e8 e9 ?_;try exact⟨⟩
     refine CN_fok (f152 ρ A hM1 hd4 (by omega) hn (a:=x) (b:=y) (pivot:=p) (by omega) (by omega) (by omega)) ?_
     rintro⟨u,M2,n2⟩ ⟨k1,⟨k2,_⟩,k3,k4⟩
     simp only at k1 k2 k3 k4
     subst k1
     obtain⟨mid,al,d5,hRe⟩:∃mid al d5,partition ltInt d4 x y p=(mid,al,d5):=⟨_,_,_,rfl⟩
     rw[hRe]at k2 ⊢
     simp only at k2 ⊢
     have hy4:y<=d4.size:=by rw[hd4];omega
     obtain⟨r1,r2,r3,r4,r5,r6,r7⟩:=round_part swoU (partition_holds _) (d3:=d4) hp.1 hp.2 hy4 (hB.perm (by rw[hd1];omega) hP) hRe
     have hd5:d5.size=n:=r3.trans hd4
     have ho2:=ho.trans k3 (by omega)
     have hM2:=k2
     clear k2 k3
     have v1:=w_sub (x:=mid) (y:=x) (by omega) (by omega)
     have v2:=w_sub (x:=y) (y:=mid) (by omega) (by omega)
     have v3:IntKind.i64.wrap (((y - x:Nat):Int).tdiv 8)=(((y - x) / 8:Nat):Int):=by
      rw[show ((y - x:Nat):Int).tdiv 8=(((y - x) / 8:Nat):Int) by rw[Int.tdiv_eq_ediv_of_nonneg (by omega)];omega,wrap_i64 (by omega) (by omega)]
     have v4:=w_add1 (x:=mid) (by omega)
     by_cases hlr:((mid - x:Nat):Int)<((y - mid:Nat):Int)
     ·refine xt14 gy79 e10 ep v1 v2 v3 v4 hlr e0 e1 e2 e3 e8 e9 ?_;try exact⟨⟩
      refine CN_fok (ih (mid - x) (by omega) A hM2 hd5 (by omega) hn (a:=x) (b:=mid) lim2 (by omega) (by omega) (by omega) r4) ?_
      rintro⟨u,M3,n3⟩ ⟨j1,⟨L,j2,⟨j3,j4⟩,j5⟩,j6,j7⟩
      simp only at j1 j5 j6 j7
      subst j1
      obtain⟨t1,t2⟩:=r6 L j3 j4
      refine xt10 gy79 e10 ep v4 e0 e1 e2 e3 e8 e9 ?_;try exact⟨⟩
      exact⟨y - (mid+1),by omega,mid+1,y,lim2,_,_,L,rfl,rfl,rfl,rfl,rfl,j5,ho2.trans j6 (by omega),by omega,by omega,by omega,by omega,rfl,j2,t1,fun R q1 q2=>let ⟨u1,u2⟩:=t2 R q1 q2;hG R (permIn_trans _ _ _ _ _ hP u1) u2⟩
     ·refine xt14 gy79 e10 ep v1 v2 v3 v4 hlr e0 e1 e2 e3 e8 e9 ?_;try exact⟨⟩
      refine CN_fok (ih (y - (mid+1)) (by omega) A hM2 hd5 (by omega) hn (a:=mid+1) (b:=y) lim2 (by omega) (by omega) (by omega) r5) ?_
      rintro⟨u,M3,n3⟩ ⟨j1,⟨L,j2,⟨j3,j4⟩,j5⟩,j6,j7⟩
      simp only at j1 j5 j6 j7
      subst j1
      obtain⟨t1,t2⟩:=r7 L j3 j4
      refine xt9 gy79 e10 ep e0 e1 e2 e3 e8 e9 ?_;try exact⟨⟩
      exact⟨mid - x,by omega,x,mid,lim2,_,_,L,rfl,rfl,rfl,rfl,rfl,j5,ho2.trans j6 (by omega),by omega,by omega,by omega,by omega,rfl,j2,t1,fun R q1 q2=>let ⟨u1,u2⟩:=t2 R q1 q2;hG R (permIn_trans _ _ _ _ _ hP u1) u2⟩
  ·refine xt10 gy79 e10 ep hx0 e0 e1 e2 e3 e8 e9 ?_;try exact⟨⟩
   refine RD_gskip ?_ (by decide) ?_
   ·refine xt1 gy79 ?_;try exact⟨⟩
   refine xt10 gy79 e10 ep hx0 e0 e1 e2 e3 e8 e9 ?_;try exact⟨⟩
   refine CN_fok (f152 ρ A hM1 hd4 (by omega) hn (a:=x) (b:=y) (pivot:=p) (by omega) (by omega) (by omega)) ?_
   rintro⟨u,M2,n2⟩ ⟨k1,⟨k2,_⟩,k3,k4⟩
   simp only at k1 k2 k3 k4
   subst k1
   obtain⟨mid,al,d5,hRe⟩:∃mid al d5,partition ltInt d4 x y p=(mid,al,d5):=⟨_,_,_,rfl⟩
   rw[hRe]at k2 ⊢
   simp only at k2 ⊢
   have hy4:y<=d4.size:=by rw[hd4];omega
   obtain⟨r1,r2,r3,r4,r5,r6,r7⟩:=round_part swoU (partition_holds _) (d3:=d4) hp.1 hp.2 hy4 (hB.perm (by rw[hd1];omega) hP) hRe
   have hd5:d5.size=n:=r3.trans hd4
   have ho2:=ho.trans k3 (by omega)
   have hM2:=k2
   clear k2 k3
   have v1:=w_sub (x:=mid) (y:=x) (by omega) (by omega)
   have v2:=w_sub (x:=y) (y:=mid) (by omega) (by omega)
   have v3:IntKind.i64.wrap (((y - x:Nat):Int).tdiv 8)=(((y - x) / 8:Nat):Int):=by
    rw[show ((y - x:Nat):Int).tdiv 8=(((y - x) / 8:Nat):Int) by rw[Int.tdiv_eq_ediv_of_nonneg (by omega)];omega,wrap_i64 (by omega) (by omega)]
   have v4:=w_add1 (x:=mid) (by omega)
   by_cases hlr:((mid - x:Nat):Int)<((y - mid:Nat):Int)
   ·refine xt14 gy79 e10 ep v1 v2 v3 v4 hlr e0 e1 e2 e3 e8 e9 ?_;try exact⟨⟩
    refine CN_fok (ih (mid - x) (by omega) A hM2 hd5 (by omega) hn (a:=x) (b:=mid) lim2 (by omega) (by omega) (by omega) r4) ?_
    rintro⟨u,M3,n3⟩ ⟨j1,⟨L,j2,⟨j3,j4⟩,j5⟩,j6,j7⟩
    simp only at j1 j5 j6 j7
    subst j1
    obtain⟨t1,t2⟩:=r6 L j3 j4
    refine xt10 gy79 e10 ep v4 e0 e1 e2 e3 e8 e9 ?_;try exact⟨⟩
    exact⟨y - (mid+1),by omega,mid+1,y,lim2,_,_,L,rfl,rfl,rfl,rfl,rfl,j5,ho2.trans j6 (by omega),by omega,by omega,by omega,by omega,rfl,j2,t1,fun R q1 q2=>let ⟨u1,u2⟩:=t2 R q1 q2;hG R (permIn_trans _ _ _ _ _ hP u1) u2⟩
   ·refine xt14 gy79 e10 ep v1 v2 v3 v4 hlr e0 e1 e2 e3 e8 e9 ?_;try exact⟨⟩
    refine CN_fok (ih (y - (mid+1)) (by omega) A hM2 hd5 (by omega) hn (a:=mid+1) (b:=y) lim2 (by omega) (by omega) (by omega) r5) ?_
    rintro⟨u,M3,n3⟩ ⟨j1,⟨L,j2,⟨j3,j4⟩,j5⟩,j6,j7⟩
    simp only at j1 j5 j6 j7
    subst j1
    obtain⟨t1,t2⟩:=r7 L j3 j4
    refine xt9 gy79 e10 ep e0 e1 e2 e3 e8 e9 ?_;try exact⟨⟩
    exact⟨mid - x,by omega,x,mid,lim2,_,_,L,rfl,rfl,rfl,rfl,rfl,j5,ho2.trans j6 (by omega),by omega,by omega,by omega,by omega,rfl,j2,t1,fun R q1 q2=>let ⟨u1,u2⟩:=t2 R q1 q2;hG R (permIn_trans _ _ _ _ _ hP u1) u2⟩
end
end Go.Xs
namespace Go.Xs
noncomputable section
open Go.Proofs Go.Sort
set_option maxRecDepth 100000
set_option maxHeartbeats 8000000
def InsOI (a b n:Nat) (d0:Array Ins) (m i:Nat) (d':Array Ins):Prop:=a<i/\i<=b+1/\m=b+1 - i/\d'.size=n/\insOuter ltI a b i d'=insertionSort ltI d0 a b
theorem f94 (ρ:Rho) {M:Hp} {nx k n:Nat} {sv:XV} {off:Nat->Nat} (A:ArrI k n sv off) {d:Array Ins} (hM:tget M k=some (rwI d)) (hd:d.size=n) (hk:k<nx) (hn:n<=1000) {a b:Nat} (hab:a<=b) (hb:b<=n) :
 FOk Tryz.prog ρ 94 [sv,.int .i64 a,.int .i64 b,.fn (.func 40) [] []] M nx (SortedI nx k M (insertionSort ltI d a b)):=by
 refine FOk.walk (m:=53) (rs:=[]) follows Tryz.func94 (by kernel_rfl) rfl rfl rfl ?_
 conv in W _ _ _ _ _ _ _=>arg 4;whnf
 have hwa:=w_add1 (x:=a) (by omega)
 refine xt2 gy19 hwa ?_;try exact⟨⟩
 refine W_loop (fun m s=>∃(i:Nat) (d':Array Ins),tget s.env 0=some sv/\tget s.env 1=some (.int .i64 a)/\tget s.env 2=some (.int .i64 b)/\tget s.env 3=some (.fn (.func 40) [] [])/\tget s.env 8=some (.int .i64 i)/\tget s.M k=some (rwI d')/\Oth nx k M s.M/\nx<=s.nx/\InsOI a b n d m i d')
  (b - a) ⟨a+1,d,?_⟩ ?_
 ·refine xt1 gy19 ?_;try exact⟨⟩
  exact⟨hM,Oth.refl _ _ _,by omega,by omega,by omega,by omega,hd,rfl⟩
 ·rintro m ⟨env,M1,n1⟩ ⟨i,d1,e0,e1,e2,ec,e6,hM1,ho,hn1,h1,h2,h3,hd1,hI⟩
  simp only at e0 e1 e2 ec e6 hM1 ho hn1
  rw[insOuter]at hI
  by_cases hlt:(i:Int)<b
  ·rw[if_pos (by omega)]at hI
   have hI:=Is.mk hI
   refine xt7 gy19 e0 e1 e2 e6 hlt ec ?_;try exact⟨⟩
   refine W_loop (fun m2 s=>∃(d':Array Ins),m2<=i/\tget s.env 0=some sv/\tget s.env 1=some (.int .i64 a)/\tget s.env 2=some (.int .i64 b)/\tget s.env 3=some (.fn (.func 40) [] [])/\tget s.env 8=some (.int .i64 i)/\tget s.env 9=some (.int .i64 m2)/\tget s.M k=some (rwI d')/\d'.size=n/\Oth nx k M s.M/\nx<=s.nx/\Is (insInner ltI a m2 d') (insInner ltI a i d1))
    i ⟨d1,by omega,?_⟩ ?_
   ·refine xt6 gy19 e0 e1 e2 e6 ec ?_;try exact⟨⟩
    exact⟨hM1,hd1,ho,by omega,⟨rfl⟩⟩
   ·clear e0 e1 e2 e6 ec
    rintro j ⟨env,M2,n2⟩ ⟨d2,g1,e0,e1,e2,ec,e6,e7,hM2,hd2,ho2,hn2,⟨hJ⟩⟩
    simp only at e0 e1 e2 ec e6 e7 hM2 ho2 hn2
    have hwi:=w_add1 (x:=i) (by omega)
    clear ho
    by_cases hja:(a:Int)<j
    ·obtain⟨j',rfl⟩:∃j',j=j'+1:=⟨j - 1,by omega⟩
     have hwj:=w_sub1' (x:=j') (by omega)
     have x1:=A.ix (j'+1) (by omega)
     have x2:=A.ix j' (by omega)
     have l1:=A.ld M2 d2 hM2 hd2 (j'+1) (by omega)
     have l2:=A.ld M2 d2 hM2 hd2 j' (by omega)
     have hJ:=Is.mk hJ
     refine xt13 gy19 e0 e1 e2 e6 e7 hja hwj x1 x2 l1 l2 ec ?_;try exact⟨⟩
     refine RD_gcall ?_ rfl ?_
     ·refine xt1 gy19 ?_;try exact⟨⟩
     refine xt1 gy19 ?_;try exact⟨⟩
     refine CD_sem (Csem.pure rfl rfl fun N=>f40 ρ N _ _ _) (by decide) ?_
     cases hq:ltI d2[j'+1]! d2[j']! with
     | true =>
       have hc:=cmpI_t hq
       have st1:=A.st M2 d2 hM2 hd2 (j'+1) (by omega) d2[j']!
       have st2:=A.st (tset M2 k (rwI (d2.setIfInBounds (j'+1) d2[j']!))) _ (by(repeat (first | rw[tget_tset,if_pos rfl] | rw[tget_tset,if_neg (by omega)] | rw[tget_tdel,if_neg (by omega)]));try (first | rfl | assumption)) (by simp;omega) j' (by omega) d2[j'+1]!
       have hJ2:=hJ.eq
       rw[insInner,hq,if_pos (by simp;omega)]at hJ2
       have hJ2:=Is.mk hJ2
       refine xt15 gy19 e0 e1 e2 e6 e7 hc hwj x1 x2 l1 l2 st1 st2 ec ?_;try exact⟨⟩
       exact⟨j',by omega,swp d2 (j'+1) j',by omega,rfl,rfl,(by rw[swp_size];exact hd2),((ho2.set _).set _),by omega,hJ2⟩
     | false =>
       have hc:=cmpI_f hq
       have hJ2:=hJ.eq
       rw[insInner,hq,if_neg (by simp)]at hJ2
       have hI2:=hI.eq
       rw[<-hJ2]at hI2
       have hI2:=Is.mk hI2
       clear hI hJ hJ2
       refine xt9 gy19 e0 e1 e2 e6 e7 hc hwi ec ?_;try exact⟨⟩
       exact⟨b+1 - (i+1),by omega,i+1,d2,rfl,hM2,ho2,by omega,by omega,by omega,rfl,hd2,hI2.eq⟩
    ·have hJ2:d2=insInner ltI a i d1:=by rw[<-hJ];cases j with | zero=>rw[insInner] | succ j=>rw[insInner,if_neg (by simp;omega)]
     have hI2:=hI.eq
     rw[<-hJ2]at hI2
     have hI2:=Is.mk hI2
     clear hI hJ hJ2
     refine xt9 gy19 e0 e1 e2 e6 e7 hja hwi ec ?_;try exact⟨⟩
     refine RD_gskip ?_ (by decide) ?_
     ·refine xt1 gy19 ?_;try exact⟨⟩
     refine xt9 gy19 e0 e1 e2 e6 e7 hja hwi ec ?_;try exact⟨⟩
     exact⟨b+1 - (i+1),by omega,i+1,d2,rfl,hM2,ho2,by omega,by omega,by omega,rfl,hd2,hI2.eq⟩
  ·rw[if_neg (by omega)]at hI
   subst hI
   refine xt8 gy19 e0 e1 e2 e6 hlt @SortedI.eq_1 ec ?_;try exact⟨⟩
   exact⟨⟨hM1,by omega⟩,ho,by omega⟩
def InsRI (a b n:Nat) (d0:Array Ins) (m i j:Nat) (d':Array Ins):Prop:=a<=i/\i<=j+1/\j<b/\m=j+1 - i/\d'.size=n/\reverseLoop i j d'=reverseRange d0 a b
theorem f98 (ρ:Rho) {M:Hp} {nx k n:Nat} {sv:XV} {off:Nat->Nat} (A:ArrI k n sv off) {d:Array Ins} (hM:tget M k=some (rwI d)) (hd:d.size=n) (hk:k<nx) (hn:n<=1000) {a b:Nat} (hab:a<b) (hb:b<=n) :
 FOk Tryz.prog ρ 98 [sv,.int .i64 a,.int .i64 b,.fn (.func 40) [] []] M nx (SortedI nx k M (reverseRange d a b)):=by
 refine FOk.walk (m:=34) (rs:=[]) follows Tryz.func98 (by kernel_rfl) rfl rfl rfl ?_
 conv in W _ _ _ _ _ _ _=>arg 4;whnf
 have hwb:=w_sub1 (x:=b) (by omega) (by omega)
 refine xt2 gy19 hwb ?_;try exact⟨⟩
 refine W_loop (fun m s=>∃(i j:Nat) (d':Array Ins),tget s.env 0=some sv/\tget s.env 8=some (.int .i64 i)/\tget s.env 9=some (.int .i64 j)/\tget s.M k=some (rwI d')/\Oth nx k M s.M/\nx<=s.nx/\InsRI a b n d m i j d')
  (b - a) ⟨a,b - 1,d,?_⟩ ?_
 ·refine xt1 gy19 ?_;try exact⟨⟩
  exact⟨hM,Oth.refl _ _ _,by omega,by omega,by omega,by omega,by omega,hd,rfl⟩
 ·rintro m ⟨env,M1,n1⟩ ⟨i,j,d1,e0,e6,e7,hM1,ho,hn1,h1,h2,h4,h3,hd1,hI⟩
  simp only at e0 e6 e7 hM1 ho hn1
  rw[reverseLoop]at hI
  by_cases hlt:(i:Int)<j
  ·rw[if_pos (by omega)]at hI
   have hI:=Is.mk hI
   have wi:=w_add1 (x:=i) (by omega)
   have wj:=w_sub1 (x:=j) (by omega) (by omega)
   have x1:=A.ix i (by omega)
   have x2:=A.ix j (by omega)
   have l1:=A.ld M1 d1 hM1 hd1 i (by omega)
   have l2:=A.ld M1 d1 hM1 hd1 j (by omega)
   have st1:=A.st M1 d1 hM1 hd1 i (by omega) d1[j]!
   have st2:=A.st (tset M1 k (rwI (d1.setIfInBounds i d1[j]!))) _ (by(repeat (first | rw[tget_tset,if_pos rfl] | rw[tget_tset,if_neg (by omega)] | rw[tget_tdel,if_neg (by omega)]));try (first | rfl | assumption)) (by simp;omega) j (by omega) d1[i]!
   refine xt13 gy19 e0 e6 e7 hlt x1 x2 l1 l2 st1 st2 wi wj ?_;try exact⟨⟩
   exact⟨(j - 1)+1 - (i+1),by omega,i+1,j - 1,swp d1 i j,rfl,rfl,rfl,((ho.set _).set _),by omega,by omega,by omega,by omega,rfl,(by rw[swp_size];exact hd1),hI.eq⟩
  ·rw[if_neg (by omega)]at hI
   subst hI
   refine xt6 gy19 e0 e6 e7 hlt @SortedI.eq_1 ?_;try exact⟨⟩
   exact⟨⟨hM1,by omega⟩,ho,by omega⟩
end
end Go.Xs
namespace Go.Xs
noncomputable section
open Go.Proofs Go.Sort
set_option maxRecDepth 100000
set_option maxHeartbeats 8000000
def InsSI (hi first root n:Nat) (d0:Array Ins) (m r:Nat) (d':Array Ins):Prop:=r<=1000/\m=hi - r/\d'.size=n/\siftDown ltI hi first r d'=siftDown ltI hi first root d0
theorem sift_aI {hi first r:Nat} {d:Array Ins} (h:¬ hi<=2*r+1) (h2:2*r+2<hi) (h3:ltI d[first+(2*r+1)]! d[first+(2*r+2)]! = true) :
 siftDown ltI hi first r d=if (!ltI d[first+r]! d[first+(2*r+2)]!)=true then d else siftDown ltI hi first (2*r+2) (swp d (first+r) (first+(2*r+2))):=by
 rw[siftDown,dif_neg h,if_pos (by rw[show first+(2*r+1)+1=first+(2*r+2) by omega,h3];simp;omega),dif_pos h2]
theorem sift_bI {hi first r:Nat} {d:Array Ins} (h:¬ hi<=2*r+1) (h2:¬ (2*r+2<hi/\ltI d[first+(2*r+1)]! d[first+(2*r+2)]! = true)) :
 siftDown ltI hi first r d=if (!ltI d[first+r]! d[first+(2*r+1)]!)=true then d else siftDown ltI hi first (2*r+1) (swp d (first+r) (first+(2*r+1))):=by
 rw[siftDown,dif_neg h,if_neg (by rw[show first+(2*r+1)+1=first+(2*r+2) by omega];simpa using h2)]
theorem f138 (ρ:Rho) {M:Hp} {nx k n:Nat} {sv:XV} {off:Nat->Nat} (A:ArrI k n sv off) {d:Array Ins} (hM:tget M k=some (rwI d)) (hd:d.size=n) (hk:k<nx) (hn:n<=1000) {root hi first:Nat} (hb:first+hi<=n) (hr:root<=1000) :
 FOk Tryz.prog ρ 138 [sv,.int .i64 root,.int .i64 hi,.int .i64 first,.fn (.func 40) [] []] M nx (SortedI nx k M (siftDown ltI hi first root d)):=by
 refine FOk.walk (m:=82) (rs:=[]) follows Tryz.func138 (by kernel_rfl) rfl rfl rfl ?_
 conv in W _ _ _ _ _ _ _=>arg 4;whnf
 refine xt1 gy80 ?_;try exact⟨⟩
 refine W_loop (fun m s=>∃(r:Nat) (d':Array Ins),tget s.env 0=some sv/\tget s.env 2=some (.int .i64 hi)/\tget s.env 3=some (.int .i64 first)/\tget s.env 4=some (.fn (.func 40) [] [])/\tget s.env 10=some (.int .i64 r)/\tget s.M k=some (rwI d')/\Oth nx k M s.M/\nx<=s.nx/\InsSI hi first root n d m r d')
  (hi - root) ⟨root,d,?_⟩ ?_
 ·refine xt1 gy80 ?_;try exact⟨⟩
  exact⟨hM,Oth.refl _ _ _,by omega,by omega,rfl,hd,rfl⟩
 ·rintro m ⟨env,M1,n1⟩ ⟨r,d1,e0,e2,e3,ec,e8,hM1,ho,hn1,h1,h2,hd1,hI⟩
  simp only at e0 e2 e3 ec e8 hM1 ho hn1
  have hI:=Is.mk hI
  have w1:IntKind.i64.wrap (2*(r:Int))=((2*r:Nat):Int):=by rw[wrap_i64 (by omega) (by omega)];omega
  have w2:=w_add1 (x:=2*r) (by omega)
  have w3:IntKind.i64.wrap (((2*r+1:Nat):Int)+1)=((2*r+2:Nat):Int):=w_add1 (x:=2*r+1) (by omega)
  by_cases hlt:(hi:Int)<=(2*r+1:Nat)
  ·have hI2:=hI.eq
   rw[siftDown,dif_pos (by omega)]at hI2
   have hI2:=Is.mk hI2
   refine xt10 gy80 e0 e2 e3 e8 hlt w1 w2 @SortedI.eq_1 ec ?_;try exact⟨⟩
   rw[<-hI2.eq]
   exact⟨⟨hM1,by omega⟩,ho,by omega⟩
  ·by_cases hc2:((2*r+2:Nat):Int)<hi
   ·have w6:=w_add (x:=first) (y:=2*r+1) (by omega)
    have w7:IntKind.i64.wrap (((first+(2*r+1):Nat):Int)+1)=((first+(2*r+2):Nat):Int):=w_add1 (x:=first+(2*r+1)) (by omega)
    have x3:=A.ix (first+(2*r+1)) (by omega)
    have x4:=A.ix (first+(2*r+2)) (by omega)
    have l3:=A.ld M1 d1 hM1 hd1 (first+(2*r+1)) (by omega)
    have l4:=A.ld M1 d1 hM1 hd1 (first+(2*r+2)) (by omega)
    refine xt17 gy80 e0 e2 e3 e8 hlt hc2 w1 w2 w3 w6 w7 x3 x4 l3 l4 ec ?_;try exact⟨⟩
    refine RD_gcall ?_ rfl ?_
    ·refine xt1 gy80 ?_;try exact⟨⟩
    refine xt1 gy80 ?_;try exact⟨⟩
    refine CD_sem (Csem.pure rfl rfl fun N=>f40 ρ N _ _ _) (by decide) ?_
    cases hq:ltI d1[first+(2*r+1)]! d1[first+(2*r+2)]! with
    | true =>
      have hc:=cmpI_t hq
      have hI2:=hI.eq
      rw[sift_aI (by omega) (by omega) hq]at hI2
      have w4:=w_add (x:=first) (y:=r) (by omega)
      have w5:=w_add (x:=first) (y:=2*r+2) (by omega)
      have x1:=A.ix (first+r) (by omega)
      have x2:=A.ix (first+(2*r+2)) (by omega)
      have l1:=A.ld M1 d1 hM1 hd1 (first+r) (by omega)
      have l2:=A.ld M1 d1 hM1 hd1 (first+(2*r+2)) (by omega)
      refine xt14 gy80 e0 e2 e3 e8 hc w3 w4 w5 x1 x2 l1 l2 ec ?_;try exact⟨⟩
      clear hc hq w1 w2 w3 w6 w7 x3 x4 l3 l4
      refine CD_sem (Csem.pure rfl rfl fun N=>f40 ρ N _ _ _) (by decide) ?_
      cases hq:ltI d1[first+r]! d1[first+(2*r+2)]! with
      | false =>
        have hc:=cmpI_f hq
        rw[hq,if_pos (show (!false)=true from rfl)]at hI2
        have hI2:=Is.mk hI2
        refine xt8 gy80 e0 e2 e3 e8 hc @SortedI.eq_1 ec ?_;try exact⟨⟩
        rw[<-hI2.eq]
        exact⟨⟨hM1,by omega⟩,ho,by omega⟩
      | true =>
        have hc:=cmpI_t hq
        rw[hq,if_neg (by simp)]at hI2
        have hI2:=Is.mk hI2
        have st1:=A.st M1 d1 hM1 hd1 (first+r) (by omega) d1[first+(2*r+2)]!
        have st2:=A.st (tset M1 k (rwI (d1.setIfInBounds (first+r) d1[first+(2*r+2)]!))) _ (by(repeat (first | rw[tget_tset,if_pos rfl] | rw[tget_tset,if_neg (by omega)] | rw[tget_tdel,if_neg (by omega)]));try (first | rfl | assumption)) (by simp;omega) (first+(2*r+2)) (by omega) d1[first+r]!
        refine xt15 gy80 e0 e2 e3 e8 hc w4 w5 x1 x2 l1 l2 st1 st2 ec ?_;try exact⟨⟩
        exact⟨hi - (2*r+2),by omega,2*r+2,swp d1 (first+r) (first+(2*r+2)),rfl,rfl,((ho.set _).set _),by omega,by omega,rfl,(by rw[swp_size];exact hd1),hI2.eq⟩
    | false =>
      have hc:=cmpI_f hq
      have hI2:=hI.eq
      rw[sift_bI (by omega) (fun q=>by rw[hq]at q;simp at q)]at hI2
      have w4:=w_add (x:=first) (y:=r) (by omega)
      have w5:=w_add (x:=first) (y:=2*r+1) (by omega)
      have x1:=A.ix (first+r) (by omega)
      have x2:=A.ix (first+(2*r+1)) (by omega)
      have l1:=A.ld M1 d1 hM1 hd1 (first+r) (by omega)
      have l2:=A.ld M1 d1 hM1 hd1 (first+(2*r+1)) (by omega)
      refine xt13 gy80 e0 e2 e3 e8 hc w4 w5 x1 x2 l1 l2 ec ?_;try exact⟨⟩
      clear hc hq w1 w2 w3 w6 w7 x3 x4 l3 l4
      refine CD_sem (Csem.pure rfl rfl fun N=>f40 ρ N _ _ _) (by decide) ?_
      cases hq:ltI d1[first+r]! d1[first+(2*r+1)]! with
      | false =>
        have hc:=cmpI_f hq
        rw[hq,if_pos (show (!false)=true from rfl)]at hI2
        have hI2:=Is.mk hI2
        refine xt8 gy80 e0 e2 e3 e8 hc @SortedI.eq_1 ec ?_;try exact⟨⟩
        rw[<-hI2.eq]
        exact⟨⟨hM1,by omega⟩,ho,by omega⟩
      | true =>
        have hc:=cmpI_t hq
        rw[hq,if_neg (by simp)]at hI2
        have hI2:=Is.mk hI2
        have st1:=A.st M1 d1 hM1 hd1 (first+r) (by omega) d1[first+(2*r+1)]!
        have st2:=A.st (tset M1 k (rwI (d1.setIfInBounds (first+r) d1[first+(2*r+1)]!))) _ (by(repeat (first | rw[tget_tset,if_pos rfl] | rw[tget_tset,if_neg (by omega)] | rw[tget_tdel,if_neg (by omega)]));try (first | rfl | assumption)) (by simp;omega) (first+(2*r+1)) (by omega) d1[first+r]!
        refine xt15 gy80 e0 e2 e3 e8 hc w4 w5 x1 x2 l1 l2 st1 st2 ec ?_;try exact⟨⟩
        exact⟨hi - (2*r+1),by omega,2*r+1,swp d1 (first+r) (first+(2*r+1)),rfl,rfl,((ho.set _).set _),by omega,by omega,rfl,(by rw[swp_size];exact hd1),hI2.eq⟩
   ·have hI2:=hI.eq
    rw[sift_bI (by omega) (fun q=>by omega)]at hI2
    have w4:=w_add (x:=first) (y:=r) (by omega)
    have w5:=w_add (x:=first) (y:=2*r+1) (by omega)
    have x1:=A.ix (first+r) (by omega)
    have x2:=A.ix (first+(2*r+1)) (by omega)
    have l1:=A.ld M1 d1 hM1 hd1 (first+r) (by omega)
    have l2:=A.ld M1 d1 hM1 hd1 (first+(2*r+1)) (by omega)
    refine xt11 gy80 e0 e2 e3 e8 hlt hc2 w1 w2 w3 ec ?_;try exact⟨⟩
    refine RD_gskip ?_ (by decide) ?_
    ·refine xt1 gy80 ?_;try exact⟨⟩
    refine xt12 gy80 e0 e2 e3 e8 w4 w5 x1 x2 l1 l2 ec ?_;try exact⟨⟩
    clear w1 w2 w3
    refine CD_sem (Csem.pure rfl rfl fun N=>f40 ρ N _ _ _) (by decide) ?_
    cases hq:ltI d1[first+r]! d1[first+(2*r+1)]! with
    | false =>
      have hc:=cmpI_f hq
      rw[hq,if_pos (show (!false)=true from rfl)]at hI2
      have hI2:=Is.mk hI2
      refine xt8 gy80 e0 e2 e3 e8 hc @SortedI.eq_1 ec ?_;try exact⟨⟩
      rw[<-hI2.eq]
      exact⟨⟨hM1,by omega⟩,ho,by omega⟩
    | true =>
      have hc:=cmpI_t hq
      rw[hq,if_neg (by simp)]at hI2
      have hI2:=Is.mk hI2
      have st1:=A.st M1 d1 hM1 hd1 (first+r) (by omega) d1[first+(2*r+1)]!
      have st2:=A.st (tset M1 k (rwI (d1.setIfInBounds (first+r) d1[first+(2*r+1)]!))) _ (by(repeat (first | rw[tget_tset,if_pos rfl] | rw[tget_tset,if_neg (by omega)] | rw[tget_tdel,if_neg (by omega)]));try (first | rfl | assumption)) (by simp;omega) (first+(2*r+1)) (by omega) d1[first+r]!
      refine xt15 gy80 e0 e2 e3 e8 hc w4 w5 x1 x2 l1 l2 st1 st2 ec ?_;try exact⟨⟩
      exact⟨hi - (2*r+1),by omega,2*r+1,swp d1 (first+r) (first+(2*r+1)),rfl,rfl,((ho.set _).set _),by omega,by omega,rfl,(by rw[swp_size];exact hd1),hI2.eq⟩
def InsBI (a b n:Nat) (d0:Array Ins) (m kk:Nat) (d':Array Ins):Prop:=kk<=1000/\m=kk/\d'.size=n/\heapPop ltI a (b - a) (heapBuild ltI (b - a) a kk d')=heapSort ltI d0 a b
def InsPI (a b n:Nat) (d0:Array Ins) (m kk:Nat) (d':Array Ins):Prop:=kk<=b - a/\m=kk/\d'.size=n/\heapPop ltI a kk d'=heapSort ltI d0 a b
theorem f95 (ρ:Rho) {M:Hp} {nx k n:Nat} {sv:XV} {off:Nat->Nat} (A:ArrI k n sv off) {d:Array Ins} (hM:tget M k=some (rwI d)) (hd:d.size=n) (hk:k<nx) (hn:n<=1000) {a b:Nat} (hab:a<b) (hb:b<=n) :
 FOk Tryz.prog ρ 95 [sv,.int .i64 a,.int .i64 b,.fn (.func 40) [] []] M nx (SortedI nx k M (heapSort ltI d a b)):=by
 refine FOk.walk (m:=60) (rs:=[]) follows Tryz.func95 (by kernel_rfl) rfl rfl rfl ?_
 conv in W _ _ _ _ _ _ _=>arg 4;whnf
 have w1:=w_sub (x:=b) (y:=a) (by omega) (by omega)
 have w2:=w_sub1 (x:=b - a) (by omega) (by omega)
 have w3:IntKind.i64.wrap (((b - a - 1:Nat):Int).tdiv 2)=(((b - a - 1) / 2:Nat):Int):=by
  rw[show ((b - a - 1:Nat):Int).tdiv 2=(((b - a - 1) / 2:Nat):Int) by rw[Int.tdiv_eq_ediv_of_nonneg (by omega)];omega,wrap_i64 (by omega) (by omega)]
 refine xt4 gy19 w1 w2 w3 ?_;try exact⟨⟩
 refine W_loop (fun m s=>∃(kk:Nat) (d':Array Ins),tget s.env 0=some sv/\tget s.env 3=some (.fn (.func 40) [] [])/\tget s.env 8=some (.int .i64 a)/\tget s.env 9=some (.int .i64 0)/\tget s.env 10=some (.int .i64 (b - a:Nat))/\tget s.env 11=some (.int .i64 ((kk:Int) - 1))/\tget s.M k=some (rwI d')/\Oth nx k M s.M/\nx<=s.nx/\InsBI a b n d m kk d')
  ((b - a - 1) / 2+1) ⟨(b - a - 1) / 2+1,d,?_⟩ ?_
 ·refine xt1 gy19 ?_;try exact⟨⟩
  exact⟨congrArg _ (by omega),hM,Oth.refl _ _ _,by omega,by omega,rfl,hd,rfl⟩
 ·rintro m ⟨env,M1,n1⟩ ⟨kk,d1,e0,ec,e6,e7,e8,e9,hM1,ho,hn1,h1,h2,hd1,hI⟩
  simp only at e0 ec e6 e7 e8 e9 hM1 ho hn1
  have hI:=Is.mk hI
  by_cases hlt:(0:Int)<=(kk:Int) - 1
  ·obtain⟨kk,rfl⟩:∃k',kk=k'+1:=⟨kk - 1,by omega⟩
   have wk:((kk+1:Nat):Int) - 1=(kk:Int):=by omega
   rw[wk]at e9
   have w4:IntKind.i64.wrap ((kk:Int) - 1)=(kk:Int) - 1:=wrap_i64 (by omega) (by omega)
   have z:(0:Int)<=kk:=by omega
   refine xt8 gy19 e0 e6 e7 e8 e9 z ec ?_;try exact⟨⟩
   refine CN_fok (f138 ρ A hM1 hd1 (by omega) hn (root:=kk) (hi:=b - a) (first:=a) (by omega) (by omega)) ?_
   rintro⟨u,M2,n2⟩ ⟨k1,⟨k2,_⟩,k3,k4⟩
   simp only at k1 k2 k3 k4
   subst k1
   have hI2:=hI.eq
   rw[heapBuild]at hI2
   have hI2:=Is.mk hI2
   refine xt8 gy19 e0 e6 e7 e8 e9 w4 ec ?_;try exact⟨⟩
   exact⟨kk,by omega,kk,_,rfl,k2,ho.trans k3 (by omega),by omega,by omega,rfl,siftDown_size _ _ _ _ hd1,hI2.eq⟩
  ·have hI2:=hI.eq
   rw[show kk=0 by omega,heapBuild]at hI2
   have hI2:=Is.mk hI2
   refine xt9 gy19 e0 e6 e7 e8 e9 hlt w2 ec ?_;try exact⟨⟩
   refine W_loop (fun m s=>∃(kk:Nat) (d':Array Ins),tget s.env 0=some sv/\tget s.env 3=some (.fn (.func 40) [] [])/\tget s.env 8=some (.int .i64 a)/\tget s.env 9=some (.int .i64 0)/\tget s.env 12=some (.int .i64 ((kk:Int) - 1))/\tget s.M k=some (rwI d')/\Oth nx k M s.M/\nx<=s.nx/\InsPI a b n d m kk d')
    (b - a) ⟨b - a,d1,?_⟩ ?_
   ·refine xt7 gy19 e0 e6 e7 e8 e9 ec ?_;try exact⟨⟩
    exact⟨congrArg _ (by omega),hM1,ho,by omega,by omega,rfl,hd1,hI2.eq⟩
   ·clear e0 e6 e7 e8 e9 ec hM1 ho hn1 hI2 hI hlt h2 hd1
    rintro m ⟨env,M1,n1⟩ ⟨kk,d1,e0,ec,e6,e7,e9,hM1,ho,hn1,h1,h2,hd1,hI⟩
    simp only at e0 ec e6 e7 e9 hM1 ho hn1
    have hI:=Is.mk hI
    by_cases hlt:(0:Int)<=(kk:Int) - 1
    ·obtain⟨kk,rfl⟩:∃k',kk=k'+1:=⟨kk - 1,by omega⟩
     have wk:((kk+1:Nat):Int) - 1=(kk:Int):=by omega
     rw[wk]at e9
     have w4:IntKind.i64.wrap ((kk:Int) - 1)=(kk:Int) - 1:=wrap_i64 (by omega) (by omega)
     have w5:=w_add (x:=a) (y:=kk) (by omega)
     have z:(0:Int)<=kk:=by omega
     have x1:=A.ix a (by omega)
     have x2:=A.ix (a+kk) (by omega)
     have l1:=A.ld M1 d1 hM1 hd1 a (by omega)
     have l2:=A.ld M1 d1 hM1 hd1 (a+kk) (by omega)
     have st1:=A.st M1 d1 hM1 hd1 a (by omega) d1[a+kk]!
     have st2:=A.st (tset M1 k (rwI (d1.setIfInBounds a d1[a+kk]!))) _ (by(repeat (first | rw[tget_tset,if_pos rfl] | rw[tget_tset,if_neg (by omega)] | rw[tget_tdel,if_neg (by omega)]));try (first | rfl | assumption)) (by simp;omega) (a+kk) (by omega) d1[a]!
     refine xt14 gy19 e0 e6 e7 e9 z w5 x1 x2 l1 l2 st1 st2 ec ?_;try exact⟨⟩
     refine CN_fok (f138 ρ A (d:=swp d1 a (a+kk)) (by(repeat (first | rw[tget_tset,if_pos rfl] | rw[tget_tset,if_neg (by omega)] | rw[tget_tdel,if_neg (by omega)]));try (first | rfl | assumption)) (by rw[swp_size];exact hd1) (by omega) hn (root:=0) (hi:=kk) (first:=a) (by omega) (by omega)) ?_
     rintro⟨u,M2,n2⟩ ⟨k1,⟨k2,_⟩,k3,k4⟩
     simp only at k1 k2 k3 k4
     subst k1
     have hI2:=hI.eq
     rw[heapPop]at hI2
     have hI2:=Is.mk hI2
     refine xt7 gy19 e0 e6 e7 e9 w4 ec ?_;try exact⟨⟩
     exact⟨kk,by omega,kk,_,rfl,k2,((ho.set _).set _).trans k3 (by omega),by omega,by omega,rfl,siftDown_size _ _ _ _ (by rw[swp_size];exact hd1),hI2.eq⟩
    ·have hI2:=hI.eq
     rw[show kk=0 by omega,heapPop]at hI2
     have hI2:=Is.mk hI2
     refine xt8 gy19 e0 e6 e7 e9 hlt @SortedI.eq_1 ec ?_;try exact⟨⟩
     rw[<-hI2.eq]
     exact⟨⟨hM1,by omega⟩,ho,by omega⟩
end
end Go.Xs
namespace Go.Xs
noncomputable section
open Go.Proofs Go.Sort
set_option maxRecDepth 100000
set_option maxHeartbeats 8000000
theorem f212 (ρ:Rho) {M:Hp} {nx k n:Nat} {sv:XV} {off:Nat->Nat} (A:ArrI k n sv off) {d:Array Ins} (hM:tget M k=some (rwI d)) (hd:d.size=n) (hk:k<nx) (hn:n<=1000) {p lo up a b:Nat} {s:Int} (hp:tget M p=some (.row [.int .i64 s])) (hkp:k<p) (hpn:p<nx) (ha:lo<=a/\a<up) (hb:lo<=b/\b<up) (hu:up<=n) :
 FOk Tryz.prog ρ 212 [sv,.int .i64 a,.int .i64 b,.mp p 0,.fn (.func 40) [] []] M nx (O2 nx p M lo up):=by
 have x1:=A.ix a (by omega)
 have x2:=A.ix b (by omega)
 have l1:=A.ld M d hM hd a (by omega)
 have l2:=A.ld M d hM hd b (by omega)
 refine FOk.walk (m:=32) (rs:=[.tmp 10,.tmp 11]) follows Tryz.func212 (by kernel_rfl) rfl rfl rfl ?_
 conv in W _ _ _ _ _ _ _=>arg 4;whnf
 refine xt5 gy19 x1 x2 l1 l2 ?_;try exact⟨⟩
 refine CD_sem (Csem.pure rfl rfl fun N=>f40 ρ N _ _ _) (by decide) ?_
 cases hq:ltI d[b]! d[a]! with
 | true =>
   have hc:=cmpI_t hq
   refine xt4 gy19 hc hp @O2.eq_1 ?_;try exact⟨⟩
   exact⟨b,a,IntKind.i64.wrap (s+1),rfl,by omega,(by(repeat (first | rw[tget_tset,if_pos rfl] | rw[tget_tset,if_neg (by omega)] | rw[tget_tdel,if_neg (by omega)]));try (first | rfl | assumption)),(Oth.refl _ _ _).set _,by omega⟩
 | false =>
   have hc:=cmpI_f hq
   refine xt4 gy19 hc hp @O2.eq_1 ?_;try exact⟨⟩
   exact⟨a,b,s,rfl,by omega,rfl,Oth.refl _ _ _,by omega⟩
theorem f142 (ρ:Rho) {M:Hp} {nx k n:Nat} {sv:XV} {off:Nat->Nat} (A:ArrI k n sv off) {d:Array Ins} (hM:tget M k=some (rwI d)) (hd:d.size=n) (hk:k<nx) (hn:n<=1000) {p lo up a b c:Nat} {s:Int} (hp:tget M p=some (.row [.int .i64 s])) (hkp:k<p) (hpn:p<nx) (ha:lo<=a/\a<up) (hb:lo<=b/\b<up) (hc:lo<=c/\c<up) (hu:up<=n) :
 FOk Tryz.prog ρ 142 [sv,.int .i64 a,.int .i64 b,.int .i64 c,.mp p 0,.fn (.func 40) [] []] M nx (O1 nx p M lo up):=by
 refine FOk.walk (m:=41) (rs:=[.tmp 12]) follows Tryz.func142 (by kernel_rfl) rfl rfl rfl ?_
 conv in W _ _ _ _ _ _ _=>arg 4;whnf
 refine xt0 ?_;try exact⟨⟩
 refine CN_fok (f212 ρ A hM hd (by omega) hn hp hkp (by omega) ha hb hu) ?_
 rintro⟨u,M1,n1⟩ ⟨a1,b1,s1,g1,g2,g3,g4,g5⟩
 simp only at g1 g3 g4 g5
 subst g1
 refine xt0 ?_;try exact⟨⟩
 refine CN_fok (f212 ρ A (g4.get (by omega) hkp hM) hd (by omega) hn g3 hkp (by omega) (lo:=lo) (up:=up) (by omega) hc hu) ?_
 rintro⟨u,M2,n2⟩ ⟨b2,c2,s2,k1,k2,k3,k4,k5⟩
 simp only at k1 k3 k4 k5
 subst k1
 have o2:Oth nx p M M2:=fun j hj hne=>(k4 j (by omega) hne).trans (g4 j (by omega) hne)
 clear g3
 refine xt0 ?_;try exact⟨⟩
 refine CN_fok (f212 ρ A (o2.get (by omega) hkp hM) hd (by omega) hn k3 hkp (by omega) (lo:=lo) (up:=up) (by omega) (by omega) hu) ?_
 rintro⟨u,M3,n3⟩ ⟨a3,b3,s3,j1,j2,j3,j4,j5⟩
 simp only at j1 j3 j4 j5
 subst j1
 have o3:Oth nx p M M3:=fun j hj hne=>(j4 j (by omega) hne).trans (o2 j (by omega) hne)
 clear k3 k4 g4
 refine xt1 @O1.eq_1 ?_;try exact⟨⟩
 exact⟨b3,s3,rfl,by omega,j3,o3,by omega⟩
theorem f141 (ρ:Rho) {M:Hp} {nx k n:Nat} {sv:XV} {off:Nat->Nat} (A:ArrI k n sv off) {d:Array Ins} (hM:tget M k=some (rwI d)) (hd:d.size=n) (hk:k<nx) (hn:n<=1000) {p lo up a:Nat} {s:Int} (hp:tget M p=some (.row [.int .i64 s])) (hkp:k<p) (hpn:p<nx) (ha:lo+1<=a/\a+1<up) (hu:up<=n) :
 FOk Tryz.prog ρ 141 [sv,.int .i64 a,.mp p 0,.fn (.func 40) [] []] M nx (O1 nx p M lo up):=by
 have w1:=w_sub1 (x:=a) (by omega) (by omega)
 have w2:=w_add1 (x:=a) (by omega)
 refine FOk.walk (m:=18) (rs:=[.tmp 8]) follows Tryz.func141 (by kernel_rfl) rfl rfl rfl ?_
 conv in W _ _ _ _ _ _ _=>arg 4;whnf
 refine xt3 gy5 w1 w2 ?_;try exact⟨⟩
 refine CN_fok (f142 ρ A hM hd (by omega) hn hp hkp (by omega) (lo:=lo) (up:=up) (by omega) (by omega) (by omega) hu) ?_
 rintro⟨u,M1,n1⟩ ⟨a1,s1,g1,g2,g3,g4,g5⟩
 simp only at g1 g3 g4 g5
 subst g1
 refine xt2 gy5 @O1.eq_1 ?_;try exact⟨⟩
 exact⟨a1,s1,rfl,by omega,g3,fun j hj hne=>g4 j (by omega) hne,by omega⟩
theorem f97 (ρ:Rho) {M:Hp} {nx k n:Nat} {sv:XV} {off:Nat->Nat} (A:ArrI k n sv off) {d:Array Ins} (hM:tget M k=some (rwI d)) (hd:d.size=n) (hk:k<nx) (hn:n<=1000) {a b:Nat} (hab:a<b) (hb:b<=n) :
 FOk Tryz.prog ρ 97 [sv,.int .i64 a,.int .i64 b,.fn (.func 40) [] []] M nx (PivP nx M a b):=by
 obtain⟨q,hq⟩:∃q,q=(b - a) / 4:=⟨_,rfl⟩
 have w1:=w_sub (x:=b) (y:=a) (by omega) (by omega)
 have w2:IntKind.i64.wrap (((b - a:Nat):Int).tdiv 4)=(q:Int):=by
  rw[show ((b - a:Nat):Int).tdiv 4=(q:Int) by rw[Int.tdiv_eq_ediv_of_nonneg (by omega)];omega,wrap_i64 (by omega) (by omega)]
 have w3:IntKind.i64.wrap ((q:Int)*1)=(q:Int):=by rw[wrap_i64 (by omega) (by omega)];omega
 have w4:IntKind.i64.wrap ((q:Int)*2)=((2*q:Nat):Int):=by rw[wrap_i64 (by omega) (by omega)];omega
 have w5:IntKind.i64.wrap ((q:Int)*3)=((3*q:Nat):Int):=by rw[wrap_i64 (by omega) (by omega)];omega
 have w6:=w_add (x:=a) (y:=q) (by omega)
 have w7:=w_add (x:=a) (y:=2*q) (by omega)
 have w8:=w_add (x:=a) (y:=3*q) (by omega)
 refine FOk.walk (m:=63) (rs:=[.tmp 8,.tmp 9]) follows Tryz.func97 (by kernel_rfl) rfl rfl rfl ?_
 conv in W _ _ _ _ _ _ _=>arg 4;whnf
 by_cases h8:(8:Int)<=(b - a:Nat)
 ·by_cases h50:(50:Int)<=(b - a:Nat)
  ·refine xt11 gy5 w1 w2 w3 w4 w5 w6 w7 w8 h8 h50 ?_;try exact⟨⟩
   generalize hM1:tset M _ _=M1
   have a1:Agr nx M M1:=by rw[<-hM1];exact(by(repeat (refine Agr.set ?_ (by omega) _));exact Agr.refl _ _)
   obtain⟨P,hP⟩:∃P,P=(nx+6):=⟨_,rfl⟩
   have z1:tget M1 (nx+6)=some (.row [.int .i64 0]):=by rw[<-hM1];exact(by(repeat (first | rw[tget_tset,if_pos rfl] | rw[tget_tset,if_neg (by omega)] | rw[tget_tdel,if_neg (by omega)]));try (first | rfl | assumption))
   rw[<-hP]at z1 ⊢
   clear hM1
   refine CN_fok (f141 ρ A ((a1 k hk).trans hM) hd (by omega) hn z1 (by omega) (by omega) (lo:=a) (up:=b) (by omega) hb) ?_
   rintro⟨u,M2,n2⟩ ⟨i2,s2,g1,g2,g3,g4,g5⟩
   simp only at g1 g3 g4 g5
   subst g1
   have a2:Agr nx M M2:=a1.trans (g4.below (by omega) (by omega))
   clear g4
   refine xt1 gy5 ?_;try exact⟨⟩
   refine CN_fok (f141 ρ A ((a2 k hk).trans hM) hd (by omega) hn g3 (by omega) (by omega) (lo:=a) (up:=b) (by omega) hb) ?_
   rintro⟨u,M3,n3⟩ ⟨i3,s3,k1,k2,k3,k4,k5⟩
   simp only at k1 k3 k4 k5
   subst k1
   have a3:Agr nx M M3:=a2.trans (k4.below (by omega) (by omega))
   clear k4 g3
   refine xt1 gy5 ?_;try exact⟨⟩
   refine CN_fok (f141 ρ A ((a3 k hk).trans hM) hd (by omega) hn k3 (by omega) (by omega) (lo:=a) (up:=b) (by omega) hb) ?_
   rintro⟨u,M4,n4⟩ ⟨i4,s4,j1,j2,j3,j4,j5⟩
   simp only at j1 j3 j4 j5
   subst j1
   have a4:Agr nx M M4:=a3.trans (j4.below (by omega) (by omega))
   clear j4 k3
   refine xt1 gy5 ?_;try exact⟨⟩
   refine CN_fok (f142 ρ A ((a4 k hk).trans hM) hd (by omega) hn j3 (by omega) (by omega) (lo:=a) (up:=b) (by omega) (by omega) (by omega) hb) ?_
   rintro⟨u,M5,n5⟩ ⟨i5,s5,f1,f2,f3,f4,f5⟩
   simp only at f1 f3 f4 f5
   subst f1
   have a5:Agr nx M M5:=a4.trans (f4.below (by omega) (by omega))
   clear f4 j3
   by_cases h0:s5=0
   ·refine xt4 gy5 f3 h0 @PivP.eq_1 ?_;try exact⟨⟩
    exact⟨i5,1,rfl,by omega,a5,by omega⟩
   ·by_cases h12:s5=12
    ·refine xt5 gy5 f3 h0 h12 @PivP.eq_1 ?_;try exact⟨⟩
     exact⟨i5,2,rfl,by omega,a5,by omega⟩
    ·refine xt5 gy5 f3 h0 h12 @PivP.eq_1 ?_;try exact⟨⟩
     exact⟨i5,0,rfl,by omega,a5,by omega⟩
  ·refine xt11 gy5 w1 w2 w3 w4 w5 w6 w7 w8 h8 h50 ?_;try exact⟨⟩
   generalize hM1:tset M _ _=M1
   have a1:Agr nx M M1:=by rw[<-hM1];exact(by(repeat (refine Agr.set ?_ (by omega) _));exact Agr.refl _ _)
   obtain⟨P,hP⟩:∃P,P=(nx+6):=⟨_,rfl⟩
   have z1:tget M1 (nx+6)=some (.row [.int .i64 0]):=by rw[<-hM1];exact(by(repeat (first | rw[tget_tset,if_pos rfl] | rw[tget_tset,if_neg (by omega)] | rw[tget_tdel,if_neg (by omega)]));try (first | rfl | assumption))
   rw[<-hP]at z1 ⊢
   clear hM1
   refine CN_fok (f142 ρ A ((a1 k hk).trans hM) hd (by omega) hn z1 (by omega) (by omega) (lo:=a) (up:=b) (by omega) (by omega) (by omega) hb) ?_
   rintro⟨u,M5,n5⟩ ⟨i5,s5,f1,f2,f3,f4,f5⟩
   simp only at f1 f3 f4 f5
   subst f1
   have a5:Agr nx M M5:=a1.trans (f4.below (by omega) (by omega))
   clear f4 z1
   by_cases h0:s5=0
   ·refine xt4 gy5 f3 h0 @PivP.eq_1 ?_;try exact⟨⟩
    exact⟨i5,1,rfl,by omega,a5,by omega⟩
   ·by_cases h12:s5=12
    ·refine xt5 gy5 f3 h0 h12 @PivP.eq_1 ?_;try exact⟨⟩
     exact⟨i5,2,rfl,by omega,a5,by omega⟩
    ·refine xt5 gy5 f3 h0 h12 @PivP.eq_1 ?_;try exact⟨⟩
     exact⟨i5,0,rfl,by omega,a5,by omega⟩
 ·refine xt11 gy5 w1 w2 w3 w4 w5 w6 w7 w8 h8 @PivP.eq_1 ?_;try exact⟨⟩
  exact⟨a+2*q,1,rfl,by omega,(by(repeat (refine Agr.set ?_ (by omega) _));exact Agr.refl _ _),by omega⟩
end
end Go.Xs
namespace Go.Xs
noncomputable section
open Go.Proofs Go.Sort
set_option maxRecDepth 100000
set_option maxHeartbeats 8000000
def InsEI (a b n:Nat) (R:Nat×Array Ins) (m i j:Nat) (d':Array Ins):Prop:=a<i/\i<=j+1/\j<b/\m=j+1 - i/\d'.size=n/\partEqLoop ltI a i j d'=R
theorem f100 (ρ:Rho) {M:Hp} {nx k n:Nat} {sv:XV} {off:Nat->Nat} (A:ArrI k n sv off) {d:Array Ins} (hM:tget M k=some (rwI d)) (hd:d.size=n) (hk:k<nx) (hn:n<=1000) {a b pivot:Nat} (hap:a<=pivot) (hpb:pivot<b) (hb:b<=n) :
 FOk Tryz.prog ρ 100 [sv,.int .i64 a,.int .i64 b,.int .i64 pivot,.fn (.func 40) [] []] M nx (ParI nx k M (.int .i64 ((partitionEqual ltI d a b pivot).1:Nat)) (partitionEqual ltI d a b pivot).2):=by
 obtain⟨R,hR⟩:∃R,R=partitionEqual ltI d a b pivot:=⟨_,rfl⟩
 rw[<-hR]
 have w1:=w_add1 (x:=a) (by omega)
 have w2:=w_sub1 (x:=b) (by omega) (by omega)
 have y1:=A.ix (a) (by omega)
 have y2:=A.ix (pivot) (by omega)
 have k1:=A.ld M d hM hd (a) (by omega)
 have k2:=A.ld M d hM hd (pivot) (by omega)
 have st1:=A.st M d hM hd (a) (by omega) d[pivot]!
 have st2:=A.st (tset M k (rwI (d.setIfInBounds (a) d[pivot]!))) _ (by(repeat (first | rw[tget_tset,if_pos rfl] | rw[tget_tset,if_neg (by omega)] | rw[tget_tdel,if_neg (by omega)]));try (first | rfl | assumption)) (by simp;omega) (pivot) (by omega) d[a]!
 refine FOk.walk (m:=90) (rs:=[.tmp 10]) follows Tryz.func100 (by kernel_rfl) rfl rfl rfl ?_
 conv in W _ _ _ _ _ _ _=>arg 4;whnf
 refine xt9 gy80 w1 w2 y1 y2 k1 k2 st1 st2 ?_;try exact⟨⟩
 refine W_loop (fun m s=>∃(i j:Nat) (d1:Array Ins),tget s.env 0=some sv/\tget s.env 1=some (.int .i64 a)/\tget s.env 4=some (.fn (.func 40) [] [])/\tget s.env 11=some (.int .i64 i)/\tget s.env 12=some (.int .i64 j)/\tget s.M k=some (rwI d1)/\Oth nx k M s.M/\nx<=s.nx/\InsEI a b n R m i j d1)
  (b - 1+1 - (a+1)) ⟨a+1,b - 1,swp d a pivot,?_⟩ ?_
 ·refine xt1 gy80 ?_;try exact⟨⟩
  exact⟨rfl,((Oth.refl _ _ _).set _).set _,by omega,by omega,by omega,by omega,rfl,(by rw[swp_size];exact hd),hR.symm⟩
 ·clear y1 y2 k1 k2 st1 st2 w1 w2 hR
  rintro m ⟨env,M1,n1⟩ ⟨i,j,d1,e0,e1,ec,ei,ej,hM1,ho,hn1,h1,h2,h4,h3,hd1,hI⟩
  simp only at e0 e1 ec ei ej hM1 ho hn1
  obtain⟨i2,hi2⟩:∃q,q=scanUp (fun x=>!ltI d1[a]! x) d1 j i:=⟨_,rfl⟩
  obtain⟨j2,hj2⟩:∃q,q=scanDown (fun x=>ltI d1[a]! x) d1 i2 j:=⟨_,rfl⟩
  obtain⟨b1,b2,b3,b4,b5⟩:=scans (fun x=>by simp) (by omega) h2 hi2 hj2
  rw[partEqLoop_eq,<-hi2,<-hj2]at hI
  have hI:=Is.mk hI
  have hi2:=Is.mk hi2
  have hj2:=Is.mk hj2
  refine xt6 gy80 ei ej e0 e1 ec ?_;try exact⟨⟩
  refine W_loop_cut (fun m2 s=>∃i':Nat,tget s.env 0=some sv/\tget s.env 1=some (.int .i64 a)/\tget s.env 4=some (.fn (.func 40) [] [])/\tget s.env 11=some (.int .i64 i')/\tget s.env 12=some (.int .i64 j)/\tget s.M k=some (rwI d1)/\Oth nx k M s.M/\nx<=s.nx/\ScU (fun x=>!ltI d1[a]! x) d1 i j i' m2) (j+1 - i) (fun s=>tget s.env 0=some sv/\tget s.env 1=some (.int .i64 a)/\tget s.env 4=some (.fn (.func 40) [] [])/\tget s.env 11=some (.int .i64 i2)/\tget s.env 12=some (.int .i64 j)/\tget s.M k=some (rwI d1)/\Oth nx k M s.M/\nx<=s.nx) ⟨i,?_⟩ ?_ ?_
  ·refine xt6 gy80 ei ej e0 e1 ec ?_;try exact⟨⟩
   exact⟨hM1,ho,by omega,by omega,by omega,rfl,rfl⟩
  ·clear ei ej e0 e1 ec
   rintro m2 ⟨env,M2,n2⟩ ⟨i',e0,e1,ec,ei,ej,hM2,ho2,hn2,c1,c2,c3,c4⟩
   simp only at ei ej e0 e1 ec hM2 ho2 hn2
   have c4:=Is.mk c4
   by_cases hij:(i':Int)<=j
   ·have x1:=A.ix a (by omega)
    have x2:=A.ix i' (by omega)
    have l1:=A.ld M2 d1 hM2 hd1 a (by omega)
    have l2:=A.ld M2 d1 hM2 hd1 i' (by omega)
    have wi:=w_add1 (x:=i') (by omega)
    refine xt11 gy80 ei ej hij x1 x2 l1 l2 e0 e1 ec ?_;try exact⟨⟩
    refine RD_gcall ?_ rfl ?_
    ·refine xt1 gy80 ?_;try exact⟨⟩
    refine xt1 gy80 ?_;try exact⟨⟩
    refine CD_sem (Csem.pure rfl rfl fun N=>f40 ρ N _ _ _) (by decide) ?_
    cases hq:ltI d1[a]! d1[i']! with
    | false =>
      have hc:=cmpI_f hq
      have c5:scanUp (fun x=>!ltI d1[a]! x) d1 j (i'+1)=scanUp (fun x=>!ltI d1[a]! x) d1 j i:=by rw[<-c4.eq,scanUp_step (i:=i') (by omega) (by simp[hq])]
      have c5:=Is.mk c5
      refine xt8 gy80 ei ej hc wi e0 e1 ec ?_;try exact⟨⟩
      exact⟨j+1 - (i'+1),by omega,i'+1,rfl,hM2,ho2,by omega,by omega,by omega,rfl,c5.eq⟩
    | true =>
      have hc:=cmpI_t hq
      have c5:i'=i2:=by rw[hi2.eq,<-c4.eq,scanUp_stop (.inr (by simp[hq]))]
      have c6:=Is.mk c5
      clear c5
      refine xt7 gy80 ei ej hc e0 e1 ec ?_;try exact⟨⟩
      rw[c6.eq]
      exact⟨rfl,hM2,ho2,by omega⟩
   ·have c5:i'=i2:=by rw[hi2.eq,<-c4.eq,scanUp_stop (.inl (by omega))]
    have c6:=Is.mk c5
    clear c5
    refine xt7 gy80 ei ej hij e0 e1 ec ?_;try exact⟨⟩
    refine RD_gskip ?_ (by decide) ?_
    ·refine xt1 gy80 ?_;try exact⟨⟩
    refine xt7 gy80 ei ej hij e0 e1 ec ?_;try exact⟨⟩
    rw[c6.eq]
    exact⟨rfl,hM2,ho2,by omega⟩
  ·clear ei ej e0 e1 ec hM1 ho hn1
   rintro⟨env,M1,n1⟩ ⟨e0,e1,ec,ei,ej,hM1,ho,hn1⟩
   simp only at ei ej e0 e1 ec hM1 ho hn1
   refine xt6 gy80 ei ej e0 e1 ec ?_;try exact⟨⟩
   refine W_loop_cut (fun m2 s=>∃j':Nat,tget s.env 0=some sv/\tget s.env 1=some (.int .i64 a)/\tget s.env 4=some (.fn (.func 40) [] [])/\tget s.env 11=some (.int .i64 i2)/\tget s.env 12=some (.int .i64 j')/\tget s.M k=some (rwI d1)/\Oth nx k M s.M/\nx<=s.nx/\ScD (fun x=>ltI d1[a]! x) d1 i2 j j' m2) j (fun s=>tget s.env 0=some sv/\tget s.env 1=some (.int .i64 a)/\tget s.env 4=some (.fn (.func 40) [] [])/\tget s.env 11=some (.int .i64 i2)/\tget s.env 12=some (.int .i64 j2)/\tget s.M k=some (rwI d1)/\Oth nx k M s.M/\nx<=s.nx) ⟨j,?_⟩ ?_ ?_
   ·refine xt6 gy80 ei ej e0 e1 ec ?_;try exact⟨⟩
    exact⟨hM1,ho,by omega,by omega,by omega,rfl,rfl⟩
   ·clear ei ej e0 e1 ec
    rintro m2 ⟨env,M2,n2⟩ ⟨j',e0,e1,ec,ei,ej,hM2,ho2,hn2,c1,c2,c3,c4⟩
    simp only at ei ej e0 e1 ec hM2 ho2 hn2
    have c4:=Is.mk c4
    by_cases hij:(i2:Int)<=j'
    ·obtain⟨j',rfl⟩:∃q,j'=q+1:=⟨j' - 1,by omega⟩
     have x1:=A.ix a (by omega)
     have x2:=A.ix (j'+1) (by omega)
     have l1:=A.ld M2 d1 hM2 hd1 a (by omega)
     have l2:=A.ld M2 d1 hM2 hd1 (j'+1) (by omega)
     have wj:=w_sub1' (x:=j') (by omega)
     refine xt11 gy80 ei ej hij x1 x2 l1 l2 e0 e1 ec ?_;try exact⟨⟩
     refine RD_gcall ?_ rfl ?_
     ·refine xt1 gy80 ?_;try exact⟨⟩
     refine xt1 gy80 ?_;try exact⟨⟩
     refine CD_sem (Csem.pure rfl rfl fun N=>f40 ρ N _ _ _) (by decide) ?_
     cases hq:ltI d1[a]! d1[j'+1]! with
     | true =>
       have hc:=cmpI_t hq
       have c5:scanDown (fun x=>ltI d1[a]! x) d1 i2 j'=scanDown (fun x=>ltI d1[a]! x) d1 i2 j:=by rw[<-c4.eq,scanDown_step (j:=j') (by omega) (by simp[hq])]
       have c5:=Is.mk c5
       refine xt8 gy80 ei ej hc wj e0 e1 ec ?_;try exact⟨⟩
       exact⟨j',by omega,j',rfl,hM2,ho2,by omega,by omega,by omega,rfl,c5.eq⟩
     | false =>
       have hc:=cmpI_f hq
       have c5:j'+1=j2:=by rw[hj2.eq,<-c4.eq,scanDown_stop (.inr (by simp[hq]))]
       have c6:=Is.mk c5
       clear c5
       refine xt7 gy80 ei ej hc e0 e1 ec ?_;try exact⟨⟩
       rw[c6.eq]
       exact⟨rfl,hM2,ho2,by omega⟩
    ·have c5:j'=j2:=by rw[hj2.eq,<-c4.eq,scanDown_stop (.inl (by omega))]
     have c6:=Is.mk c5
     clear c5
     refine xt7 gy80 ei ej hij e0 e1 ec ?_;try exact⟨⟩
     refine RD_gskip ?_ (by decide) ?_
     ·refine xt1 gy80 ?_;try exact⟨⟩
     refine xt7 gy80 ei ej hij e0 e1 ec ?_;try exact⟨⟩
     rw[c6.eq]
     exact⟨rfl,hM2,ho2,by omega⟩
   ·clear ei ej e0 e1 ec hM1 ho hn1
    rintro⟨env,M1,n1⟩ ⟨e0,e1,ec,ei,ej,hM1,ho,hn1⟩
    simp only at ei ej e0 e1 ec hM1 ho hn1
    by_cases hgt:(j2:Int)<i2
    ·have hI2:=hI.eq
     rw[if_pos (by omega)]at hI2
     rw[<-hI2]
     clear hI hI2 hi2 hj2
     refine xt8 gy80 ei ej hgt @ParI.eq_1 e0 e1 ec ?_;try exact⟨⟩
     exact⟨⟨hM1,by omega⟩,ho,by omega⟩
    ·have hI2:=hI.eq
     rw[if_neg (by omega)]at hI2
     have hI2:=Is.mk hI2
     clear hI hi2 hj2
     have b6:=b5 (by omega)
     have w1:=w_add1 (x:=i2) (by omega)
     have w2:=w_sub1 (x:=j2) (by omega) (by omega)
     have y1:=A.ix (i2) (by omega)
     have y2:=A.ix (j2) (by omega)
     have k1:=A.ld M1 d1 hM1 hd1 (i2) (by omega)
     have k2:=A.ld M1 d1 hM1 hd1 (j2) (by omega)
     have st1:=A.st M1 d1 hM1 hd1 (i2) (by omega) d1[j2]!
     have st2:=A.st (tset M1 k (rwI (d1.setIfInBounds (i2) d1[j2]!))) _ (by(repeat (first | rw[tget_tset,if_pos rfl] | rw[tget_tset,if_neg (by omega)] | rw[tget_tdel,if_neg (by omega)]));try (first | rfl | assumption)) (by simp;omega) (j2) (by omega) d1[i2]!
     refine xt15 gy80 ei ej hgt w1 w2 y1 y2 k1 k2 st1 st2 e0 e1 ec ?_;try exact⟨⟩
     exact⟨j2 - 1+1 - (i2+1),by omega,i2+1,j2 - 1,swp d1 i2 j2,rfl,rfl,rfl,((ho.set _).set _),by omega,by omega,by omega,by omega,rfl,(by rw[swp_size];exact hd1),hI2.eq⟩
end
end Go.Xs
