/- A part: the walk. -/
import Derived.Test.YtlgnhkloikmhcaaGreatDoorXsQF
import Derived.Test.YtlgnhkloikmhcaaGreatDoorXsQH
set_option maxRecDepth 100000
set_option maxHeartbeats 8000000
set_option linter.all false
set_option linter.deprecated false
namespace Go.Xs
open List Nat Option
variable{n:Nat}{α:Type}
noncomputable section
open Go.Proofs Go.Sort
theorem Yw [Inhabited α] {l:List α} {d:Array α} (hn:l.length=n) (hd:d.size=n) (h:PermIn 0 n l.toArray d):d.toList.Perm l:=by
 have h3:=h.2.2;have e1:d.extract 0 n=d:=by rw[<-hd];exact Array.extract_size
 have e2:l.toArray.extract 0 n=l.toArray:=by rw[<-hn,<-List.size_toArray];exact Array.extract_size
 rw[e1,e2]at h3;exact h3
theorem sc [Inhabited α] {lt:α->α->Bool} {R:α->α->Prop} {d:Array α} (hd:d.size=n) (h:SortedIn lt 0 n d) (hR:∀x y,lt y x=false->R x y):d.toList.Pairwise R:=by rw[pairwise_iff_getElem];intro i j hi hj eS;have:=h i j aa eS (by simpa [hd] using hj);rw[getElem!_pos d j (by simpa using hj),getElem!_pos d i (by simpa using hi)]at this;exact hR _ _ this
theorem f266n (ρ:aK) (M:Hp) (nx:Nat):ar an ρ 266 [.nils,.int .i64 0,.int .i64 0] M nx (fe nx M (.tup [])):=by
 refine ar.wk 49 [] Tryz.func266 ?_;have w:IntKind.i64.wrap (0+1)=1:=aj;refine mI k_ w ?_;refine aC (fun m s=>gG s.env 6=some (.int .i64 1)/\gG s.env 2=some (.int .i64 0)/\aq nx M s.M/\nx<=s.nx) 0 ?_ ?_
 ·refine bR k_ ?_
  exact⟨aq.refl _ _,aa⟩
 rintro m ⟨env,M1,n1⟩ ⟨e6,e2,ha,hn⟩;simp only at e6 e2 ha hn;have z:¬ (1:Int)<0:=aj;refine mY k_ e6 e2 z @fe.eq_1 ?_;exact⟨ha,aa⟩
theorem f191n (ρ:aK) (M:Hp) (nx:Nat) (lim:Int):ar an ρ 191 [.nils,.int .i64 0,.int .i64 0,.int .i64 lim] M nx (fe nx M (.tup [])):=by
 refine ar.wk 134 [] Tryz.func191 ?_;have w:IntKind.i64.wrap (0 - 0)=0:=aj;have z:(0:Int)<=12:=aj;refine bR cD ?_;refine aC (fun m s=>gG s.env 0=some .nils/\gG s.env 1=some (.int .i64 0)/\gG s.env 2=some (.int .i64 0)/\aq nx M s.M/\nx<=s.nx) 0 ?_ ?_
 ·refine bR cD ?_
  exact⟨aq.refl _ _,aa⟩
 rintro m ⟨env,M1,n1⟩ ⟨e0,e1,e2,ha,hn⟩;simp only at e0 e1 e2 ha hn;refine iC cD e0 e1 e2 w z ?_;refine lG (f266n ρ _ _) fun M2 n2 k2 k3=>?_
 refine mI cD @fe.eq_1 ?_;exact⟨ha.trans (k2.le aa),aa⟩
theorem PY:kJ:=fun ρ M nx=>by
 refine ar.wk 11 [] Tryz.func125 ?_;have hu:IntKind.u64.wrap 0=((0:Nat):Int):=aj;refine mI wH hu ?_;refine lG (XW ρ _ _ 0 aa) fun M1 n1 g2 g3=>?_
 refine bR wH ?_;refine lG (f191n ρ _ _ _) fun M2 n2 k2 k3=>?_
 refine mI wH @fe.eq_1 ?_;exact⟨(g2.le aa).trans (k2.le aa),aa⟩
theorem O9:kL:=fun ρ M nx k xs hx h0 hk hM=>by
 obtain⟨n,hn⟩:=aap xs.length;rw[<-hn];have hu:IntKind.u64.wrap (n:Int)=(n:Int):=wrap_u64 aa aa;have aW:gG M k=some (dQ xs.toArray):=hM;refine ar.wk 11 [] Tryz.func125 ?_;refine mI wH hu ?_;refine lG (XW ρ _ _ n aa) fun M1 n1 g2 g3=>?_
 refine bR wH ?_;refine gQ (f191 ρ n (au ρ k n) (d:=xs.toArray) ((g2 k aa).trans aW) (by simp[hn]) aa aa (a:=0) (b:=n) _ aa aa aa (Or.inl rfl)) ?_;rintro⟨u,M2,n2⟩ ⟨k1,⟨d',k2,⟨k3,k4⟩,k5⟩,k6,k7⟩;simp only at k1 k5 k6 k7;subst k1;refine bR wH ?_;refine⟨⟨d'.toList,Yw hn.symm k2 k3,sc k2 k4 fun x y h=>?_,k5⟩,fun j hj cf=>(k6 j aa cf).trans (g2 j aa),aa⟩;simp only[ltInt,decide_eq_false_iff_not]at h;omega
theorem Pb:Ci:=fun ρ M nx k xs hx h0 hk hM=>by
 obtain⟨n,hn⟩:=aap xs.length;rw[<-hn];have hu:IntKind.u64.wrap (n:Int)=(n:Int):=wrap_u64 aa aa;have aW:gG M k=some (dT xs.toArray):=hM;refine ar.wk 14 [] Tryz.func128 ?_;refine mI G9 hu ?_;refine lG (XW ρ _ _ n aa) fun M1 n1 g2 g3=>?_
 refine bR G9 ?_;refine gQ (f193 ρ n (ai ρ k n) (d:=xs.toArray) ((g2 k aa).trans aW) (by simp[hn]) aa aa (a:=0) (b:=n) _ aa aa aa (Or.inl rfl)) ?_;rintro⟨u,M2,n2⟩ ⟨k1,⟨d',k2,⟨k3,k4⟩,k5⟩,k6,k7⟩;simp only at k1 k5 k6 k7;subst k1;refine bR G9 ?_;refine⟨⟨d'.toList,Yw hn.symm k2 k3,sc k2 k4 fun x y h=>?_,k5⟩,fun j hj cf=>(k6 j aa cf).trans (g2 j aa),aa⟩;simp only[cL,decide_eq_false_iff_not]at h;omega
end
end Go.Xs
