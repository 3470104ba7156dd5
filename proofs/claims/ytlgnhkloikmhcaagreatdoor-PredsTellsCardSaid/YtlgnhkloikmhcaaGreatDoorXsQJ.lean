/- A part: the walk. -/
import Derived.Test.YtlgnhkloikmhcaaGreatDoorXsQE
import Derived.Test.YtlgnhkloikmhcaaGreatDoorXsQG
import Derived.Test.YtlgnhkloikmhcaaGreatDoorXsQI
set_option maxRecDepth 100000
set_option maxHeartbeats 8000000
set_option linter.all false
set_option linter.deprecated false
namespace Go.Xs
open List Nat Option
noncomputable section
open Go.Proofs Go.Sort
def zp:Prop:=∀(ρ:aK) (M:Hp) (nx k:Nat) (l:List aF),l.length<=1000->0<l.length->k<nx->gG M k=some (.row (l.flatMap bi)) ->
 ar an ρ 71 [.sl k 9 0 l.length l.length,.fn (.func 11) [] []] M nx fun r=>r.1 = .tup []/\(∃l':List aF,l'.Perm l/\l'.Pairwise (fun a b=>yu b a=false)/\gG r.2.1 k=some (.row (l'.flatMap bi)))/\(∀j,j<nx->j≠k->gG r.2.1 j=gG M j)/\nx<=r.2.2
theorem sortsE:zp:=fun ρ M nx k xs hx h0 hk hM=>by
 obtain⟨n,hn⟩:=aap xs.length;rw[<-hn];have hu:IntKind.u64.wrap (n:Int)=(n:Int):=wrap_u64 aa aa;have aW:gG M k=some (rwE xs.toArray):=hM;refine ar.wk 14 [] Tryz.func71 ?_;refine mI kE hu ?_;refine lG (XW ρ _ _ n aa) fun M1 n1 g2 g3=>?_
 refine bR kE ?_;refine gQ (Yf ρ n (ae ρ k n) (d:=xs.toArray) ((g2 k aa).trans aW) (by simp[hn]) aa aa (a:=0) (b:=n) _ aa aa aa (Or.inl rfl)) ?_;rintro⟨u,M2,n2⟩ ⟨k1,⟨d',k2,⟨k3,k4⟩,k5⟩,k6,k7⟩;simp only at k1 k5 k6 k7;subst k1;refine bR kE ?_;exact⟨⟨d'.toList,Yw hn.symm k2 k3,sc k2 k4 fun x y h=>h,k5⟩,fun j hj cf=>(k6 j aa cf).trans (g2 j aa),aa⟩
end
end Go.Xs
