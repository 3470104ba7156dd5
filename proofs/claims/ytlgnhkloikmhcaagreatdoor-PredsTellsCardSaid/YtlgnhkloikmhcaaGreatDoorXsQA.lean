/- A part: the walk. -/
import Derived.WalkKit
import Derived.Lib.ItoaNum
import Derived.Lib.Strings
import Derived.Laws.IdiomStrings
import Derived.WideLaws
import Derived.RangeFuncIn
import Derived.RangeFuncRecord
import Derived.RangeFuncLeaves
import Derived.OrdersIn
import Derived.TacticsIn
import Derived.Sort.LoopGhostIn
set_option maxRecDepth 100000
set_option linter.all false
set_option linter.deprecated false
open Array renaming ext'->abz,getD_eq_getD_getElem?->abb,getElem?_eq_getElem->abs,getElem?_eq_some_iff->aaY,getElem?_push->acx,getElem?_setIfInBounds_ne->abH,getElem?_setIfInBounds_self_of_lt->abq,getElem?_toList->aaQ,length_toList->aa2,map->adR,range->ab5,size_append->ac3,toList_filter->ach,toList_inj->acF,toList_modify->acT
open BitVec renaming ofInt->adY
open Bool renaming and_eq_false_iff->acf,and_eq_true->aaF,eq_iff_iff->acK,false_eq_true->aay,not_false->adC,or_eq_true->ab0
open ForInStep renaming yield->acB
open Go.Addr renaming add_lit->abx
open Go.Builtin renaming append_->abR,clear_->ab3,copy_->acv,firstCells->abr,lenOf->adx,len_->abX,nextslicecap->adK,zeroCells->abo
open Go.ByteArray renaming toList_eq->abG
open Go.Deferred renaming ofValue->ad5
open Go.Instr renaming build->acS,buildSlice->acb,checkKey->abM,findAsking->acE,findKey->acA,findNow->acY,index->ad4,indexAt->adG,lookup->acI,makeInterface->ad3,makeMap->adF,makeSlice->acH,mapEntry->adw,mapUpdate->ado,next->ac2,range->ad2,sameBits->ab8,sameNow->adE,slice->ad1,sliceAt->ace,sureAddr->acp
open Go.Op renaming equal->ac8,equalIn->abj,maxDepth->aco
open Go.Oper renaming wp->ads
open Go.Question renaming forced->acD,mapNext->ac0
open Go.Region renaming wanted->acU
open Go.Result renaming andThen_ok->aar
open Go.Result.ok renaming injEq->ac1
open Go.Sem renaming run->ab9,run_bind->aav,run_pure->aaA
open Go.Value renaming bool->ab4
open Go.World renaming putObj_heap_other->aa0
open Int renaming toNat_natCast->adf
open List renaming all_eq_true->aa4,getElem?_eq_some_iff->aaq,map_map->adO,map_take->adI,range->aa7,cons_append->aa8,eq_nil_of_length_eq_zero->abk,getElem?_append_left->aa5,getElem?_append_right->acC,getElem?_cons_succ->aa1,getElem?_cons_zero->aaI,getElem?_eq_getElem->aaR,getElem?_map->acg,getElem?_take->abN,getElem?_toArray->abf,length_append->aau,length_cons->aaw,length_drop->acz,length_map->abd,length_take->aaS,map_cons->aa3,mem_append->abe,mem_append_left->abv,mem_append_right->aci,mem_cons->aaK,mem_cons_of_mem->aaJ,mem_cons_self->aaC,mem_range->ady,mem_singleton->aaE,replicate->ab2,replicate_succ->adL,take_append_drop->acd,take_of_length_le->aaz,take_succ_cons->abt
open List.cons renaming injEq->abI
open Nat renaming add_mul->abZ,add_zero->aaX,beq->aaW,ble->aaP,blt->abc,div->abB,le_refl->u7,le_trans->aaT,min_eq_left->abF,mod->aca,mul_le_mul->adD,mul_one->adh,rec->acj,sub_zero->adl,zero_add->aaU,blt_eq->abD,eq_of_beq_eq_true->aaB,le_of_ble_eq_true->aaD,lt_succ_self->aby,mul_le_mul_right->abg
open Option renaming map_some->adb
open Option.some renaming injEq->aat
open Prod.mk renaming injEq->act
namespace Go.Xs
theorem aao{α:Type}{l:List α}{i:Nat}(h:i<l.length):∃a,l[i]?=some a:=⟨l[i],by simp[h]⟩
theorem aap{α:Sort _}(a:α):∃x,x=a:=⟨a,rfl⟩
section
theorem ao{a b:Prop} (x:a) (y:b):a/\b:=⟨x,y⟩
theorem am{p:Prop} (h:p:=by simp only;omega):p:=h
theorem ak{p:Prop} (h:p:=by simp;omega):p:=h
theorem aj{p:Prop} (h:p:=by decide):p:=h
theorem af{p:Prop} (h:p:=by simp):p:=h
theorem aa{p:Prop} (h:p:=by omega):p:=h
theorem U{p:Prop} (h:p:=by kernel_rfl):p:=h
open List Nat Option
noncomputable section
variable {α:Type}
inductive Tr (α:Type) where
 | nil
 | node (v:Option α) (l r:Tr α)
def gG (t:Tr α):Nat->Option α :=
 Tr.rec (fun _=>none) (fun v _ _ fl fr k=>acj v (fun p _=>acj (fl (abB p 2)) (fun _ _=>fr (abB p 2)) (aca p 2)) k) t
def kC (f:Nat):Tr α->Nat->Option α->Tr α :=
 acj (fun t _ _=>t) (fun _ ih t k v=>Tr.rec
  (acj (.node v .nil .nil) (fun p _=>acj (.node none (ih .nil (abB p 2) v) .nil) (fun _ _=>.node none .nil (ih .nil (abB p 2) v)) (aca p 2)) k)
  (fun u l r _ _=>acj (.node v l r) (fun p _=>acj (.node u (ih l (abB p 2) v) r) (fun _ _=>.node u l (ih r (abB p 2) v)) (aca p 2)) k) t) f
def aG (t:Tr α) (k:Nat) (v:α):Tr α:=kC (Nat.succ k) t k (some v)
def vO (t:Tr α) (k:Nat):Tr α:=kC (Nat.succ k) t k none
theorem jR (k:Nat):gG (Tr.nil:Tr α) k=none:=rfl
theorem gr (v:Option α) (l r:Tr α):gG (.node v l r) 0=v:=rfl
theorem eH (v:Option α) (l r:Tr α) (q:Nat):gG (.node v l r) (2*q+1)=gG l q:=by
 show acj (motive:=fun _=>Option α) (gG l (abB (2*q) 2)) (fun _ _=>gG r (abB (2*q) 2)) (aca (2*q) 2)=_;have h1:aca (2*q) 2=0:=by show 2*q % 2=0;omega
 have h2:abB (2*q) 2=q:=by show 2*q / 2=q;omega
 simp only[h1,h2];rfl
theorem dE (v:Option α) (l r:Tr α) (q:Nat):gG (.node v l r) (2*q+2)=gG r q:=by
 show acj (motive:=fun _=>Option α) (gG l (abB (2*q+1) 2)) (fun _ _=>gG r (abB (2*q+1) 2)) (aca (2*q+1) 2)=_;have h1:aca (2*q+1) 2=1:=by show (2*q+1) % 2=1;omega
 have h2:abB (2*q+1) 2=q:=by show (2*q+1) / 2=q;omega
 simp only[h1,h2];rfl
theorem vD (f:Nat) (v:Option α):kC (f+1) .nil 0 v = .node v .nil .nil:=rfl
theorem uF (f:Nat) (u v:Option α) (l r:Tr α):kC (f+1) (.node u l r) 0 v = .node v l r:=rfl
theorem vy (f q:Nat) (v:Option α):kC (f+1) .nil (2*q+1) v = .node none (kC f .nil q v) .nil:=by
 show acj (motive:=fun _=>Tr α) (.node none (kC f .nil (abB (2*q) 2) v) .nil) (fun _ _=>.node none .nil (kC f .nil (abB (2*q) 2) v)) (aca (2*q) 2)=_;have h1:aca (2*q) 2=0:=by show 2*q % 2=0;omega
 have h2:abB (2*q) 2=q:=by show 2*q / 2=q;omega
 simp only[h1,h2];rfl
theorem uw (f q:Nat) (v:Option α):kC (f+1) .nil (2*q+2) v = .node none .nil (kC f .nil q v):=by
 show acj (motive:=fun _=>Tr α) (.node none (kC f .nil (abB (2*q+1) 2) v) .nil) (fun _ _=>.node none .nil (kC f .nil (abB (2*q+1) 2) v)) (aca (2*q+1) 2)=_;have h1:aca (2*q+1) 2=1:=by show (2*q+1) % 2=1;omega
 have h2:abB (2*q+1) 2=q:=by show (2*q+1) / 2=q;omega
 simp only[h1,h2];rfl
theorem LZ (f q:Nat) (u v:Option α) (l r:Tr α):kC (f+1) (.node u l r) (2*q+1) v = .node u (kC f l q v) r:=by
 show acj (motive:=fun _=>Tr α) (.node u (kC f l (abB (2*q) 2) v) r) (fun _ _=>.node u l (kC f r (abB (2*q) 2) v)) (aca (2*q) 2)=_;have h1:aca (2*q) 2=0:=by show 2*q % 2=0;omega
 have h2:abB (2*q) 2=q:=by show 2*q / 2=q;omega
 simp only[h1,h2];rfl
theorem sK (f q:Nat) (u v:Option α) (l r:Tr α):kC (f+1) (.node u l r) (2*q+2) v = .node u l (kC f r q v):=by
 show acj (motive:=fun _=>Tr α) (.node u (kC f l (abB (2*q+1) 2) v) r) (fun _ _=>.node u l (kC f r (abB (2*q+1) 2) v)) (aca (2*q+1) 2)=_;have h1:aca (2*q+1) 2=1:=by show (2*q+1) % 2=1;omega
 have h2:abB (2*q+1) 2=q:=by show (2*q+1) / 2=q;omega
 simp only[h1,h2];rfl
theorem mW (n:Nat):n=0\/(∃q,n=2*q+1)\/∃q,n=2*q+2:=by
 rcases n with _ | p
 ·exact .inl rfl
 rcases mod_two_eq_zero_or_one p with h | h
 ·exact .inr (.inl ⟨p / 2,aa⟩)
 exact .inr (.inr ⟨p / 2,aa⟩)
theorem jB:∀(f:Nat) (t:Tr α) (k n:Nat) (v:Option α),k<f->gG (kC f t k v) n=if k=n then v else gG t n
 | 0,_,_,_,_,h=>aa
 | f+1,t,k,n,v,h=>by
   rcases mW k with rfl | ⟨q,rfl⟩ | ⟨q,rfl⟩
   ·cases t with
    | nil =>
      rw[vD];rcases mW n with rfl | ⟨m,rfl⟩ | ⟨m,rfl⟩
      ·rw[gr,if_pos rfl]
      ·rw[eH,if_neg aa];rfl
      rw[dE,if_neg aa];rfl
    | node u l r =>
      rw[uF];rcases mW n with rfl | ⟨m,rfl⟩ | ⟨m,rfl⟩
      ·rw[gr,if_pos rfl]
      ·rw[eH,if_neg aa,eH]
      rw[dE,if_neg aa,dE]
   ·cases t with
    | nil =>
      rw[vy];rcases mW n with rfl | ⟨m,rfl⟩ | ⟨m,rfl⟩
      ·rw[gr,if_neg aa];rfl
      ·rw[eH,jB f _ _ _ _ aa]
       by_cases hm:q=m;·rw[if_pos hm,if_pos aa]
       rw[if_neg hm,if_neg aa];rfl
      rw[dE,if_neg aa];rfl
    | node u l r =>
      rw[LZ];rcases mW n with rfl | ⟨m,rfl⟩ | ⟨m,rfl⟩
      ·rw[gr,if_neg aa,gr]
      ·rw[eH,jB f _ _ _ _ aa,eH]
       by_cases hm:q=m;·rw[if_pos hm,if_pos aa]
       rw[if_neg hm,if_neg aa]
      rw[dE,if_neg aa,dE]
   cases t with
   | nil =>
     rw[uw];rcases mW n with rfl | ⟨m,rfl⟩ | ⟨m,rfl⟩
     ·rw[gr,if_neg aa];rfl
     ·rw[eH,if_neg aa];rfl
     rw[dE,jB f _ _ _ _ aa];by_cases hm:q=m;·rw[if_pos hm,if_pos aa]
     rw[if_neg hm,if_neg aa];rfl
   | node u l r =>
     rw[sK];rcases mW n with rfl | ⟨m,rfl⟩ | ⟨m,rfl⟩
     ·rw[gr,if_neg aa,gr]
     ·rw[eH,if_neg aa,eH]
     rw[dE,jB f _ _ _ _ aa,dE];by_cases hm:q=m;·rw[if_pos hm,if_pos aa]
     rw[if_neg hm,if_neg aa]
theorem ap (t:Tr α) (k n:Nat) (v:α):gG (aG t k v) n=if k=n then some v else gG t n:=jB _ t k n _ (aby k)
theorem cV (t:Tr α) (k n:Nat):gG (vO t k) n=if k=n then none else gG t n:=jB _ t k n _ (aby k)
theorem J{p:Prop} (h:p:=by(repeat (first | rw[ap,if_pos rfl] | rw[ap,if_neg aa] | rw[cV,if_neg aa]));try (first | rfl | assumption)):p:=h
end
end
open List Nat Option
noncomputable section
inductive Pc where
 | b (n:Nat)
 | z (i:Nat)
inductive XV where
 | un | udf
 | int (k:IntKind) (n:Int)
 | bool (b:Bool)
 | str (s:List Nat)
 | si (k:IntKind) (i:Nat)
 | nils | nilp | nilf | nilm | nili
 | sl (n esz off len cap:Nat)
 | mp (n off:Nat)
 | mm (n:Nat)
 | yd (n:Nat)
 | txt (ps:List Pc)
 | agg (cs:List XV) | tup (vs:List XV)
 | fn (f:Fn) (first caps:List XV)
 | ifc (t:Nat) (v:XV)
inductive bx where
 | row (cs:List XV)
 | map (es:List (Nat×XV×XV)) (clock:Nat)
 | iter (m:Option Nat) (since:Nat) (seen:List Nat) (stepped:Nat)
 | cst (cs:List XV)
abbrev Hp:=Tr bx
abbrev eX:=Tr XV
abbrev cc:=Nat->BinOp->Int->Option Bool
def fN:Value->XV
 | .int k n=>.int k n
 | .bool b=>.bool b
 | .string s=>.str (s.data.toList.map fun b=>b.toNat)
 | .slice none 0 0=>.nils
 | .pointer none=>.nilp
 | .nilFunc=>.nilf
 | .map none=>.nilm
 | .nilIface=>.nili
 | _=>.un
def ofV:Value->XV
 | .agg cs=>.agg (cs.toList.map fN)
 | v=>fN v
def cG (env:eX):Operand->XV
 | .tmp t=>match gG env t with | some v=>v | none=>.un
 | .const v=>fN v
 | .func f=>.fn (.func f) [] []
 | .global _=>.un
def lX (env:eX):List Operand->List XV
 | []=>[]
 | x::xs=>cG env x::lX env xs
structure bZ where
 val:XV
 rd:List Nat
 upd:List (Nat×Option bx)
def bZ.pure (v:XV):Option bZ:=some ⟨v,[],[]⟩
def aY:Hp->List (Nat×Option bx)->Hp
 | M,[]=>M
 | M,(k,some o)::us=>aY (aG M k o) us
 | M,(k,none)::us=>aY (vO M k) us
def bA (M:Hp) (n:Nat):Option (List XV):=match gG M n with | some (.row cs)=>some cs | _=>none
def vR (M:Hp) (n:Nat):Option (List XV):=match gG M n with | some (.row cs) | some (.cst cs)=>some cs | _=>none
def xw:TypeDesc->Bool
 | .struct _ | .array _ _=>true
 | _=>false
def cE (P:Program) (t:Nat):Option Nat:=match P.info? t with | some i=>some i.size | none=>none
def aJ (P:Program) (t:Nat):Option (List XV):=match P.info? t with
 | some i=>match i.zero with | some z=>some (z.cells.toList.map fN) | none=>none
 | none=>none
def sB (P:Program) (t:Nat):Option Bool:=match P.underlying t with | some d=>some (xw d) | none=>none
def cellsOf:XV->List XV
 | .agg cs=>cs
 | v=>[v]
def ax:XV->Bool
 | .agg _ | .tup _ | .un | .udf=>false
 | _=>true
def dR (P:Program) (t:Nat) (cs:List XV):Option XV :=
 match sB P t,cE P t with
 | some true,some n=>match aaP n cs.length with | true=>some (.agg (cs.take n)) | false=>none
 | some false,some _=>match cs with | v::_=>some v | []=>none
 | _,_=>none
def bp:List XV->Nat->List XV->List XV
 | cs,0,vs=>over cs vs
 | [],_+1,_=>[]
 | c::cs,n+1,vs=>c::bp cs n vs
where over:List XV->List XV->List XV
 | cs,[]=>cs
 | [],_::_=>[]
 | _::cs,v::vs=>v::over cs vs
def uC (op:BinOp) (k:IntKind) (x y:Int):Int :=
 let a:=adY k.bits x
 let b:=adY k.bits y
 match op with
 | .and=>k.wrap (a &&& b).toNat
 | .or=>k.wrap (a ||| b).toNat
 | .xor=>k.wrap (a ^^^ b).toNat
 | .andNot=>k.wrap (a &&& ~~~b).toNat
 | _=>0
def bj (op:BinOp) (k:IntKind) (a:Int) (k':IntKind) (b:Int):Option XV :=
 match op with
 | .shl=>match decide (b<0) with | true=>none | false=>some (.int k (k.wrap (a*2 ^ (min b.toNat k.bits))))
 | .shr=>match decide (b<0) with | true=>none | false=>some (.int k (a.fdiv (2 ^ (min b.toNat k.bits))))
 | _=>match decide (k=k') with
   | false=>none
   | true=>match op with
     | .add=>some (.int k (k.wrap (a+b)))
     | .sub=>some (.int k (k.wrap (a - b)))
     | .mul=>some (.int k (k.wrap (a*b)))
     | .quo=>match decide (b=0) with | true=>none | false=>some (.int k (k.wrap (a.tdiv b)))
     | .rem=>match decide (b=0) with | true=>none | false=>some (.int k (a.tmod b))
     | .and=>some (.int k (uC .and k a b))
     | .or=>some (.int k (uC .or k a b))
     | .xor=>some (.int k (uC .xor k a b))
     | .andNot=>some (.int k (uC .andNot k a b))
     | .eql=>some (.bool (a==b))
     | .neq=>some (.bool (a != b))
     | .lss=>some (.bool (decide (a<b)))
     | .leq=>some (.bool (decide (a<=b)))
     | .gtr=>some (.bool (decide (b<a)))
     | .geq=>some (.bool (decide (b<=a)))
     | _=>none
def uy:List Nat->List Nat->Bool
 | [],[]=>true
 | x::xs,y::ys=>match aaW x y with | true=>uy xs ys | false=>false
 | _,_=>false
def AA:List Nat->List Nat->Bool
 | [],[]=>false
 | [],_::_=>true
 | _::_,[]=>false
 | x::xs,y::ys=>match aaW x y with | true=>AA xs ys | false=>abc x y
def fE:Nat:=1099511627776
def B7 (op:BinOp) (a b:List Nat):Option XV :=
 match op with
 | .eql=>some (.bool (uy a b))
 | .neq=>some (.bool (!(uy a b)))
 | .add=>match aaP (a.length+b.length) fE with | true=>some (.str (a++b)) | false=>none
 | .lss=>some (.bool (AA a b))
 | .leq=>some (.bool (AA a b||uy a b))
 | .gtr=>some (.bool (!(AA a b||uy a b)))
 | .geq=>some (.bool (!(AA a b)))
 | _=>none
def lT:TypeDesc->XV->XV->Option Bool
 | .slice _,.nils,.nils=>some true
 | .slice _,.sl ..,.nils=>some false
 | .pointer _,.nilp,.nilp=>some true
 | .pointer _,.mp ..,.nilp=>some false
 | .func ..,.nilf,.nilf=>some true
 | .func ..,.fn ..,.nilf=>some false
 | .map ..,.nilm,.nilm=>some true
 | .map ..,.mm _,.nilm=>some false
 | .interface _,.ifc ..,.nili=>some false
 | _,_,_=>none
def se (P:Program) (eq:Nat->XV->XV->Option Bool):List Field->List XV->List XV->Option Bool
 | [],_,_=>some true
 | f::fs,xs,ys=>match f.name == "_" with
   | true=>none
   | false=>match dR P f.type (xs.drop f.offset),dR P f.type (ys.drop f.offset) with
     | some a,some b=>match eq f.type a b with
       | some true=>se P eq fs xs ys
       | some false=>some false
       | none=>none
     | _,_=>none
def vQ (P:Program) (Γ:cc):Nat->Nat->XV->XV->Option Bool
 | 0,_,_,_=>none
 | d+1,t,x,y=>match P.underlying t with
   | none=>none
   | some td=>match td,x,y with
     | .bool,.bool a,.bool b=>some (a==b)
     | .int _,.int k a,.int k' b=>match decide (k=k') with | true=>some (a==b) | false=>none
     | .int _,.si k i,.int k' c=>match decide (k=k') with | true=>Γ i .eql c | false=>none
     | .string,.str a,.str b=>some (uy a b)
     | .struct fs,.agg xs,.agg ys=>match P.stoodInHeld t,P.eqGuardType P.depth t with
       | false,false=>se P (vQ P Γ d) fs.toList xs ys
       | _,_=>none
     | td,x,y=>lT td x y
def Kc (s:List Nat):List Pc:=s.map .b
def sF:List Pc->List Pc->Bool
 | [],[]=>true
 | .b m::ps,.b n::qs=>match aaW m n with | true=>sF ps qs | false=>false
 | .z i::ps,.z j::qs=>match aaW i j with | true=>sF ps qs | false=>false
 | _,_=>false
def FA:List Pc->Nat
 | []=>0
 | .b _::ps=>FA ps+1
 | .z _::ps=>FA ps+21
def uv (op:BinOp) (x y:List Pc):Option XV :=
 match op with
 | .add=>match aaP (FA x+FA y) fE with | true=>some (.txt (x++y)) | false=>none
 | .eql=>match sF x y with | true=>some (.bool true) | false=>none
 | .neq=>match sF x y with | true=>some (.bool false) | false=>none
 | _=>none
def io (P:Program) (Γ:cc) (t:Nat) (op:BinOp) (yc:Bool) (x y:XV):Option XV :=
 match x,y with
 | .int k a,.int k' b=>bj op k a k' b
 | .str a,.str b=>B7 op a b
 | .txt a,.txt b=>uv op a b
 | .txt a,.str b=>uv op a (Kc b)
 | .str a,.txt b=>uv op (Kc a) b
 | .si k i,.int k' c=>match decide (k=k') with
   | true=>match Γ i op c with | some b=>some (.bool b) | none=>none
   | false=>none
 | .nili,.nili=>match op,yc,P.underlying t with
   | .eql,true,some (.interface _)=>some (.bool true)
   | .neq,true,some (.interface _)=>some (.bool false)
   | _,_,_=>none
 | x,y=>match op,vQ P Γ 40 t x y with
   | .eql,some b=>some (.bool b)
   | .neq,some b=>some (.bool (!b))
   | _,_=>none
def S_ (op:UnOp) (x:XV):Option XV :=
 match op,x with
 | .not,.bool b=>some (.bool (!b))
 | .neg,.int k n=>some (.int k (k.wrap (0 - n)))
 | .xor,.int k n=>some (.int k (uC .xor k (if k.signed then -1 else k.max) n))
 | _,_=>none
def b_ (P:Program) (M:Hp) (t:Nat):XV->Option bZ
 | .mp n off=>match vR M n with
   | some cs=>match dR P t (cs.drop off) with | some v=>some ⟨v,[n],[]⟩ | none=>none
   | none=>none
 | _=>none
def jG (P:Program) (M:Hp) (t:Nat) (x:XV):XV->Option bZ
 | .mp n off=>match bA M n,cE P t with
   | some cs,some sz=>match aaW (cellsOf x).length sz,aaP (off+sz) cs.length,(cellsOf x).all ax with
     | true,true,true=>some ⟨.udf,[n],[(n,some (.row (bp cs off (cellsOf x))))]⟩
     | _,_,_=>none
   | _,_=>none
 | _=>none
def gl (place:Nat->Option (Nat×Nat)):List XV->List (Nat×XV)->Option (List XV)
 | cs,[]=>some cs
 | cs,(i,v)::rest=>match place i with
   | none=>none
   | some (off,sz)=>match aaW (cellsOf v).length sz,(cellsOf v).all ax,aaP (off+sz) cs.length with
     | true,true,true=>gl place (bp cs off (cellsOf v)) rest
     | _,_,_=>none
def jo (P:Program):List Field->Option (List (Nat×Nat))
 | []=>some []
 | f::fs=>match cE P f.type,jo P fs with | some n,some l=>some ((f.offset,n)::l) | _,_=>none
def lQ (zs:List XV):Nat->List XV
 | 0=>[]
 | n+1=>zs++lQ zs n
def kP (P:Program) (t:Nat) (ps:List (Nat×XV)):Option XV :=
 match aJ P t,P.underlying t with
 | some zs,some (.struct fs)=>match jo P fs.toList with
   | some pl=>match gl (fun i=>pl[i]?) zs ps with | some cs=>some (.agg cs) | none=>none
   | none=>none
 | some zs,some (.array _ el)=>match cE P el with
   | some sz=>match gl (fun i=>some (i*sz,sz)) zs ps with | some cs=>some (.agg cs) | none=>none
   | none=>none
 | _,_=>none
def fi (P:Program) (key t len:Nat) (ps:List (Nat×XV)):Option bZ :=
 match P.underlying t with
 | some (.slice el)=>match cE P el,aJ P el with
   | some sz,some zs=>match aaP (len*sz) 16777216,aaW zs.length sz,aaP 1 sz with
     | true,true,true=>match gl (fun i=>some (i*sz,sz)) (lQ zs len) ps with
       | some cs=>some ⟨.sl key sz 0 len len,[],[(key,some (.row cs))]⟩
       | none=>none
     | _,_,_=>none
   | _,_=>none
 | _=>none
def pq (P:Program) (t:Nat):Option Nat:=match P.info? t with | some i=>some i.bytes | none=>none
def pr (P:Program) (key t:Nat) (l c:Int):Option bZ :=
 match P.underlying t with
 | some (.slice el)=>match cE P el,aJ P el,pq P el with
   | some sz,some zs,some eb=>match decide (0<=l),decide (l<=c),decide (c<=1099511627776),aaP eb 256,aaW zs.length sz,aaP 1 sz with
     | true,true,true,true,true,true=>some ⟨.sl key sz 0 l.toNat c.toNat,[],[(key,some (.row (lQ zs c.toNat)))]⟩
     | _,_,_,_,_,_=>none
   | _,_,_=>none
 | _=>none
def ig (P:Program) (s f:Nat):XV->Option XV
 | .mp n off=>match P.underlying s with
   | some (.struct fs)=>match fs[f]? with
     | some g=>match cE P g.type with
       | some (_+1)=>some (.mp n (off+g.offset))
       | _=>none
     | none=>none
   | _=>none
 | _=>none
def BN (P:Program) (s f:Nat):XV->Option XV
 | .agg cs=>match P.underlying s with
   | some (.struct fs)=>match fs[f]? with
     | some g=>dR P g.type (cs.drop g.offset)
     | none=>none
   | _=>none
 | _=>none
def eW (i:Int) (n:Nat):Bool:=match i with | .ofNat k=>abc k n | .negSucc _=>false
def br (P:Program) (t:Nat):XV->XV->Option XV
 | .sl n esz off len _,.int _ i=>match P.underlying t with
   | some (.slice el)=>match eW i len,cE P el with
     | true,some sz=>match aaW sz esz with | true=>some (.mp n (off+i.toNat*esz)) | false=>none
     | _,_=>none
   | _=>none
 | .mp n off,.int _ i=>match P.underlying t with
   | some (.array len el)=>match eW i len,cE P el with
     | true,some sz=>some (.mp n (off+i.toNat*sz))
     | _,_=>none
   | _=>none
 | _,_=>none
def nf (P:Program) (t:Nat):XV->XV->Option XV
 | .str s,.int _ i=>match P.underlying t with
   | some .string=>match eW i s.length with
     | true=>match s[i.toNat]? with | some b=>some (.int .u8 (b:Nat)) | none=>none
     | false=>none
   | _=>none
 | .agg cs,.int _ i=>match P.underlying t with
   | some (.array len el)=>match eW i len,cE P el with
     | true,some sz=>dR P el (cs.drop (i.toNat*sz))
     | _,_=>none
   | _=>none
 | _,_=>none
def Lb (dflt:Nat):Option XV->Option Nat
 | none=>some dflt
 | some (.int _ (.ofNat n))=>some n
 | _=>none
def qY (P:Program) (M:Hp) (t:Nat) (x:XV) (lo hi mx:Option XV):Option bZ :=
 match Lb 0 lo,x with
 | some l,.str s=>match P.underlying t,Lb s.length hi,mx with
   | some .string,some h,none=>match aaP l h,aaP h s.length with
     | true,true=>bZ.pure (.str ((s.drop l).take (h - l)))
     | _,_=>none
   | _,_,_=>none
 | some l,.sl n esz off len cap=>match P.underlying t,Lb len hi with
   | some (.slice el),some h=>match Lb cap mx,cE P el,mx,hi with
     | _,_,some _,none=>none
     | some m,some sz,_,_=>match aaW sz esz,aaP l h,aaP h m,aaP m cap with
       | true,true,true,true=>bZ.pure (.sl n esz (off+l*esz) (h - l) (m - l))
       | _,_,_,_=>none
     | _,_,_,_=>none
   | _,_=>none
 | some l,.nils=>match P.underlying t,Lb 0 hi with
   | some (.slice el),some h=>match Lb 0 mx,cE P el,mx,hi with
     | _,_,some _,none=>none
     | some m,some _,_,_=>match aaW l 0,aaW h 0,aaW m 0 with
       | true,true,true=>bZ.pure .nils
       | _,_,_=>none
     | _,_,_,_=>none
   | _,_=>none
 | some l,.mp n off=>match P.underlying t,mx with
   | some (.array cnt el),none=>match Lb cnt hi,cE P el,vR M n with
     | some h,some sz,some cs=>match aaP l h,aaP h cnt,aaP (off+cnt*sz) cs.length,aaP 1 sz with
       | true,true,true,true=>some ⟨.sl n sz (off+l*sz) (h - l) (cnt - l),[n],[]⟩
       | _,_,_,_=>none
     | _,_,_=>none
   | _,_=>none
 | _,_=>none
def ij (M:Hp) (sz:Nat):XV->Option (List XV×Nat×List Nat)
 | .nils=>some ([],0,[])
 | .sl n esz off len _=>match vR M n,aaW esz sz with
   | some cs,true=>match aaP (off+len*esz) cs.length with
     | true=>some ((cs.drop off).take (len*esz),len,[n])
     | false=>none
   | _,_=>none
 | .str s=>match aaW sz 1 with | true=>some (s.map fun b=>.int .u8 (b:Nat),s.length,[]) | false=>none
 | _=>none
def db:List Nat->Nat->Bool
 | [],_=>false
 | k::ks,n=>match aaW k n with | true=>true | false=>db ks n
def gK (P:Program) (M:Hp) (key t:Nat) (s x:XV):Option bZ :=
 match P.underlying t with
 | some (.slice el)=>match cE P el,pq P el,aJ P el with
   | some sz,some eb,some zs=>match aaP eb 128,aaP 1 sz,aaW zs.length sz,ij M sz x with
     | true,true,true,some (ys,n,r)=>match aaP n fE,ys.all ax,s with
       | true,true,.nils=>match n with
         | 0=>some ⟨.nils,r,[]⟩
         | m+1=>some ⟨.sl key sz 0 (m+1) (m+1),r,[(key,some (.row ys))]⟩
       | true,true,.sl k esz off len cap=>match bA M k,aaW esz sz with
         | some cs,true=>match aaP (len+n) cap with
           | true=>match aaP (off+(len+n)*esz) cs.length with
             | true=>some ⟨.sl k esz off (len+n) cap,k::r,[(k,some (.row (bp cs (off+len*esz) ys)))]⟩
             | false=>none
           | false=>match aaW off 0,aaP (len*esz) cs.length,aaP (len+n) fE,db r k with
             | true,true,true,false=>some ⟨.sl key esz 0 (len+n) (len+n),k::r,[(k,none),(key,some (.row (cs.take (len*esz)++ys)))]⟩
             | _,_,_,_=>none
         | _,_=>none
       | _,_,_=>none
     | _,_,_,_=>none
   | _,_,_=>none
 | _=>none
def we (P:Program) (M:Hp) (t:Nat) (d s:XV):Option bZ :=
 match P.underlying t with
 | some (.slice el)=>match cE P el with
   | some sz=>match ij M sz s with
     | some (ys,n,r)=>match d with
       | .nils=>some ⟨.int .i64 0,r,[]⟩
       | .sl k esz off len _=>match bA M k,aaW esz sz with
         | some cs,true=>match aaP (off+len*esz) cs.length,ys.all ax with
           | true,true=>some ⟨.int .i64 (min len n:Nat),k::r,[(k,some (.row (bp cs off (ys.take (min len n*esz)))))]⟩
           | _,_=>none
         | _,_=>none
       | _=>none
     | none=>none
   | none=>none
 | _=>none
def rx (P:Program) (M:Hp) (t:Nat) (d:XV):Option bZ :=
 match P.underlying t with
 | some (.slice el)=>match cE P el,aJ P el,d with
   | some _,some _,.nils=>bZ.pure (.tup [])
   | some sz,some zs,.sl k esz off len _=>match bA M k,aaW esz sz,aaW zs.length sz with
     | some cs,true,true=>match aaP (off+len*esz) cs.length,zs.all ax with
       | true,true=>some ⟨.tup [],[k],[(k,some (.row (bp cs off (lQ zs len))))]⟩
       | _,_=>none
     | _,_,_=>none
   | _,_,_=>none
 | _=>none
def kZ (P:Program) (M:Hp) (t:Nat) (x:XV):Option bZ :=
 match P.underlying t,x with
 | some .string,.str s=>bZ.pure (.int .i64 (s.length:Nat))
 | some (.slice _),.nils=>bZ.pure (.int .i64 0)
 | some (.slice _),.sl _ _ _ len _=>bZ.pure (.int .i64 (len:Nat))
 | some (.map ..),.nilm=>bZ.pure (.int .i64 0)
 | some (.map ..),.mm n=>match gG M n with
   | some (.map es _)=>some ⟨.int .i64 (es.length:Nat),[n],[]⟩
   | _=>none
 | _,_=>none
def er (k:IntKind) (f:Int->Int->Int):Int->List XV->Option Int
 | a,[]=>some a
 | a,.int k' b::vs=>match decide (k=k') with | true=>er k f (f a b) vs | false=>none
 | _,_=>none
def li (P:Program) (key:Nat) (M:Hp) (src dst:Nat) (x:XV):Option bZ :=
 match P.underlying src,P.underlying dst,x with
 | some _,some (.int k),.int _ n=>bZ.pure (.int k (k.wrap n))
 | some _,some .string,.str s=>bZ.pure (.str s)
 | some .string,some (.slice el),.str s=>match P.underlying el,aaP s.length fE,cE P el with
   | some (.int .u8),true,some 1=>some ⟨.sl key 1 0 s.length s.length,[],[(key,some (.row (s.map fun b=>.int .u8 (b:Nat))))]⟩
   | _,_,_=>none
 | some (.slice el),some .string,x=>match P.underlying el with
   | some (.int .u8)=>match ij M 1 x with
     | some (cs,n,r)=>match bytesOf cs,x with
       | _,.str _=>none
       | some s,_=>match aaP n fE with | true=>some ⟨.str s,r,[]⟩ | false=>none
       | none,_=>none
     | none=>none
   | _=>none
 | _,_,_=>none
where bytesOf:List XV->Option (List Nat)
 | []=>some []
 | .int .u8 (.ofNat n)::vs=>match bytesOf vs,abc n 256 with | some l,true=>some (n::l) | _,_=>none
 | _=>none
def dr:XV->XV->Option Bool
 | .int k a,.int k' b=>match decide (k=k') with | true=>some (a==b) | false=>none
 | .str a,.str b=>some (uy a b)
 | .bool a,.bool b=>some (a==b)
 | .agg xs,.agg ys=>go xs ys
 | _,_=>none
where go:List XV->List XV->Option Bool
 | [],[]=>some true
 | .int k a::xs,.int k' b::ys=>match decide (k=k') with
   | true=>match a==b with | true=>go xs ys | false=>some false
   | false=>none
 | _,_=>none
def i8 (P:Program):Nat->Nat->Nat->Bool
 | 0,_,_=>false
 | d+1,t,m=>match P.underlying t with
   | some (.int _)=>aaP 1 m
   | some (.struct fs)=>fs.toList.all fun f=>match cE P f.type with
     | some n=>aaP (f.offset+n) m&&i8 P d f.type n
     | none=>false
   | _=>false
def jl (P:Program) (t:Nat) (x:XV):Bool:=match P.underlying t,x with
 | some (.int _),.int .. | some .string,.str _ | some .bool,.bool _=>true
 | some (.struct _),.agg xs=>match dr x x with
   | some true=>i8 P 20 t xs.length
   | _=>false
 | _,_=>false
def Dy (P:Program) (t:Nat):XV->XV->Option Bool
 | .agg xs,.agg ys=>match dr (.agg xs) (.agg ys),vQ P (fun _ _ _=>none) 40 t (.agg xs) (.agg ys) with
   | some true,some true=>some true
   | some false,some false=>some false
   | _,_=>none
 | .agg _,_=>none
 | x,y=>dr x y
def eu (P:Program) (t:Nat) (k:XV):List (Nat×XV×XV)->Nat->Option (Option (Nat×XV))
 | [],_=>some none
 | (_,k',v)::es,i=>match Dy P t k k' with
   | some true=>some (some (i,v))
   | some false=>eu P t k es (i+1)
   | none=>none
def wI (P:Program) (t:Nat):Option XV:=match P.info? t with
 | some i=>match i.zero with | some z=>some (ofV z) | none=>none
 | none=>none
def i6 (P:Program) (M:Hp) (kt:Nat) (ix:XV):XV->Option (Option XV×List Nat)
 | .nilm=>some (none,[])
 | .mm n=>match gG M n with
   | some (.map es _)=>match eu P kt ix es 0 with
     | some (some (_,v))=>some (some v,[n])
     | some none=>some (none,[n])
     | none=>none
   | _=>none
 | _=>none
def HX (ok:Bool) (v:XV) (b:Bool):XV:=match ok with | true=>.tup [v,.bool b] | false=>v
def cT (P:Program) (M:Hp) (t:Nat) (x ix:XV) (ok:Bool):Option bZ :=
 match P.underlying t with
 | some (.map kt el)=>match jl P kt ix,wI P el,i6 P M kt ix x with
   | true,some _,some (some v,r)=>some ⟨HX ok v true,r,[]⟩
   | true,some zr0,some (none,r)=>some ⟨HX ok zr0 false,r,[]⟩
   | _,_,_=>none
 | _=>none
def gJ (v:XV):List (Nat×XV×XV)->Nat->List (Nat×XV×XV)
 | [],_=>[]
 | (b,k,_)::es,0=>(b,k,v)::es
 | e::es,i+1=>e::gJ v es i
def dP (P:Program) (M:Hp) (t:Nat) (m ix v:XV):Option bZ :=
 match P.underlying t,m with
 | some (.map kt _),.mm n=>match jl P kt ix,gG M n with
   | true,some (.map es clock)=>match eu P kt ix es 0 with
     | some (some (i,_))=>some ⟨.udf,[n],[(n,some (.map (gJ v es i) clock))]⟩
     | some none=>some ⟨.udf,[n],[(n,some (.map (es++[(clock,ix,v)]) (clock+1)))]⟩
     | none=>none
   | _,_=>none
 | _,_=>none
def ee (P:Program) (M:Hp) (t:Nat) (m ix:XV):Option bZ :=
 match P.underlying t,m with
 | some (.map kt el),.mm n=>match jl P kt ix,gG M n,wI P el with
   | true,some (.map es clock),some zr0=>match eu P kt ix es 0 with
     | some (some (i,v))=>match es[i]? with
       | some (b,_,_)=>some ⟨.tup [v,.int .i64 (b:Nat)],[n],[(n,some (.map (gJ v es i) clock))]⟩
       | none=>none
     | some none=>some ⟨.tup [zr0,.int .i64 (clock:Nat)],[n],[(n,some (.map (es++[(clock,ix,zr0)]) (clock+1)))]⟩
     | none=>none
   | _,_,_=>none
 | _,_=>none
def r_ (b:Nat):List (Nat×XV×XV)->Nat->Option Nat
 | [],_=>none
 | (b',_,_)::es,i=>match aaW b' b with | true=>some i | false=>r_ b es (i+1)
def fY (M:Hp) (m st v:XV):Option bZ :=
 match m,st with
 | .mm n,.int _ (.ofNat b)=>match gG M n with
   | some (.map es clock)=>match r_ b es 0 with
     | some i=>some ⟨.udf,[n],[(n,some (.map (gJ v es i) clock))]⟩
     | none=>none
   | _=>none
 | _,_=>none
def me (P:Program) (M:Hp) (key t:Nat) (x:XV):Option bZ :=
 match P.underlying t,x with
 | some (.map ..),.nilm=>some ⟨.mp key 0,[],[(key,some (.iter none 0 [] 0))]⟩
 | some (.map ..),.mm n=>match gG M n with
   | some (.map _ clock)=>some ⟨.mp key 0,[n],[(key,some (.iter (some n) clock [] clock))]⟩
   | _=>none
 | _,_=>none
def zH:List Nat->Option Nat
 | []=>none
 | [b]=>some b
 | _::bs=>zH bs
def Dz (b:Nat):List (Nat×XV×XV)->Option (XV×XV)
 | []=>none
 | (b',k,v)::es=>match aaW b' b with | true=>some (k,v) | false=>Dz b es
def i7 (M:Hp) (x:XV):Option bZ :=
 match x with
 | .mp r 0=>match gG M r with
   | some (.iter (some m) _ seen st)=>match gG M m with
     | some (.map es clock)=>match zH seen,aaW clock st with
       | some b,true=>match Dz b es with
         | some (k,v)=>some ⟨.tup [k,v],[r,m],[]⟩
         | none=>none
       | _,_=>none
     | _=>none
   | _=>none
 | _=>none
def nz (seen:List Nat):List (Nat×XV×XV)->List (Nat×XV×XV)
 | []=>[]
 | (b,k,v)::es=>match db seen b with | true=>nz seen es | false=>(b,k,v)::nz seen es
def wE (M:Hp) (x:XV):Option (List bZ) :=
 match x with
 | .mp r 0=>match gG M r with
   | some (.iter none _ _ _)=>some [⟨.tup [.bool false],[r],[]⟩]
   | some (.iter (some m) since seen st)=>match gG M m with
     | some (.map es clock)=>match es.all fun e=>abc e.1 since,aaP since st,aaP since clock with
       | true,true,true=>match nz seen es with
         | []=>some [⟨.tup [.bool false],[r,m],[]⟩]
         | l=>some (l.map fun e=>⟨.tup [.bool true,e.2.1,e.2.2],[r,m],[(r,some (.iter (some m) since (seen++[e.1]) clock))]⟩)
       | _,_,_=>none
     | _=>none
   | _=>none
 | _=>none
def fk (env:eX):List (Nat×Operand)->List (Nat×XV)
 | []=>[]
 | (i,x)::ps=>(i,cG env x)::fk env ps
def rN (env:eX):Option Operand->Option XV
 | none=>none
 | some x=>some (cG env x)
def SX:Operand->Bool
 | .const _=>true
 | _=>false
def fO (P:Program) (M:Hp) (key:Nat) (b:Builtin) (ats:List Nat) (args:List XV):Option bZ :=
 match b,ats,args with
 | .len,t::_,[x]=>kZ P M t x
 | .append,[t,t'],[s,x]=>match P.underlying t' with
   | some (.slice _) | some .string=>gK P M key t s x
   | _=>none
 | .copy,t::_,[d,s]=>we P M t d s
 | .clear,t::_,[d]=>rx P M t d
 | .min,_,.int k a::vs=>match er k min a vs with | some n=>bZ.pure (.int k n) | none=>none
 | .max,_,.int k a::vs=>match er k max a vs with | some n=>bZ.pure (.int k n) | none=>none
 | _,_,_=>none
def zU:XV->Bool
 | .mp .. | .sl .. | .mm _ | .ifc .. | .fn (.func _) _ _ | .fn (.yield _) _ _=>true
 | _=>false
def cY (P:Program) (Γ:cc) (env:eX) (M:Hp) (key:Nat) (o:Op):Option bZ :=
 match o with
 | .move x | .assign x=>bZ.pure (cG env x)
 | .pick c a b=>match cG env c with
   | .bool true=>bZ.pure (cG env a)
   | .bool false=>bZ.pure (cG env b)
   | _=>none
 | .alloc t=>match aJ P t with | some zs=>some ⟨.mp key 0,[],[(key,some (.row zs))]⟩ | none=>none
 | .box _ x=>match (cellsOf (cG env x)).all ax with | true=>some ⟨.mp key 0,[],[(key,some (.row (cellsOf (cG env x))))]⟩ | false=>none
 | .build t ps=>match kP P t (fk env ps.toList) with | some v=>bZ.pure v | none=>none
 | .buildSlice t len ps=>fi P key t len (fk env ps.toList)
 | .load t a=>b_ P M t (cG env a)
 | .store t a x=>jG P M t (cG env x) (cG env a)
 | .nilCheck x=>match zU (cG env x) with | true=>bZ.pure (cG env x) | false=>none
 | .binOp op t x y _=>match io P Γ t op (SX y) (cG env x) (cG env y) with | some v=>bZ.pure v | none=>none
 | .unOp op _ x=>match S_ op (cG env x) with | some v=>bZ.pure v | none=>none
 | .convert s d x=>li P key M s d (cG env x)
 | .makeFunc f first caps=>bZ.pure (.fn f (lX env first.toList) (lX env caps.toList))
 | .makeInterface t x=>match P.underlying t with
   | some (.interface _)=>none
   | some _=>bZ.pure (.ifc t (cG env x))
   | none=>none
 | .makeMap t r=>match r,P.underlying t with
   | none,_=>some ⟨.mm key,[],[(key,some (.map [] 0))]⟩
   | some r,some (.map ..)=>match cG env r with | .int ..=>some ⟨.mm key,[],[(key,some (.map [] 0))]⟩ | _=>none
   | _,_=>none
 | .makeSlice t l c=>match cG env l,cG env c with
   | .int .i64 l,.int .i64 c=>pr P key t l c
   | _,_=>none
 | .slice t x lo hi mx=>qY P M t (cG env x) (rN env lo) (rN env hi) (rN env mx)
 | .fieldAddr s x f=>match ig P s f (cG env x) with | some v=>bZ.pure v | none=>none
 | .field s x f=>match BN P s f (cG env x) with | some v=>bZ.pure v | none=>none
 | .indexAddr t x i=>match br P t (cG env x) (cG env i) with | some v=>bZ.pure v | none=>none
 | .index t x i=>match nf P t (cG env x) (cG env i) with | some v=>bZ.pure v | none=>none
 | .lookup t x i ok=>cT P M t (cG env x) (cG env i) ok
 | .mapUpdate t m k x | .insert t m k x=>dP P M t (cG env m) (cG env k) (cG env x)
 | .mapEntry t m k=>ee P M t (cG env m) (cG env k)
 | .entryStore _ m s x=>fY M (cG env m) (cG env s) (cG env x)
 | .range t x=>me P M key t (cG env x)
 | .entry x=>i7 M (cG env x)
 | .extract x i=>match cG env x with
   | .tup vs=>match vs[i]? with | some v=>bZ.pure v | none=>none
   | _=>none
 | .call c=>match c.callee with
   | .builtin b=>fO P M key b c.argTypes.toList (lX env c.args.toList)
   | _=>none
 | _=>none
section
structure aK where
 ints:Nat->Int
 fix:Nat->Option (Array Value×TypeId×(Nat×Nat))
 det:Bool:=false
instance:CoeFun aK fun _=>Nat->Int:=⟨aK.ints⟩
abbrev cb:=Nat->Option (Nat×Nat)
def oJ (ρ:aK):List Pc->List Nat
 | []=>[]
 | .b n::ps=>n::oJ ρ ps
 | .z i::ps=>((Lib.itoa (ρ i)).map fun b=>b.toNat)++oJ ρ ps
def BD (ρ:aK) (ps:List Pc) (v:Value):Prop:=∃t:ByteArray,v = .string t/\(t.data.toList.map fun b=>b.toNat)=oJ ρ ps/\t.data.toList.length<=FA ps
mutual
def VR (ρ:aK) (σ:cb):XV->Value->Prop
 | .un,_=>True
 | .udf,v=>v=undef
 | .int k n,v=>v = .int k n
 | .bool b,v=>v = .bool b
 | .str s,v=>∃t:ByteArray,v = .string t/\(t.data.toList.map fun b=>b.toNat)=s
 | .si k i,v=>v = .int k (ρ i)
 | .nils,v=>v = .slice none 0 0
 | .nilp,v=>v = .pointer none
 | .nilf,v=>v = .nilFunc
 | .nilm,v=>v = .map none
 | .nili,v=>v = .nilIface
 | .sl n esz off len cap,v=>∃(b room cap':Nat) (ad:Addr),σ n=some (b,room)/\v = .slice (some ad) len cap'/\cap<=cap'/\len<=cap/\(ad=⟨b,off,none⟩\/cap'=0)/\off+cap'*esz<=room
 | .mp n off,v=>∃b room,σ n=some (b,room)/\v = .pointer (some ⟨b,off,none⟩)
 | .mm n,v=>∃b room,σ n=some (b,room)/\v = .map (some b)
 | .yd n,v=>∃b room,σ n=some (b,room)/\v = .func (.yield b) #[] #[]
 | .txt ps,v=>BD ρ ps v
 | .agg cs,v=>∃us,v = .agg us/\c_ ρ σ cs us.toList
 | .tup cs,v=>∃us,v = .tuple us/\c_ ρ σ cs us.toList
 | .fn f first caps,v=>∃us us',v = .func f us us'/\c_ ρ σ first us.toList/\c_ ρ σ caps us'.toList
 | .ifc t x,v=>∃u,v = .iface t u/\VR ρ σ x u
def c_ (ρ:aK) (σ:cb):List XV->List Value->Prop
 | [],us=>us=[]
 | c::cs,us=>∃u us',us=u::us'/\VR ρ σ c u/\c_ ρ σ cs us'
end
def unfrozen (cs:Array Value) (fz:Nat×Nat):Prop:=fz.1=fz.2\/cs.size<=fz.1
def eU (ρ:aK) (σ:cb):List (Nat×XV×XV)->List MapEntry->Prop
 | [],es=>es=[]
 | (b,k,v)::xs,es=>∃e es',es=e::es'/\e.born=b/\VR ρ σ k e.key/\VR ρ σ v e.val/\eU ρ σ xs es'
def OR (ρ:aK) (w:World) (σ:cb) (p:Nat×Nat):bx->Prop
 | .cst cs=>∃us t fz,w.heap[p.1]?=some (.cells us t fz)/\us.size=p.2/\cs.length<=p.2/\c_ ρ σ cs (us.toList.take cs.length)
 | .row cs=>∃us t fz,w.heap[p.1]?=some (.cells us t fz)/\us.size=p.2/\cs.length<=p.2/\unfrozen us fz/\c_ ρ σ cs (us.toList.take cs.length)
 | .map es clock=>∃es',w.heap[p.1]?=some (.map es' clock)/\eU ρ σ es es'.toList
 | .iter none _ _ _=>∃a b c,w.heap[p.1]?=some (.mapIter none a b c)
 | .iter (some m) since seen st=>∃q,σ m=some q/\w.heap[p.1]?=some (.mapIter (some q.1) since seen.toArray st)
def kF:bx->Bool
 | .cst _=>false
 | _=>true
def eB (σ:cb) (M:Hp) (b:Nat):Prop:=∃k o p,gG M k=some o/\σ k=some p/\p.1=b/\kF o=true
def SN (σ:cb) (M:Hp) (b:Nat):Prop:=∃k o p,gG M k=some o/\σ k=some p/\p.1=b
structure Ok (ρ:aK) (w:World) (σ:cb) (M:Hp):Prop where
 obj:∀k o,gG M k=some o->∃p,σ k=some p/\OR ρ w σ p o
 inj:∀k k' o o' p p',gG M k=some o->gG M k'=some o'->kF o=true->σ k=some p->σ k'=some p'->p.1=p'.1->k=k'
 fix:∀b x,ρ.fix b=some x->w.heap[b]?=some (.cells x.1 x.2.1 x.2.2)/\¬ eB σ M b
structure zN (w:World) (σ:cb) (M:Hp) (w':World) (σ':cb) (M':Hp):Prop where
 os:w'.os=w.os
 tape:w'.tape=w.tape
 output:w'.output=w.output
 size:w.heap.size<=w'.heap.size
 blk:∀b,b<w.heap.size->¬ eB σ M b->w'.heap[b]?=w.heap[b]?
 own:∀b,eB σ' M' b->eB σ M b\/w.heap.size<=b
 sig:∀k p,σ k=some p->σ' k=some p
 held:∀b,SN σ' M' b->SN σ M b\/w.heap.size<=b
section
variable {ρ:aK} {w w' w'':World} {σ σ' σ'':cb} {M M' M'':Hp} {key:Nat}
mutual
theorem VR.mono (h:∀k p,σ k=some p->σ' k=some p):∀{x:XV} {v:Value},VR ρ σ x v->VR ρ σ' x v
 | .un,_,_=>by simp only[VR]
 | .udf,_,hv=>by simpa only [VR] using hv
 | .int ..,_,hv=>by simpa only [VR] using hv
 | .bool _,_,hv=>by simpa only [VR] using hv
 | .str _,_,hv=>by simpa only [VR] using hv
 | .si ..,_,hv=>by simpa only [VR] using hv
 | .nils,_,hv=>by simpa only [VR] using hv
 | .nilp,_,hv=>by simpa only [VR] using hv
 | .nilf,_,hv=>by simpa only [VR] using hv
 | .nilm,_,hv=>by simpa only [VR] using hv
 | .nili,_,hv=>by simpa only [VR] using hv
 | .sl n esz off len cap,v,hv=>by simp only[VR]at hv ⊢;obtain⟨b,room,cap',off',h1,r⟩:=hv;exact⟨b,room,cap',off',h _ _ h1,r⟩
 | .mp n off,v,hv=>by simp only[VR]at hv ⊢;obtain⟨b,room,h1,r⟩:=hv;exact⟨b,room,h _ _ h1,r⟩
 | .mm n,v,hv=>by simp only[VR]at hv ⊢;obtain⟨b,room,h1,r⟩:=hv;exact⟨b,room,h _ _ h1,r⟩
 | .yd n,v,hv=>by simp only[VR]at hv ⊢;obtain⟨b,room,h1,r⟩:=hv;exact⟨b,room,h _ _ h1,r⟩
 | .txt ps,v,hv=>by simpa only [VR] using hv
 | .agg cs,v,hv=>by simp only[VR]at hv ⊢;obtain⟨us,h1,r⟩:=hv;exact⟨us,h1,c_.mono h r⟩
 | .tup cs,v,hv=>by simp only[VR]at hv ⊢;obtain⟨us,h1,r⟩:=hv;exact⟨us,h1,c_.mono h r⟩
 | .fn f xs ys,v,hv=>by simp only[VR]at hv ⊢;obtain⟨us,us',h1,r,r'⟩:=hv;exact⟨us,us',h1,c_.mono h r,c_.mono h r'⟩
 | .ifc t x,v,hv=>by simp only[VR]at hv ⊢;obtain⟨u,h1,r⟩:=hv;exact⟨u,h1,VR.mono h r⟩
theorem c_.mono (h:∀k p,σ k=some p->σ' k=some p):∀{xs:List XV} {us:List Value},c_ ρ σ xs us->c_ ρ σ' xs us
 | [],_,hv=>by simpa only [c_] using hv
 | x::xs,us,hv=>by simp only[c_]at hv ⊢;obtain⟨u,us',e,h1,h2⟩:=hv;exact⟨u,us',e,VR.mono h h1,c_.mono h h2⟩
end
theorem eU.mono (h:∀k p,σ k=some p->σ' k=some p):∀{xs:List (Nat×XV×XV)} {es:List MapEntry},eU ρ σ xs es->eU ρ σ' xs es
 | [],_,hv=>by simpa only [eU] using hv
 | (b,k,v)::xs,es,hv=>by simp only[eU]at hv ⊢;obtain⟨e,es',e1,e2,h1,h2,h3⟩:=hv;exact⟨e,es',e1,e2,VR.mono h h1,VR.mono h h2,eU.mono h h3⟩
theorem OR.mono (h:∀k p,σ k=some p->σ' k=some p) {p:Nat×Nat} (hb:w'.heap[p.1]?=w.heap[p.1]?):∀{o:bx},OR ρ w σ p o->OR ρ w' σ' p o
 | .cst cs,ho=>by simp only[OR]at ho ⊢;obtain⟨us,t,fz,h1,h2,h3,h5⟩:=ho;exact⟨us,t,fz,hb.trans h1,h2,h3,c_.mono h h5⟩
 | .row cs,ho=>by simp only[OR]at ho ⊢;obtain⟨us,t,fz,h1,h2,h3,h4,h5⟩:=ho;exact⟨us,t,fz,hb.trans h1,h2,h3,h4,c_.mono h h5⟩
 | .map es clock,ho=>by simp only[OR]at ho ⊢;obtain⟨es',h1,h2⟩:=ho;exact⟨es',hb.trans h1,eU.mono h h2⟩
 | .iter none _ _ _,ho=>by simp only[OR]at ho ⊢;obtain⟨a,b,c,h1⟩:=ho;exact⟨a,b,c,hb.trans h1⟩
 | .iter (some m) _ _ _,ho=>by simp only[OR]at ho ⊢;obtain⟨q,h1,h2⟩:=ho;exact⟨q,h _ _ h1,hb.trans h2⟩
theorem OR.some {p:Nat×Nat} {o:bx} (h:OR ρ w σ p o):∃x,w.heap[p.1]? = .some x:=by
 cases o with
 | cst cs=>obtain⟨us,t,fz,h1,_⟩:=h;exact⟨_,h1⟩
 | row cs=>obtain⟨us,t,fz,h1,_⟩:=h;exact⟨_,h1⟩
 | map es c=>obtain⟨es',h1,_⟩:=h;exact⟨_,h1⟩
 | iter m a b c =>
   cases m with
   | none=>obtain⟨a,b,c,h1⟩:=h;exact⟨_,h1⟩
   | some m=>obtain⟨q,_,h1⟩:=h;exact⟨_,h1⟩
theorem OR.lt {p:Nat×Nat} {o:bx} (h:OR ρ w σ p o):p.1<w.heap.size:=by obtain⟨x,hx⟩:=h.some;exact(aaY.1 hx).1
theorem eB.lt (aQ:Ok ρ w σ M) {b:Nat} (h:eB σ M b):b<w.heap.size:=by obtain⟨k,o,p,h1,h2,rfl,_⟩:=h;obtain⟨q,hq,ho⟩:=aQ.obj k o h1;rw[h2]at hq;cases hq;exact ho.lt
theorem zN.refl (w:World) (σ:cb) (M:Hp):zN w σ M w σ M :=
 ⟨rfl,rfl,rfl,u7 _,fun _ _ _=>rfl,fun _ h=>.inl h,fun _ _ h=>h,fun _ h=>.inl h⟩
theorem zN.trans (h:zN w σ M w' σ' M') (k:zN w' σ' M' w'' σ'' M''):zN w σ M w'' σ'' M'':=by
 refine⟨k.os.trans h.os,k.tape.trans h.tape,k.output.trans h.output,aaT h.size k.size,fun b hb hn=>?_,fun b hb=>?_,fun q p hp=>k.sig q p (h.sig q p hp),fun b hb=>?_⟩;·rw[k.blk b (Nat.lt_of_lt_of_le hb h.size) fun ho=>(h.own b ho).elim hn (fun hs=>aa),h.blk b hb hn]
 ·rcases k.own b hb with ho | ho
  ·exact h.own b ho
  exact .inr (aaT h.size ho)
 rcases k.held b hb with ho | ho
 ·exact h.held b ho
 exact .inr (aaT h.size ho)
theorem zN.fix (aQ:Ok ρ w σ M) (e:zN w σ M w' σ' M'):∀b x,ρ.fix b=some x->w'.heap[b]?=some (.cells x.1 x.2.1 x.2.2)/\¬ eB σ' M' b:=fun b x hb=>by
 obtain⟨h1,h2⟩:=aQ.fix b x hb;have aL:b<w.heap.size:=(aaY.1 h1).1;refine⟨(e.blk b aL h2).trans h1,fun ho=>?_⟩;rcases e.own b ho with g | g
 ·exact h2 g
 omega
theorem Ok.mk' (aQ:Ok ρ w σ M) (e:zN w σ M w' σ' M') (h1:∀k o,gG M' k=some o->∃p,σ' k=some p/\OR ρ w' σ' p o)
 (h2:∀k k' o o' p p',gG M' k=some o->gG M' k'=some o'->kF o=true->σ' k=some p->σ' k'=some p'->p.1=p'.1->k=k'):Ok ρ w' σ' M'/\zN w σ M w' σ' M' :=
 ⟨⟨h1,h2,e.fix aQ⟩,e⟩
def bz (ρ:aK) (w:World) (σ:cb) (M:Hp) (key:Nat) (val:XV) (M':Hp) (v:Value) (w':World):Prop :=
 ∃σ',VR ρ σ' val v/\Ok ρ w' σ' M'/\zN w σ M w' σ' M'/\∀k,σ' k=σ k\/k=key
theorem bz.same (aQ:Ok ρ w σ M) {val:XV} {v:Value} (hv:VR ρ σ val v):bz ρ w σ M key val M v w :=
 ⟨σ,hv,aQ,.refl w σ M,fun _=>.inl rfl⟩
def cb.upd (σ:cb) (k:Nat) (p:Nat×Nat):cb:=fun j=>if j=k then some p else σ j
theorem cb.upd_same (σ:cb) (k:Nat) (p:Nat×Nat):σ.upd k p k=some p:=by simp[cb.upd]
theorem cb.upd_other (σ:cb) {k j:Nat} (p:Nat×Nat) (h:j≠k):σ.upd k p j=σ j:=by simp[cb.upd,h]
theorem cb.upd_sub {k:Nat} (hk:σ k=none) (p:Nat×Nat):∀j q,σ j=some q->σ.upd k p j=some q:=fun j q h=>by rw[cb.upd_other _ _ (fun e=>by subst e;rw[hk]at h;cases h),h]
structure qp (w w':World) (x:Obj):Prop where
 os:w'.os=w.os
 tape:w'.tape=w.tape
 output:w'.output=w.output
 heap:w'.heap=w.heap.push x
theorem qp.size {x:Obj} (h:qp w w' x):w'.heap.size=w.heap.size+1:=by rw[h.heap];simp
theorem qp.old {x:Obj} (h:qp w w' x) {b:Nat} (hb:b<w.heap.size):w'.heap[b]?=w.heap[b]?:=by rw[h.heap,acx,if_neg aa]
theorem qp.new {x:Obj} (h:qp w w' x):w'.heap[w.heap.size]?=some x:=by rw[h.heap];simp
theorem bz.alloc (aQ:Ok ρ w σ M) (ce:σ key=none) {x:Obj} (hm:qp w w' x) {room:Nat} {y:bx} {val:XV} {v:Value} {N:Hp} (hN:∀k,gG N k=gG M k\/gG N k=none)
 (hy:OR ρ w' (σ.upd key (w.heap.size,room)) (w.heap.size,room) y) (hv:VR ρ (σ.upd key (w.heap.size,room)) val v):bz ρ w σ M key val (aG N key y) v w':=by
 have sub:=cb.upd_sub (σ:=σ) ce (w.heap.size,room);have JT:∀k o,gG N k=some o->gG M k=some o:=fun k o h=>by rcases hN k with e | e<;>rw[e]at h;exact h;cases h
 have get:∀k o p,gG (aG N key y) k=some o->(σ.upd key (w.heap.size,room)) k=some p->(k=key/\p.1=w.heap.size)\/(gG M k=some o/\σ k=some p/\p.1<w.heap.size):=fun k o p hk hp=>by
  rw[ap]at hk;split at hk
  ·rename_i e
   subst e;rw[cb.upd_same]at hp;cases hp;exact .inl ⟨rfl,rfl⟩
  obtain⟨q,hq,ho⟩:=aQ.obj k o (JT _ _ hk);rw[sub k q hq]at hp;cases hp;exact .inr ⟨JT _ _ hk,hq,ho.lt⟩
 refine⟨σ.upd key (w.heap.size,room),hv,and_assoc.1 ⟨Ok.mk' aQ ⟨hm.os,hm.tape,hm.output,by rw[hm.size];omega,fun b hb _=>hm.old hb,fun b hb=>?_,sub,fun b hb=>?_⟩ (fun k o hk=>?_) (fun k k' o o' p p' hk ia iR hp uV he=>?_),fun k=>?_⟩⟩
 ·obtain⟨k,o,p,hk,hp,rfl,iR⟩:=hb
  rcases get k o p hk hp with ⟨_,e⟩ | ⟨g1,g2,g3⟩
  ·exact .inr aa
  exact .inl ⟨k,o,p,g1,g2,rfl,iR⟩
 ·obtain⟨k,o,p,hk,hp,rfl⟩:=hb
  rcases get k o p hk hp with ⟨_,e⟩ | ⟨g1,g2,g3⟩
  ·exact .inr aa
  exact .inl ⟨k,o,p,g1,g2,rfl⟩
 ·rw[ap]at hk
  split at hk
  ·rename_i e
   subst e;cases hk;exact⟨_,cb.upd_same ..,hy⟩
  obtain⟨p,hp,ho⟩:=aQ.obj k o (JT _ _ hk);exact⟨p,sub k p hp,OR.mono sub (hm.old ho.lt) ho⟩
 ·rcases get k o p hk hp with ⟨e1,e2⟩ | ⟨g1,g2,g3⟩<;>rcases get k' o' p' ia uV with ⟨JS,NF⟩ | ⟨DX,RH,RI⟩
  ·rw[e1,JS]
  ·omega
  ·omega
  exact aQ.inj k k' o o' p p' g1 DX iR g2 RH he
 by_cases e:k=key;·exact .inr e
 exact .inl (cb.upd_other _ _ e)
structure i_ (w w':World) (b:Nat):Prop where
 os:w'.os=w.os
 tape:w'.tape=w.tape
 output:w'.output=w.output
 size:w'.heap.size=w.heap.size
 other:∀j,j≠b->w'.heap[j]?=w.heap[j]?
theorem i_.refl (w:World) (b:Nat):i_ w w b:=⟨rfl,rfl,rfl,rfl,fun _ _=>rfl⟩
theorem i_.trans {b:Nat} (h:i_ w w' b) (k:i_ w' w'' b):i_ w w'' b :=
 ⟨k.os.trans h.os,k.tape.trans h.tape,k.output.trans h.output,k.size.trans h.size,fun j hj=>(k.other j hj).trans (h.other j hj)⟩
theorem bz.turned (aQ:Ok ρ w σ M) {k:Nat} {x y:bx} {p:Nat×Nat} (hx:gG M k=some x) (JX:kF x=true) (hp:σ k=some p) (ht:i_ w w' p.1) {val:XV} {v:Value}
 (hy:OR ρ w' σ p y) (hv:VR ρ σ val v):bz ρ w σ M key val (aG M k y) v w':=by
 have old:∀j o q,j≠k->gG M j=some o->σ j=some q->q.1≠p.1:=fun j o q cf hj hq e=>cf (aQ.inj k j x o p q hx hj JX hp hq e.symm).symm
 have get:∀j o q,gG (aG M k y) j=some o->σ j=some q->(j=k/\q=p)\/(j≠k/\gG M j=some o):=fun j o q hj hq=>by
  rw[ap]at hj;split at hj
  ·rename_i e
   subst e;rw[hp]at hq;cases hq;exact .inl ⟨rfl,rfl⟩
  rename_i e;exact .inr ⟨fun h=>e h.symm,hj⟩
 refine⟨σ,hv,and_assoc.1 ⟨Ok.mk' aQ ⟨ht.os,ht.tape,ht.output,by rw[ht.size];exact u7 _,fun b hb hn=>ht.other b fun e=>hn (by subst e;exact⟨k,x,p,hx,hp,rfl,JX⟩),fun b hb=>.inl ?_,fun _ _ h=>h,fun b hb=>.inl ?_⟩ (fun j o hj=>?_) (fun j j' o o' q q' hj mS iR hq nP he=>?_),fun _=>.inl rfl⟩⟩
 ·obtain⟨j,o,q,hj,hq,rfl,iR⟩:=hb
  rcases get j o q hj hq with ⟨rfl,rfl⟩ | ⟨_,g⟩
  ·exact⟨j,x,q,hx,hq,rfl,JX⟩
  exact⟨j,o,q,g,hq,rfl,iR⟩
 ·obtain⟨j,o,q,hj,hq,rfl⟩:=hb
  rcases get j o q hj hq with ⟨rfl,rfl⟩ | ⟨_,g⟩
  ·exact⟨j,x,q,hx,hq,rfl⟩
  exact⟨j,o,q,g,hq,rfl⟩
 ·rw[ap]at hj
  split at hj
  ·rename_i e
   subst e;cases hj;exact⟨p,hp,hy⟩
  rename_i e;obtain⟨q,hq,ho⟩:=aQ.obj j o hj;exact⟨q,hq,OR.mono (fun _ _ h=>h) (ht.other _ (old j o q (fun h=>e h.symm) hj hq)) ho⟩
 rcases get j o q hj hq with ⟨rfl,rfl⟩ | ⟨h1,g⟩<;>rcases get j' o' q' mS nP with ⟨rfl,rfl⟩ | ⟨u9,g'⟩
 ·rfl
 ·exact(old j' o' q' u9 g' nP he.symm).elim
 ·exact(old j o q h1 g hq he).elim
 exact aQ.inj j j' o o' q q' g g' iR hq nP he
theorem bz.moved (aQ:Ok ρ w σ M) (ce:σ key=none) {k:Nat} {x y:bx} {p:Nat×Nat} (hx:gG M k=some x) (JX:kF x=true) (hp:σ k=some p) (ht:i_ w w' p.1) {val:XV} {v:Value}
 (hy:OR ρ w' (σ.upd key p) p y) (hv:VR ρ (σ.upd key p) val v):bz ρ w σ M key val (aG (vO M k) key y) v w':=by
 have sub:=cb.upd_sub (σ:=σ) ce p;have old:∀j o q,j≠k->gG M j=some o->σ j=some q->q.1≠p.1:=fun j o q cf hj hq e=>cf (aQ.inj k j x o p q hx hj JX hp hq e.symm).symm
 have get:∀j o q,gG (aG (vO M k) key y) j=some o->(σ.upd key p) j=some q->(j=key/\o=y/\q=p)\/(j≠key/\j≠k/\gG M j=some o/\σ j=some q):=fun j o q h hq=>by
  rw[ap,cV]at h;split at h
  ·rename_i e
   cases h;subst e;rw[cb.upd_same]at hq;cases hq;exact .inl ⟨rfl,rfl,rfl⟩
  rename_i e;split at h;·cases h
  rename_i e';obtain⟨q',nP,_⟩:=aQ.obj j o h;rw[sub _ _ nP]at hq;cases hq;exact .inr ⟨fun q=>e q.symm,fun q=>e' q.symm,h,nP⟩
 refine⟨σ.upd key p,hv,and_assoc.1 ⟨Ok.mk' aQ ⟨ht.os,ht.tape,ht.output,by rw[ht.size];exact u7 _,fun b hb hn=>ht.other b fun e=>hn (by subst e;exact⟨k,x,p,hx,hp,rfl,JX⟩),fun b hb=>.inl ?_,sub,fun b hb=>.inl ?_⟩ (fun j o hj=>?_) (fun j j' o o' q q' hj mS iR hq nP he=>?_),fun j=>?_⟩⟩
 ·obtain⟨j,o,q,hj,hq,rfl,iR⟩:=hb
  rcases get j o q hj hq with ⟨rfl,rfl,rfl⟩ | ⟨h1,h2,h3,h4⟩
  ·exact⟨k,x,q,hx,hp,rfl,JX⟩
  exact⟨j,o,q,h3,h4,rfl,iR⟩
 ·obtain⟨j,o,q,hj,hq,rfl⟩:=hb
  rcases get j o q hj hq with ⟨rfl,rfl,rfl⟩ | ⟨h1,h2,h3,h4⟩
  ·exact⟨k,x,q,hx,hp,rfl⟩
  exact⟨j,o,q,h3,h4,rfl⟩
 ·have hj0:=hj
  rw[ap,cV]at hj;split at hj
  ·rename_i e
   cases hj;subst e;exact⟨p,cb.upd_same ..,hy⟩
  split at hj;·cases hj
  rename_i e e';obtain⟨q,hq,ho⟩:=aQ.obj j o hj;exact⟨q,sub _ _ hq,OR.mono sub (ht.other _ (old j o q (fun h=>e' h.symm) hj hq)) ho⟩
 ·rcases get j o q hj hq with ⟨rfl,rfl,rfl⟩ | ⟨h1,h2,h3,h4⟩<;>rcases get j' o' q' mS nP with ⟨rfl,rfl,rfl⟩ | ⟨u9,DY,RK,Yz⟩
  ·rfl
  ·exact(old j' o' q' DY RK Yz he.symm).elim
  ·exact(old j o q h2 h3 h4 he).elim
  exact aQ.inj j j' o o' q q' h3 RK iR h4 Yz he
 by_cases e:j=key;·exact .inr e
 exact .inl (cb.upd_other _ _ e)
end
end
section
variable {P:Program} {o:Oper} {a:Act} {w:World} {ρ:aK} {σ:cb} {M:Hp} {key:Nat} {env:eX} {Γ:cc}
def gv (P:Program) (o:Oper) (a:Act) (w:World) (R:Value->World->Prop):Prop :=
 ∀(K:Act->World->Prop) (Q:Exit->Act->World->Prop),(∀v w',R v w'->K (a.put o.dst v) w')->o.wp P a w K Q
theorem gv.value {R:Value->World->Prop} {v:Value} {w':World} (hr:(execOp a.eval o).run P w = .ok (.value v) w') (h:R v w'):gv P o a w R:=by intro K Q hK;unfold ads;rw[hr];exact hK v w' h
theorem gv.skip {R:Value->World->Prop} {w':World} (hr:(execOp a.eval o).run P w = .ok .skip w') (h:R undef w'):gv P o a w R:=by intro K Q hK;unfold ads;rw[hr];exact hK undef w' h
theorem gv.made {R:Value->World->Prop} {s:Sem Value} {r:Value} {w':World} (hs:(execOp a.eval o).run P w=((s >>= fun v=>Pure.pure (Next.value v)):Sem Next).run P w) (hr:s.run P w = .ok r w') (h:R r w'):gv P o a w R:=by refine .value (v:=r) (w':=w') ?_ h;rw[hs,aav,hr];rfl
theorem c_.length:∀{xs:List XV} {us:List Value},c_ ρ σ xs us->us.length=xs.length
 | [],_,h=>by simp only[c_]at h;simp[h]
 | c::cs,us,h=>by simp only[c_]at h;obtain⟨u,us',rfl,_,h2⟩:=h;simp[c_.length h2]
theorem c_.drop:∀{xs:List XV} {us:List Value} (n:Nat),c_ ρ σ xs us->c_ ρ σ (xs.drop n) (us.drop n)
 | xs,us,0,h=>by simpa using h
 | [],us,n+1,h=>by simp only[c_]at h;simp[h,c_]
 | c::cs,us,n+1,h=>by simp only[c_]at h;obtain⟨u,us',rfl,_,h2⟩:=h;simpa using c_.drop n h2
theorem c_.take:∀{xs:List XV} {us:List Value} (n:Nat),c_ ρ σ xs us->c_ ρ σ (xs.take n) (us.take n)
 | xs,us,0,h=>by simp[c_]
 | [],us,n+1,h=>by simp only[c_]at h;simp[h,c_]
 | c::cs,us,n+1,h=>by simp only[c_]at h;obtain⟨u,us',rfl,h1,h2⟩:=h;simp only[abt,c_];exact⟨u,_,rfl,h1,c_.take n h2⟩
theorem c_.append:∀{xs ys:List XV} {us vs:List Value},c_ ρ σ xs us->c_ ρ σ ys vs->c_ ρ σ (xs++ys) (us++vs)
 | [],_,us,vs,h,h'=>by simp only[c_]at h;simpa [h] using h'
 | c::cs,_,us,vs,h,h'=>by simp only[c_]at h;obtain⟨u,us',rfl,h1,h2⟩:=h;simp only[aa8,c_];exact⟨u,_,rfl,h1,c_.append h2 h'⟩
theorem c_.get:∀{xs:List XV} {us:List Value} {i:Nat} {x:XV},c_ ρ σ xs us->xs[i]?=some x->∃u,us[i]?=some u/\VR ρ σ x u
 | [],_,_,_,_,h=>by simp at h
 | c::cs,us,i,x,h,hx=>by
   simp only[c_]at h;obtain⟨u,us',rfl,h1,h2⟩:=h;cases i with
   | zero=>simp at hx;subst hx;exact⟨u,rfl,h1⟩
   | succ i =>
     obtain⟨u',e,h3⟩:=c_.get h2 (by simpa using hx);exact⟨u',by simpa using e,h3⟩
theorem c_.map {α:Type} {f:α->XV} {g:α->Value} (h:∀x,VR ρ σ (f x) (g x)):∀(l:List α),c_ ρ σ (l.map f) (l.map g)
 | []=>by simp[c_]
 | x::l=>by simp only[aa3,c_];exact⟨_,_,rfl,h x,c_.map h l⟩
theorem tn (v:Value):VR ρ σ (fN v) v:=by
 unfold fN;split<;>simp only[VR]
 exact⟨_,rfl,rfl⟩
def fX (ρ:aK) (σ:cb) (env:eX) (tmps:Array Value):Prop:=∀t v,gG env t=some v->t<tmps.size/\VR ρ σ v (tmps.getD t undef)
theorem bf (h:fX ρ σ env a.tmps) (x:Operand):VR ρ σ (cG env x) (a.eval x):=by
 cases x with
 | tmp t =>
   simp only[cG,Act.eval];cases he:gG env t with
   | none=>simp only[VR]
   | some v=>exact(h t v he).2
 | const v=>exact tn v
 | global g=>simp only[cG,VR]
 | func f=>simp only[cG,VR,Act.eval];exact⟨#[],#[],rfl,by simp[c_],by simp[c_]⟩
theorem nS (h:fX ρ σ env a.tmps):∀(xs:List Operand),c_ ρ σ (lX env xs) (xs.map a.eval)
 | []=>by simp[lX,c_]
 | x::xs=>by simp only[lX,c_,aa3];exact⟨_,_,rfl,bf h x,nS h xs⟩
theorem av {t:TypeId} {d:TypeDesc} (h:P.underlying t=some d) (w:World):(underlying t).run P w = .ok d w:=run_underlying h w
theorem GY {t n:Nat} (h:cE P t=some n):∃inf,P.info? t=some inf/\inf.size=n:=by
 unfold cE at h;split at h;·rename_i i hi;cases h;exact⟨i,hi,rfl⟩
 cases h
theorem da {t n:Nat} (h:cE P t=some n) (w:World):(sizeOf t).run P w = .ok n w:=by obtain⟨inf,h1,rfl⟩:=GY h;simp[sizeOf,typeInfo,h1]
theorem Lz {t:Nat} {b:Bool} (h:sB P t=some b):∃d,P.underlying t=some d/\xw d=b:=by
 unfold sB at h;split at h;·rename_i d hd;cases h;exact⟨d,hd,rfl⟩
 cases h
theorem ls {t:Nat} {b:Bool} (h:sB P t=some b) (w:World):(isAgg t).run P w = .ok b w:=by obtain⟨d,h1,rfl⟩:=Lz h;simp only[isAgg,aav,av h1,aar];cases d<;>rfl
theorem Az {t:Nat} {zs:List XV} (h:aJ P t=some zs):∃inf z,P.info? t=some inf/\inf.zero=some z/\zs=z.cells.toList.map fN:=by
 unfold aJ at h;split at h
 ·rename_i i hi
  split at h;·rename_i z hz;cases h;exact⟨i,z,hi,hz,rfl⟩
  cases h
 cases h
theorem jE (l:List Value):c_ ρ σ (l.map fN) l:=by have:=c_.map (ρ:=ρ) (σ:=σ) (f:=fN) (g:=id) (fun v=>tn v) l;simpa using this
theorem pN {t:Nat} {xs:List XV} {us:Array Value} {off:Nat} {v:XV} (h:c_ ρ σ xs us.toList) (hv:dR P t (xs.drop off)=some v) :
 ∃u,(part t us off).run P w = .ok u w/\VR ρ σ v u:=by
 unfold dR at hv;split at hv
 ·rename_i n ha hs
  split at hv
  ·rename_i hn
   cases hv;have hn:=aaD hn;simp only[part,aav,ls ha,aar,if_true,da hs,aaA];refine⟨_,rfl,?_⟩;simp only[VR];refine⟨_,rfl,?_⟩;have:=(h.drop off).take n;simpa [extract_eq_take_drop] using this
  cases hv
 ·rename_i n ha hs
  split at hv
  ·rename_i x xs' hx
   cases hv;obtain⟨u,h1,h2⟩:=(h.drop off).get (i:=0) (x:=v) (by rw[hx];rfl);have u9:us[off]?=some u:=by simpa using h1
   simp only[part,aav,ls ha,aar,aay,if_false,u9,aaA];exact⟨u,rfl,h2⟩
  cases hv
 cases hv
theorem OJ (op:BinOp) (t:TypeId) (k k':IntKind) (x y:Operand) (f g:Int) (e:XV) (h:bj op k f k' g=some e) :
 ∃r,(do eqGuard op t x y (.int k f) (.int k' g);binOp op t (.int k f) (.int k' g):Sem Value).run P w = .ok r w/\VR ρ σ e r:=by
 rw[eqGuard_at_int,pure_bind];unfold bj at h;split at h
 ·split at h
  ·cases h
  rename_i hd;cases h;have hv:¬ g<0:=by simpa using hd
  refine⟨_,?_,by simp only[VR];rfl⟩;simp only[binOp,Op.shift,if_neg hv];rfl
 ·split at h
  ·cases h
  rename_i hd;cases h;have hv:¬ g<0:=by simpa using hd
  refine⟨_,?_,by simp only[VR];rfl⟩;simp only[binOp,Op.shift,if_neg hv];rfl
 split at h;·cases h
 rename_i hk;obtain rfl:k=k':=by simpa using hk
 split at h<;>(try (cases h;done))<;>(try (split at h<;>(try (cases h;done))))<;>cases h<;>(try rename_i hd) <;>
  refine⟨_,?_,by simp only[VR];rfl⟩ <;>
  simp only[binOp,ne_eq,not_true_eq_false,if_false,Op.intArith,Op.intBits,Op.intCmp,Op.intDiv] <;>
  (try (rw[if_neg (show ¬ g=0 by simpa using hd)]))<;>rfl
theorem nL:∀(a b:List Nat),uy a b=(a==b)
 | [],[]=>rfl
 | [],_::_=>rfl
 | _::_,[]=>rfl
 | a::x,b::y=>by
   simp only[uy];cases h:aaW a b with
   | true =>
     have:=aaB h;subst this;simp[nL x y]
   | false =>
     have:¬ a=b:=fun e=>by subst e;simp at h
     simp[this]
def nb (l:List UInt8):List Nat:=l.map fun b=>b.toNat
theorem BK:∀{a b:List UInt8},nb a=nb b->a=b
 | [],[],_=>rfl
 | [],_::_,h=>by simp[nb]at h
 | _::_,[],h=>by simp[nb]at h
 | a::x,b::y,h=>by simp only[nb,aa3,abI]at h;rw[UInt8.toNat_inj.1 h.1,BK (a:=x) (b:=y) h.2]
theorem yn (a b:List UInt8):(nb a==nb b)=(a==b):=by rw[acK];simp only[beq_iff_eq];exact⟨BK,fun h=>by rw[h]⟩
theorem zL:∀(a b:List UInt8),AA (nb a) (nb b)=Op.bytesLess a b
 | [],[]=>rfl
 | [],_::_=>rfl
 | _::_,[]=>rfl
 | a::x,b::y=>by
   have ih:=zL x y;simp only[nb,aa3,AA,Op.bytesLess]at ih ⊢;cases h:aaW a.toNat b.toNat with
   | true =>
     have:=UInt8.toNat_inj.1 (aaB h);subst this;simp[ih]
   | false =>
     have cf:¬ a=b:=fun e=>by subst e;simp at h
     have h2:(a==b)=false:=by simpa using cf
     simp only[h2,Bool.false_and,Bool.or_false];rw[acK];simp only[abD,decide_eq_true_eq];exact UInt8.lt_iff_toNat_lt.symm
theorem oa (s:ByteArray):(nb s.data.toList).length=s.size:=by show _=s.data.size;simp[nb]
theorem Fw (op:BinOp) (t:TypeId) (x y:Operand) (s s':List Nat) (u v:Value) (e:XV) (h:B7 op s s'=some e) (hu:VR ρ σ (.str s) u) (hv:VR ρ σ (.str s') v) :
 ∃r,(do eqGuard op t x y u v;binOp op t u v:Sem Value).run P w = .ok r w/\VR ρ σ e r:=by
 simp only[VR]at hu hv;obtain⟨b,rfl,rfl⟩:=hu;obtain⟨b',rfl,rfl⟩:=hv;rw[eqGuard_at_string,pure_bind];have q1:uy (nb b.data.toList) (nb b'.data.toList)=(b.toList==b'.toList):=by rw[nL,yn,abG,abG]
 have q2:AA (nb b.data.toList) (nb b'.data.toList)=Op.bytesLess b.toList b'.toList:=by rw[zL,abG,abG]
 unfold B7 at h;split at h<;>(try (cases h;done))
 case h_3 =>
  split at h<;>(try (cases h;done))
  rename_i hb;cases h;have hb:=aaD hb;have e1:=oa b;have e2:=oa b';simp only[nb]at e1 e2;unfold fE at hb;refine⟨.string (b++b'),?_,?_⟩
  ·simp only[binOp]
   exact run_string_add_sum _ b b' aa
  simp only[VR];exact⟨_,rfl,af⟩
 all_goals
  cases h;refine⟨_,rfl,?_⟩;simp only[VR]
  first
   | (show _=ab4 _;rw[<-q1];rfl)
   | (show _=ab4 _;rw[<-q2];rfl)
   | (show _=ab4 _;rw[<-q1,<-q2];rfl)
theorem C2 (ρ:aK):∀s:List Nat,oJ ρ (Kc s)=s
 | []=>rfl
 | n::s=>by have ih:=C2 ρ s;simp only[Kc]at ih;simp only[Kc,aa3,oJ,ih]
theorem C8:∀s:List Nat,FA (Kc s)=s.length
 | []=>rfl
 | n::s=>by have ih:=C8 s;simp only[Kc]at ih;simp only[Kc,aa3,FA,ih,aaw]
theorem BD.str {s:List Nat} {v:Value} (h:VR ρ σ (.str s) v):BD ρ (Kc s) v:=by simp only[VR]at h;obtain⟨t,rfl,ht⟩:=h;exact⟨t,rfl,by rw[C2,ht],by rw[C8,<-ht,abd];exact u7 _⟩
theorem qU (ρ:aK):∀x y:List Pc,oJ ρ (x++y)=oJ ρ x++oJ ρ y
 | [],y=>rfl
 | .b n::x,y=>by simp only[aa8,oJ,qU ρ x y]
 | .z i::x,y=>by simp only[aa8,oJ,qU ρ x y,append_assoc]
theorem xA:∀x y:List Pc,FA (x++y)=FA x+FA y
 | [],y=>by simp[FA]
 | .b n::x,y=>by simp only[aa8,FA,xA x y];omega
 | .z i::x,y=>by simp only[aa8,FA,xA x y];omega
theorem aas:∀{x y:List Pc},sF x y=true->x=y
 | [],[],_=>rfl
 | .b m::x,.b n::y,h=>by
   unfold sF at h;split at h<;>(try (cases h;done))
   rename_i hm;rw[aaB hm,aas h]
 | .z m::x,.z n::y,h=>by
   unfold sF at h;split at h<;>(try (cases h;done))
   rename_i hm;rw[aaB hm,aas h]
 | [],_::_,h=>by simp[sF]at h
 | _::_,[],h=>by cases ‹Pc› <;> simp[sF]at h
 | .b _::_,.z _::_,h=>by simp[sF]at h
 | .z _::_,.b _::_,h=>by simp[sF]at h
theorem C0 (op:BinOp) (t:TypeId) (x y:Operand) (p q:List Pc) (u v:Value) (e:XV) (h:uv op p q=some e) (hu:BD ρ p u) (hv:BD ρ q v) :
 ∃r,(do eqGuard op t x y u v;binOp op t u v:Sem Value).run P w = .ok r w/\VR ρ σ e r:=by
 obtain⟨b,rfl,Ua,Ub⟩:=hu;obtain⟨b',rfl,YQ,Qz⟩:=hv;rw[eqGuard_at_string,pure_bind];have same:sF p q=true->(b.toList==b'.toList)=true:=fun Gq=>by have:=aas Gq;subst this;rw[<-YQ]at Ua;have e1:nb b.data.toList=nb b'.data.toList:=Ua;rw[abG,abG,<-yn,e1];simp
 unfold uv at h;split at h<;>(try (cases h;done))
 ·split at h<;>(try (cases h;done))
  rename_i hl;cases h;have hl:=aaD hl;unfold fE at hl;have s1:b.size=b.data.toList.length:=af;have s2:b'.size=b'.data.toList.length:=af;refine⟨.string (b++b'),?_,?_⟩
  ·simp only[binOp]
   exact run_string_add_sum _ b b' aa
  simp only[VR];refine⟨_,rfl,?_,?_⟩;·rw[qU,<-Ua,<-YQ];simp
  rw[xA];simp;simp at Ub Qz;omega
 ·split at h<;>(try (cases h;done))
  rename_i Gq;cases h;refine⟨_,rfl,?_⟩;simp only[VR];show ab4 _=ab4 _;rw[<-same Gq]
 split at h<;>(try (cases h;done))
 rename_i Gq;cases h;refine⟨_,rfl,?_⟩;simp only[VR];have:=same Gq;show ab4 (!(b.toList==b'.toList))=ab4 false;rw[this];rfl
theorem O_ (op:UnOp) (p e:XV) (u:Value) (h:S_ op p=some e) (hp:VR ρ σ p u):∃r,(Op.unary op u).run P w = .ok r w/\VR ρ σ e r:=by unfold S_ at h;split at h<;>(try (cases h;done))<;>cases h<;>simp only[VR]at hp<;>subst hp<;>refine⟨_,rfl,?_⟩<;>first | (simp only[VR];done) | (simp only[VR];rfl)
end
section
variable {P:Program} {o:Oper} {a:Act} {w:World} {ρ:aK} {σ:cb} {M:Hp} {key:Nat} {env:eX} {Γ:cc}
def rg:Value->Bool
 | .int .. | .float .. | .complex .. | .string _=>false
 | _=>true
theorem oz (t:TypeId) {u v:Value} (h:rg u=true):binOp .eql t u v=(do pure (.bool (<-ac8 t u v)):Sem Value):=by cases u<;>first | (simp[rg]at h;done) | (cases v<;>rfl)
theorem oG (t:TypeId) {u v:Value} (h:rg u=true):binOp .neq t u v=(do pure (.bool (!(<-ac8 t u v))):Sem Value):=by cases u<;>first | (simp[rg]at h;done) | (cases v<;>rfl)
theorem wK {td:TypeDesc} {x y:XV} {b:Bool} (h:lT td x y=some b) {t:Nat} (ht:P.underlying t=some td) {u v:Value} (hx:VR ρ σ x u) (hy:VR ρ σ y v) (D:Nat) :
 (abj (D+1) t u v).run P w = .ok b w/\rg u=true/\∀op x y,(eqGuard op t x y u v).run P w = .ok () w:=by
 unfold lT at h;split at h<;>(try (cases h;done))<;>cases h<;>simp only[VR]at hx hy
 ·subst hx hy
  refine⟨?_,rfl,fun op x y=>by rw[eqGuard_at_slice];rfl⟩;simp only[abj,aav,av ht,aar];rfl
 ·obtain⟨b,room,cap',off',_,rfl,_⟩:=hx
  subst hy;refine⟨?_,rfl,fun op x y=>by rw[eqGuard_at_slice];rfl⟩;simp only[abj,aav,av ht,aar];rfl
 ·subst hx hy
  refine⟨?_,rfl,fun op x y=>by rw[eqGuard_at_pointer];rfl⟩;simp only[abj,aav,av ht,aar];rfl
 ·obtain⟨b,room,_,rfl⟩:=hx
  subst hy;refine⟨?_,rfl,fun op x y=>by rw[eqGuard_at_pointer];rfl⟩;simp only[abj,aav,av ht,aar];rfl
 ·subst hx hy
  refine⟨?_,rfl,fun op x y=>by rw[eqGuard_at_nilFunc];rfl⟩;simp only[abj,aav,av ht,aar];rfl
 ·obtain⟨us,us',rfl,_⟩:=hx
  subst hy;refine⟨?_,rfl,fun op x y=>by rw[eqGuard_at_func];rfl⟩;simp only[abj,aav,av ht,aar];rfl
 ·subst hx hy
  refine⟨?_,rfl,fun op x y=>by unfold eqGuard;split<;>rfl⟩;simp only[abj,aav,av ht,aar];rfl
 ·obtain⟨b,room,_,rfl⟩:=hx
  subst hy;refine⟨?_,rfl,fun op x y=>by unfold eqGuard;split<;>rfl⟩;simp only[abj,aav,av ht,aar];rfl
 obtain⟨u',rfl,_⟩:=hx;subst hy;refine⟨?_,rfl,fun op x y=>by unfold eqGuard;split<;>rfl⟩;simp only[abj,aav,av ht,aar];rfl
set_option maxHeartbeats 2000000 in
mutual
theorem uN (hΓ:∀i op c b k,Γ i op c=some b->bj op k (ρ i) k c=some (.bool b)):∀(d D t:Nat) (x y:XV) (u v:Value) (b:Bool),d<=D->vQ P Γ d t x y=some b->VR ρ σ x u->VR ρ σ y v->(abj D t u v).run P w = .ok b w
 | 0,_,_,_,_,_,_,_,_,h,_,_=>by simp[vQ]at h
 | d+1,0,_,_,_,_,_,_,hD,_,_,_=>aa
 | d+1,D+1,t,x,y,u,v,b,hD,h,hx,hy=>by
   unfold vQ at h;split at h;·cases h
   rename_i td hu;split at h
   ·cases h
    simp only[VR]at hx hy;subst hx hy;simp only[abj,aav,av hu,aar];rfl
   ·split at h<;>(try (cases h;done))
    rename_i hk;cases h;simp only[decide_eq_true_eq]at hk;subst hk;simp only[VR]at hx hy;subst hx hy;simp only[abj,aav,av hu,aar,if_true,aaA]
   ·split at h<;>(try (cases h;done))
    rename_i hk;simp only[decide_eq_true_eq]at hk;subst hk;have hb:=hΓ _ _ _ _ (by assumption) h;simp only[VR]at hx hy;subst hx hy;simp only[bj,decide_true,aat,XV.bool.injEq]at hb;simp only[abj,aav,av hu,aar,if_true,aaA,hb]
   ·cases h
    simp only[VR]at hx hy;obtain⟨s,rfl,rfl⟩:=hx;obtain⟨s',rfl,rfl⟩:=hy;simp only[abj,aav,av hu,aar,aaA];have e:(s==s')=(s.data.toList==s'.data.toList):=by
     cases s with | mk s=>cases s' with | mk s' =>
     show (s==s')=(s.toList==s'.toList);rw[acK];simp only[beq_iff_eq];exact⟨fun h=>by rw[h],fun h=>acF.1 h⟩
    rw[e,<-yn,<-nL];rfl
   ·rename_i fs xs ys
    split at h<;>(try (cases h;done))
    rename_i hs hg;simp only[VR]at hx hy;obtain⟨us,rfl,hx⟩:=hx;obtain⟨vs,rfl,hy⟩:=hy;have:=Dk hΓ d D fs.toList xs ys us vs b aa h hx hy;simp only[abj,aav,av hu,aar,run_program,hs,aay,if_false];rw[<-Array.forIn_toList,this];cases b<;>rfl
   exact(wK h hu hx hy D).1
theorem Dk (hΓ:∀i op c b k,Γ i op c=some b->bj op k (ρ i) k c=some (.bool b)):∀(d D:Nat) (fs:List Field) (xs ys:List XV) (us vs:Array Value) (b:Bool),d<=D->se P (vQ P Γ d) fs xs ys=some b->c_ ρ σ xs us.toList->c_ ρ σ ys vs.toList ->
 ab9 P (forIn fs ((none:Option Bool),()) fun f __s =>
  if f.name ≠ "_" then do
   let __do_lift <-part f.type us f.offset
   let __do_lift_1 <-part f.type vs f.offset
   let __do_lift <-abj D f.type __do_lift __do_lift_1
   if (!__do_lift)=true then pure (ForInStep.done (some false,()))
    else pure (acB (none,()))
  else pure (acB (none,()))) w = .ok (if b then (none,()) else (some false,())) w
 | d,D,[],xs,ys,us,vs,b,hD,h,hx,hy=>by simp only[se,aat]at h;subst h;rfl
 | d,D,f::fs,xs,ys,us,vs,b,hD,h,hx,hy=>by
   simp only[se]at h;split at h;·cases h
   rename_i hn;have hn:f.name ≠ "_":=by simpa using hn
   split at h<;>(try (cases h;done))
   rename_i p q hp hq;obtain⟨p',hp1,uW⟩:=pN (w:=w) hx hp;obtain⟨q',VO,R4⟩:=pN (w:=w) hy hq;split at h<;>(try (cases h;done))<;>rename_i he
   ·have h6:=uN hΓ d D f.type p q p' q' true hD he uW R4
    have h7:=Dk hΓ d D fs xs ys us vs b hD h hx hy;simp only[forIn_cons,if_pos hn,bind_assoc,aav,hp1,VO,h6,aar];simp only[Bool.not_true,aay,if_false,aaA,aar];exact h7
   cases h;have h6:=uN hΓ d D f.type p q p' q' false hD he uW R4;simp only[forIn_cons,if_pos hn,bind_assoc,aav,hp1,VO,h6,aar];rfl
end
theorem wQ {d t:Nat} {p q:XV} {u v:Value} {b:Bool} (h:vQ P Γ d t p q=some b) (hp:VR ρ σ p u) (hq:VR ρ σ q v)
 (hn:∀k a k' b,p = .int k a->q = .int k' b->False) (hs:∀a b,p = .str a->q = .str b->False) (hi:∀k i k' b,p = .si k i->q = .int k' b->False) (op:BinOp) (x y:Operand) :
 rg u=true/\(eqGuard op t x y u v).run P w = .ok () w:=by
 cases d with
 | zero=>simp[vQ]at h
 | succ d =>
   unfold vQ at h;split at h;·cases h
   rename_i td hu;split at h;·simp only[VR]at hp;subst hp;rw[eqGuard_at_bool];exact⟨rfl,rfl⟩
   ·exact(hn _ _ _ _ rfl rfl).elim
   ·exact(hi _ _ _ _ rfl rfl).elim
   ·exact(hs _ _ rfl rfl).elim
   ·split at h<;>(try (cases h;done))
    rename_i bw hg;simp only[VR]at hp hq;obtain⟨us,rfl,_⟩:=hp;obtain⟨vs,rfl,_⟩:=hq;refine⟨rfl,?_⟩;unfold eqGuard;split<;>simp[hg]
   obtain⟨_,h2,h3⟩:=wK (w:=w) h hu hp hq 0;exact⟨h2,h3 op x y⟩
theorem LK (hΓ:∀i op c b k,Γ i op c=some b->bj op k (ρ i) k c=some (.bool b)) (op:BinOp) (t:TypeId) (x y:Operand) (p q e:XV) (u v:Value)
 (h:io P Γ t op (SX y) p q=some e) (hp:VR ρ σ p u) (hq:VR ρ σ q v) :
 ∃r,(do eqGuard op t x y u v;binOp op t u v:Sem Value).run P w = .ok r w/\VR ρ σ e r:=by
 unfold io at h;split at h
 ·simp only[VR]at hp hq
  subst hp hq;exact OJ op t _ _ x y _ _ e h
 ·exact Fw op t x y _ _ u v e h hp hq
 ·simp only[VR]at hp hq
  exact C0 op t x y _ _ u v e h hp hq
 ·simp only[VR]at hp
  exact C0 op t x y _ _ u v e h hp (BD.str hq)
 ·simp only[VR]at hq
  exact C0 op t x y _ _ u v e h (BD.str hp) hq
 ·split at h<;>(try (cases h;done))
  rename_i hk;simp only[decide_eq_true_eq]at hk;subst hk;split at h<;>(try (cases h;done))
  rename_i hb;cases h;simp only[VR]at hp hq;subst hp hq;exact OJ op t _ _ x y _ _ _ (hΓ _ _ _ _ _ hb)
 ·simp only[VR]at hp hq
  subst hp hq;have hyc:SX y=true:=by split at h<;>(try (cases h;done))<;>assumption
  have hg:∀op,(eqGuard op t x y .nilIface .nilIface).run P w = .ok () w:=by
   intro op;obtain⟨c,rfl⟩:∃c,y = .const c:=by
    cases y with
    | const c=>exact⟨c,rfl⟩
    | _=>simp[SX]at hyc
   unfold eqGuard;cases op<;>simp
  split at h<;>(try (cases h;done))<;>rename_i hu<;>cases h
  ·refine⟨.bool true,?_,by simp only[VR]⟩
   rw[aav,hg,aar,oz t rfl];have e:aco=aco - 1+1:=aj;rw[ac8,e];simp only[abj,aav,av hu,aar];rfl
  refine⟨.bool false,?_,by simp only[VR]⟩;rw[aav,hg,aar,oG t rfl];have e:aco=aco - 1+1:=aj;rw[ac8,e];simp only[abj,aav,av hu,aar];rfl
 rename_i h1 h2 _ _ _ h3i _;split at h<;>(try (cases h;done))<;>rename_i b hb<;>cases h
 ·have he:=uN (w:=w) hΓ 40 aco t p q u v b aj hb hp hq
  obtain⟨h3,h4⟩:=wQ (w:=w) hb hp hq (fun k a k' b e1 e2=>h1 k a k' b e1 e2) (fun a b e1 e2=>h2 a b e1 e2) (fun k i k' b e1 e2=>h3i k i k' b e1 e2) .eql x y;refine⟨.bool b,?_,by simp only[VR]⟩;rw[aav,h4,aar,oz t h3];simp only[aav,ac8,he,aar,aaA]
 have he:=uN (w:=w) hΓ 40 aco t p q u v b aj hb hp hq;obtain⟨h3,h4⟩:=wQ (w:=w) hb hp hq (fun k a k' b e1 e2=>h1 k a k' b e1 e2) (fun a b e1 e2=>h2 a b e1 e2) (fun k i k' b e1 e2=>h3i k i k' b e1 e2) .neq x y;refine⟨.bool (!b),?_,by simp only[VR]⟩;rw[aav,h4,aar,oG t h3];simp only[aav,ac8,he,aar,aaA]
end
section
variable {P:Program} {o:Oper} {a:Act} {w w':World} {ρ:aK} {σ:cb} {M:Hp} {key:Nat} {env:eX} {Γ:cc}
theorem c_.of_get:∀{xs:List XV} {us:List Value},us.length=xs.length->(∀(i:Nat) (x:XV),xs[i]?=some x->∃u:Value,us[i]?=some u/\VR ρ σ x u)->c_ ρ σ xs us
 | [],us,h,_=>by simp only[c_];exact abk (by simpa using h)
 | x::xs,[],h,_=>by simp at h
 | x::xs,u::us,h,hg=>by simp only[c_];obtain⟨u',e,hu⟩:=hg 0 x rfl;simp only[aaI,aat]at e;subst e;exact⟨_,us,rfl,hu,c_.of_get (by simpa using h) fun i y hy=>by simpa using hg (i+1) y (by simpa using hy)⟩
theorem Gz:∀(cs vs:List XV),vs.length<=cs.length->(bp.over cs vs).length=cs.length/\∀j:Nat,(bp.over cs vs)[j]?=if j<vs.length then vs[j]? else cs[j]?
 | cs,[],_=>⟨by cases cs<;>rfl,fun j=>by cases cs<;>simp[bp.over]⟩
 | [],_::_,h=>by simp at h
 | c::cs,v::vs,h=>by
   obtain⟨h1,h2⟩:=Gz cs vs (by simpa using h);refine⟨by simp[bp.over,h1],fun j=>?_⟩;cases j with
   | zero=>simp[bp.over]
   | succ j=>simp[bp.over,h2]
theorem qQ:∀(cs:List XV) (off:Nat) (vs:List XV),off+vs.length<=cs.length->(bp cs off vs).length=cs.length/\∀j:Nat,(bp cs off vs)[j]?=if off<=j/\j<off+vs.length then vs[j - off]? else cs[j]?
 | cs,0,vs,h=>by
   obtain⟨h1,h2⟩:=Gz cs vs (by simpa using h);have e:bp cs 0 vs=bp.over cs vs:=by cases cs<;>rfl
   rw[e];refine⟨h1,fun j=>?_⟩;rw[h2];simp
 | [],off+1,vs,h=>by simp at h
 | c::cs,off+1,vs,h=>by
   obtain⟨h1,h2⟩:=qQ cs off vs (by simp at h;omega);refine⟨by simp[bp,h1],fun j=>?_⟩;cases j with
   | zero=>simp[bp]
   | succ j =>
     simp only[bp,aa1,h2];by_cases hh:off<=j/\j<off+vs.length
     ·rw[if_pos hh,if_pos aa]
      rw[show j+1 - (off+1)=j - off by omega]
     rw[if_neg hh,if_neg aa]
theorem VR.plain {v:XV} {u:Value} (hp:ax v=true) (h:VR ρ σ v u):u.cells = #[u]/\u.oneCell'=true:=by
 cases v<;>simp only[ax,aay]at hp<;>simp only[VR]at h
 case int=>subst h;exact⟨rfl,rfl⟩
 case bool=>subst h;exact⟨rfl,rfl⟩
 case str=>obtain⟨_,rfl,_⟩:=h;exact⟨rfl,rfl⟩
 case si=>subst h;exact⟨rfl,rfl⟩
 case nils=>subst h;exact⟨rfl,rfl⟩
 case nilp=>subst h;exact⟨rfl,rfl⟩
 case nilf=>subst h;exact⟨rfl,rfl⟩
 case nilm=>subst h;exact⟨rfl,rfl⟩
 case nili=>subst h;exact⟨rfl,rfl⟩
 case sl=>obtain⟨_,_,_,_,_,rfl,_⟩:=h;exact⟨rfl,rfl⟩
 case mp=>obtain⟨_,_,_,rfl⟩:=h;exact⟨rfl,rfl⟩
 case mm=>obtain⟨_,_,_,rfl⟩:=h;exact⟨rfl,rfl⟩
 case txt=>obtain⟨_,rfl,_⟩:=h;exact⟨rfl,rfl⟩
 case yd=>obtain⟨_,_,_,rfl⟩:=h;exact⟨rfl,rfl⟩
 case fn=>obtain⟨_,_,rfl,_⟩:=h;exact⟨rfl,rfl⟩
 case ifc=>obtain⟨_,rfl,_⟩:=h;exact⟨rfl,rfl⟩
theorem c_.ones {vs:List XV} {us:List Value} (hp:vs.all ax=true) (h:c_ ρ σ vs us):∀u ∈ us,u.oneCell'=true:=by
 induction vs generalizing us with
 | nil=>simp only[c_]at h;simp[h]
 | cons v vs ih =>
   simp only[all_cons,aaF]at hp;simp only[c_]at h;obtain⟨u,us',rfl,hu,h⟩:=h;intro x hx;rcases aaK.1 hx with rfl | hx
   ·exact(VR.plain hp.1 hu).2
   exact ih hp.2 h x hx
theorem pf {v:XV} {u:Value} (hp:(cellsOf v).all ax=true) (h:VR ρ σ v u):c_ ρ σ (cellsOf v) u.cells.toList/\∀c ∈ u.cells.toList,c.oneCell'=true:=by
 have key:c_ ρ σ (cellsOf v) u.cells.toList:=by
  unfold cellsOf at hp ⊢;split at hp
  ·simp only[VR]at h
   obtain⟨us,rfl,h⟩:=h;exact h
  simp only[all_cons,all_nil,Bool.and_true]at hp;rw[(VR.plain hp h).1];simp only[c_];exact⟨u,[],rfl,h,rfl⟩
 exact⟨key,c_.ones hp key⟩
theorem sZ (aQ:Ok ρ w σ M) {n:Nat} {cs:List XV} (h:bA M n=some cs) :
 ∃b room us t fz,gG M n=some (.row cs)/\σ n=some (b,room)/\w.heap[b]?=some (.cells us t fz)/\us.size=room/\cs.length<=room/\unfrozen us fz/\c_ ρ σ cs (us.toList.take cs.length):=by
 unfold bA at h;split at h
 ·rename_i cs' hm
  cases h;obtain⟨⟨b,room⟩,hp,ho⟩:=aQ.obj n _ hm;obtain⟨us,t,fz,r⟩:=ho;exact⟨b,room,us,t,fz,hm,hp,r⟩
 cases h
theorem Cr (aQ:Ok ρ w σ M) {n:Nat} {cs:List XV} (h:vR M n=some cs) :
 ∃b room us t fz,(∃o,gG M n=some o)/\σ n=some (b,room)/\w.heap[b]?=some (.cells us t fz)/\us.size=room/\cs.length<=room/\True/\c_ ρ σ cs (us.toList.take cs.length):=by
 unfold vR at h;split at h
 ·rename_i cs' hm
  cases h;obtain⟨⟨b,room⟩,hp,ho⟩:=aQ.obj n _ hm;obtain⟨us,t,fz,h1,h2,h3,h4,h5⟩:=ho;exact⟨b,room,us,t,fz,⟨_,hm⟩,hp,h1,h2,h3,trivial,h5⟩
 ·rename_i cs' hm
  cases h;obtain⟨⟨b,room⟩,hp,ho⟩:=aQ.obj n _ hm;obtain⟨us,t,fz,h1,h2,h3,h5⟩:=ho;exact⟨b,room,us,t,fz,⟨_,hm⟩,hp,h1,h2,h3,trivial,h5⟩
 cases h
theorem nR {b:Nat} {us:Array Value} {t:TypeId} {fz:Nat×Nat} (hh:w.heap[b]?=some (.cells us t fz)) {cs:List XV} (hv:c_ ρ σ cs (us.toList.take cs.length)) (off n:Nat) (hl:off+n<=cs.length) :
 ∃ws:List Value,c_ ρ σ ((cs.drop off).take n) ws/\ws.length=n/\∀j u,ws[j]?=some u->w.cell? ⟨b,off+j,none⟩=some u:=by
 have h1:=(hv.drop off).take n;refine⟨_,h1,?_,fun j u hj=>?_⟩
 ·have:=h1.length
  rw[this];simp;omega
 rw[cell_of_row w b (off+j) us t fz hh];rw[abN]at hj;split at hj
 ·rw[getElem?_drop,abN]at hj
  split at hj;·simpa using hj
  cases hj
 cases hj
theorem Ay (aQ:Ok ρ w σ M) {t:Nat} {x:XV} {u:Value} {e:bZ} (h:b_ P M t x=some e) (hx:VR ρ σ x u):∃r,(Instr.loadAt t u).run P w = .ok r w/\VR ρ σ e.val r/\e.upd=[]:=by
 unfold b_ at h;split at h<;>(try (cases h;done))
 rename_i n off;split at h<;>(try (cases h;done))
 rename_i cs hm;split at h<;>(try (cases h;done))
 rename_i v hv;cases h;obtain⟨b,room,us,ty,fz,_,hs,hh,_,_,_,CR⟩:=Cr aQ hm;simp only[VR]at hx;obtain⟨b',room',lJ,rfl⟩:=hx;rw[hs]at lJ;cases lJ;simp only[Instr.loadAt,acp,aav,aaA,aar,loadVar];unfold dR at hv;split at hv
 ·rename_i n ha cJ
  split at hv<;>(try (cases hv;done))
  rename_i hn;cases hv;have hn:=aaD hn;rw[acz]at hn;simp only[ls ha,aar,if_true,da cJ,aav,aaA];by_cases h0:n=0
  ·subst h0
   refine⟨.agg #[],rfl,?_,trivial⟩;simp[VR,c_]
  obtain⟨ws,g1,g2,g3⟩:=nR hh CR off n aa;have:=run_loadCells_list (P:=P) (w:=w) ⟨b,off,none⟩ ws (fun j v hv=>by rw[abx];exact g3 j v hv);rw[g2]at this;rw[this];refine⟨_,rfl,?_,trivial⟩;simp only[VR];exact⟨_,rfl,by simpa using g1⟩
 ·rename_i n ha cJ
  split at hv<;>(try (cases hv;done))
  rename_i x xs' hx;cases hv;have aL:off+1<=cs.length:=by
   have:(cs.drop off).length≠0:=by rw[hx];simp
   rw[acz]at this;omega
  obtain⟨ws,g1,g2,g3⟩:=nR hh CR off 1 aL;rw[hx]at g1;simp only[abt,take_zero,c_]at g1;obtain⟨u,us',rfl,g1,rfl⟩:=g1;have:=g3 0 u rfl;simp only[ls ha,aar,aay,if_false];refine⟨u,?_,g1,trivial⟩;simp only[aaX]at this;simp[this]
 cases hv
def tv (cs:Array Value) (o:Nat) (vs:List Value) (cs':Array Value):Prop :=
 cs'.size=cs.size/\∀j:Nat,cs'[j]?=if o<=j/\j<o+vs.length then vs[j - o]? else cs[j]?
theorem eR (b o:Nat):∀(vs:List Value) (i:Nat) (w:World) (cs:Array Value) (t:TypeId) (fz:Nat×Nat),w.heap[b]?=some (.cells cs t fz)->unfrozen cs fz->o+i+vs.length<=cs.size->(∀v ∈ vs,v.oneCell'=true) ->
 ∃w' cs',(storeCells ⟨b,o,none⟩ vs i).run P w = .ok () w'/\i_ w w' b/\w'.heap[b]?=some (.cells cs' t fz)/\tv cs (o+i) vs cs'
 | [],i,w,cs,t,fz,hh,_,_,_=>⟨w,cs,rfl,.refl w b,hh,rfl,fun j=>by rw[if_neg af]⟩
 | v::vs,i,w,cs,t,fz,hh,hf,hl,h1=>by
   simp only[aaw]at hl;have hb:b<w.heap.size:=(aaY.1 hh).1;have hc:w.cell? ⟨b,o+i,none⟩=some cs[o+i]:=by rw[cell_of_row w b (o+i) cs t fz hh];exact abs aa
   have hfz:w.frozen? ⟨b,o+i,none⟩=false:=by simp only[World.frozen?,hh];unfold unfrozen at hf;simp only[acf,decide_eq_false_iff_not];omega
   have bw:(store ((⟨b,o,none⟩:Addr).add i) v).run P w = .ok () (w.setCell ⟨b,o+i,none⟩ v):=by rw[abx,run_store P w _ v _ (h1 v af)];simp[hc,hfz]
   have vd:(w.setCell ⟨b,o+i,none⟩ v).heap[b]?=some (.cells (cs.setIfInBounds (o+i) v) t fz):=by simp[World.setCell,Array.getElem?_modify,hh]
   have ht:i_ w (w.setCell ⟨b,o+i,none⟩ v) b:=⟨rfl,rfl,rfl,af,fun k hk=>heap_setCell_other w ⟨b,o+i,none⟩ k v hk⟩;obtain⟨w',cs',r1,r2,r3,r4,r5⟩:=eR b o vs (i+1) _ _ t fz vd (by unfold unfrozen at hf ⊢;simpa using hf) ak (fun x hx=>h1 x (by simp[hx]));refine⟨w',cs',?_,ht.trans r2,r3,by simpa using r4,fun j=>?_⟩;·simp only[storeCells,aav,bw,aar,r1]
   rw[r5 j];simp only[aaw];by_cases hj:o+i=j
   ·subst hj
    rw[if_neg aa,if_pos aa,abq aa];simp
   rw[abH hj];by_cases h2:o+(i+1)<=j/\j<o+(i+1)+vs.length
   ·rw[if_pos h2,if_pos aa]
    obtain⟨n,rfl⟩:∃n,j=o+i+1+n:=⟨j - (o+i+1),aa⟩;rw[show o+i+1+n - (o+(i+1))=n by omega,show o+i+1+n - (o+i)=n+1 by omega];rfl
   rw[if_neg h2,if_neg aa]
theorem tv.unfrozen {cs cs':Array Value} {o:Nat} {vs:List Value} {fz:Nat×Nat} (h:tv cs o vs cs') (hf:Xs.unfrozen cs fz):Xs.unfrozen cs' fz:=by unfold Xs.unfrozen at *;rw[h.1];exact hf
theorem mX (aQ:Ok ρ w σ M) {n:Nat} {cs:List XV} (hm:bA M n=some cs) {b room:Nat} (hs:σ n=some (b,room)) {off:Nat} {vs:List XV} {ws:List Value} (hv:c_ ρ σ vs ws) (h1:∀c ∈ ws,c.oneCell'=true) (hl:off+vs.length<=cs.length) {val:XV} {v:Value} (hval:VR ρ σ val v) :
 ∃w',(storeCells ⟨b,off,none⟩ ws 0).run P w = .ok () w'/\bz ρ w σ M key val (aG M n (.row (bp cs off vs))) v w':=by
 obtain⟨b',room',us,t,fz,ir,lJ,hh,q1,q2,q3,q4⟩:=sZ aQ hm;rw[hs]at lJ;cases lJ;have ay:=hv.length;obtain⟨w',cs',r1,r2,r3,r4,r5⟩:=eR (P:=P) b off ws 0 w us t fz hh q3 aa h1;simp only[aaX]at r4 r5;refine⟨w',r1,bz.turned aQ ir rfl hs r2 ?_ hval⟩;obtain⟨p1,p2⟩:=qQ cs off vs hl;refine⟨cs',t,fz,r3,by rw[r4];exact q1,by rw[p1];exact q2,tv.unfrozen ⟨r4,r5⟩ q3,c_.of_get (by rw[aaS,p1];simp;omega) fun i x hx=>?_⟩;have hi:i<cs.length:=by rw[<-p1];exact(aaq.1 hx).1
 rw[p1,abN,if_pos hi,aaQ,r5];rw[p2]at hx;rw[ay];split at hx
 ·rename_i vd
  rw[if_pos vd];exact hv.get hx
 rename_i vd;rw[if_neg vd];obtain⟨u,g1,g2⟩:=q4.get hx;rw[abN,if_pos hi,aaQ]at g1;exact⟨u,g1,g2⟩
theorem Fy (aQ:Ok ρ w σ M) {t:Nat} {x y:XV} {u v:Value} {e:bZ} (h:jG P M t x y=some e) (hy:VR ρ σ y u) (hx:VR ρ σ x v):∃w',(Instr.storeAt t u v).run P w = .ok () w'/\bz ρ w σ M key e.val (aY M e.upd) undef w':=by
 unfold jG at h;split at h<;>(try (cases h;done))
 rename_i n off;split at h<;>(try (cases h;done))
 rename_i cs sz hm cJ;split at h<;>(try (cases h;done))
 rename_i h1 h2 h3;cases h;have h1:=aaB h1;have h2:=aaD h2;simp only[VR]at hy;obtain⟨b,room,hs,rfl⟩:=hy;obtain⟨g1,g2⟩:=pf h3 hx;have l1:=g1.length;simp only[aa2]at l1;obtain⟨w',r1,r2⟩:=mX (P:=P) (key:=key) aQ hm hs g1 g2 (off:=off) aa (val:=.udf) (v:=undef) (by simp only[VR]);refine⟨w',?_,r2⟩;simp only[Instr.storeAt,acp,storeVar,aav,aaA,aar,da cJ];rw[if_neg aa];exact r1
end
section
variable {P:Program} {o:Oper} {a:Act} {w w':World} {ρ:aK} {σ:cb} {M:Hp} {key:Nat} {env:eX} {Γ:cc}
theorem wU (off:Nat):∀(ws:List Value) (k:Nat) (us:Array Value),((ws.zipIdx k).foldl (fun(cs:Array Value) (x:Value×Nat)=>cs.setIfInBounds (off+x.2) x.1) us).size=us.size /\
 ∀j:Nat,off+k+ws.length<=us.size->((ws.zipIdx k).foldl (fun(cs:Array Value) (x:Value×Nat)=>cs.setIfInBounds (off+x.2) x.1) us)[j]?=if off+k<=j/\j<off+k+ws.length then ws[j - (off+k)]? else us[j]?
 | [],k,us=>⟨rfl,fun j _=>by rw[if_neg af];rfl⟩
 | v::ws,k,us=>by
   obtain⟨h1,h2⟩:=wU off ws (k+1) (us.setIfInBounds (off+k) v);simp only[zipIdx_cons,foldl_cons,aaw];refine⟨by rw[h1];simp,fun j hl=>?_⟩;rw[h2 j ak];by_cases hj:off+k=j
   ·subst hj
    rw[if_neg aa,if_pos aa,abq aa];simp
   rw[abH hj];by_cases hh:off+(k+1)<=j/\j<off+(k+1)+ws.length
   ·rw[if_pos hh,if_pos aa]
    obtain⟨n,rfl⟩:∃n,j=off+k+1+n:=⟨j - (off+k+1),aa⟩;rw[show off+k+1+n - (off+(k+1))=n by omega,show off+k+1+n - (off+k)=n+1 by omega];rfl
   rw[if_neg hh,if_neg aa]
theorem c_.put {cs vs:List XV} {us:List Value} {ws us':List Value} {off:Nat} (hc:c_ ρ σ cs us) (hv:c_ ρ σ vs ws) (hl:off+vs.length<=cs.length) (h1:us'.length=us.length)
 (h2:∀j:Nat,us'[j]?=if off<=j/\j<off+ws.length then ws[j - off]? else us[j]?):c_ ρ σ (bp cs off vs) us':=by
 obtain⟨p1,p2⟩:=qQ cs off vs hl;refine c_.of_get (by rw[h1,p1,hc.length]) fun i x hx=>?_
 rw[p2]at hx;rw[h2,hv.length];split at hx
 ·rename_i hh
  rw[if_pos hh];exact hv.get hx
 rename_i hh;rw[if_neg hh];exact hc.get hx
theorem s_ (place:Nat->Option (Nat×Nat)):∀(ps:List (Nat×XV)) (qs:List (Nat×Value)) (cs cs':List XV) (us:Array Value),gl place cs ps=some cs'->ps.length=qs.length->(∀(j i:Nat) (v:XV),ps[j]?=some (i,v)->∃u,qs[j]?=some (i,u)/\VR ρ σ v u)->c_ ρ σ cs us.toList ->
 ∃us',Instr.fill place us qs=some us'/\c_ ρ σ cs' us'.toList/\us'.size=us.size
 | [],qs,cs,cs',us,h,hl,_,hv=>by
   simp only[gl,aat]at h;subst h;cases qs with
   | nil=>exact⟨us,rfl,hv,rfl⟩
   | cons q qs=>simp at hl
 | (i,v)::ps,[],cs,cs',us,h,hl,_,hv=>by simp at hl
 | (i,v)::ps,(i',u)::qs,cs,cs',us,h,hl,jd,hv=>by
   obtain⟨u',e,hu⟩:=jd 0 i v rfl;simp only[aaI,aat,act]at e;obtain⟨rfl,rfl⟩:=e;unfold gl at h;split at h<;>(try (cases h;done))
   rename_i off sz hf;split at h<;>(try (cases h;done))
   rename_i h1 h2 h3;have h1:=aaB h1;have h3:=aaD h3;obtain⟨g1,g2⟩:=pf h2 hu;have l1:=c_.length g1;have l2:=c_.length hv;simp only[aa2]at l1 l2;simp only[Instr.fill,hf];rw[if_neg ak];have key:∀us':Array Value,us'=(u.cells.zipIdx.foldl (fun cs (c,j)=>cs.setIfInBounds (off+j) c) us)->us'.size=us.size/\c_ ρ σ (bp cs off (cellsOf v)) us'.toList:=by rintro us' rfl;rw[<-Array.foldl_toList,Array.toList_zipIdx];obtain⟨f1,f2⟩:=wU off u.cells.toList 0 us;refine⟨f1,c_.put hv g1 aa (by simpa using f1) fun j=>?_⟩;have:=f2 j ak;simp only[aaX,aaQ]at this;simp only[aaQ];exact this
   obtain⟨k1,k2⟩:=key _ rfl;obtain⟨us',e1,e2,e3⟩:=s_ place ps qs _ cs' _ h (by simpa using hl) (fun j i v hj=>by simpa using jd (j+1) i v (by simpa using hj)) k2;exact⟨us',e1,e2,by rw[e3,k1]⟩
theorem um (h:fX ρ σ env a.tmps):∀(ps:List (Nat×Operand)),(fk env ps).length=(ps.map fun(i,x)=>(i,a.eval x)).length/\∀(j i:Nat) (v:XV),(fk env ps)[j]?=some (i,v)->∃u,(ps.map fun(i,x)=>(i,a.eval x))[j]?=some (i,u)/\VR ρ σ v u
 | []=>⟨rfl,by simp[fk]⟩
 | (k,x)::ps=>by
   obtain⟨h1,h2⟩:=um h ps;refine⟨by simp[fk,h1],fun j i v hj=>?_⟩;cases j with
   | zero =>
     simp only[fk,aaI,aat,act]at hj;obtain⟨rfl,rfl⟩:=hj;exact⟨_,rfl,bf h x⟩
   | succ j=>simpa using h2 j i v (by simpa [fk] using hj)
theorem kY {t:Nat} {zs:List XV} (h:aJ P t=some zs) (w:World):∃z,(zeroValue t).run P w = .ok z w/\zs=z.cells.toList.map fN:=by obtain⟨inf,z,h1,h2,h3⟩:=Az h;exact⟨z,by simp[zeroValue,typeInfo,h1,h2],h3⟩
theorem tD:∀(gs:List Field) (pl:List (Nat×Nat)),jo P gs=some pl->(gs.mapM (fun(f:Field)=>(do pure (f.offset,<-sizeOf f.type):Sem (Nat×Nat)))).run P w = .ok pl w
 | [],pl,h=>by simp only[jo,aat]at h;subst h;rfl
 | g::gs,pl,h=>by
   unfold jo at h;split at h<;>(try (cases h;done))
   rename_i n l h1 h2;cases h;have ih:=tD gs l h2;simp only[mapM_cons,aav,da h1,aar,aaA,ih]
theorem Hi {t:Nat} {ps:List (Nat×XV)} {qs:List (Nat×Value)} {v:XV} (h:kP P t ps=some v) (hl:ps.length=qs.length) (jd:∀(j i:Nat) (v:XV),ps[j]?=some (i,v)->∃u,qs[j]?=some (i,u)/\VR ρ σ v u) :
 ∃r,(acS t qs.toArray).run P w = .ok r w/\VR ρ σ v r:=by
 unfold kP at h;split at h<;>(try (cases h;done))
 ·rename_i zs fs hz hu
  split at h<;>(try (cases h;done))
  rename_i pl gE;split at h<;>(try (cases h;done))
  rename_i cs dI;cases h;obtain⟨z,vj,rfl⟩:=kY hz w;obtain⟨us',g1,g2,_⟩:=s_ (ρ:=ρ) (σ:=σ) _ ps qs _ cs z.cells dI hl jd (jE _);refine⟨.agg us',?_,by simp only[VR];exact⟨us',rfl,g2⟩⟩;have hm:=tD (w:=w) fs.toList pl gE;simp only[acS,aav,vj,aar,av hu,Array.mapM_eq_mapM_toList,Sem.run_map,hm];simp only[abf,g1];rfl
 rename_i zs n el hz hu;split at h<;>(try (cases h;done))
 rename_i sz cJ;split at h<;>(try (cases h;done))
 rename_i cs dI;cases h;obtain⟨z,vj,rfl⟩:=kY hz w;obtain⟨us',g1,g2,_⟩:=s_ (ρ:=ρ) (σ:=σ) _ ps qs _ cs z.cells dI hl jd (jE _);refine⟨.agg us',?_,by simp only[VR];exact⟨us',rfl,g2⟩⟩;simp only[acS,aav,vj,aar,av hu,da cJ,g1,aaA]
theorem qb (us:List Value) (h0:0<us.length):∀(n j:Nat),((ab2 n us).flatten)[j]?=if j<n*us.length then us[j % us.length]? else none
 | 0,j=>af
 | n+1,j=>by
   rw[adL,flatten_cons];by_cases h:j<us.length;·rw[aa5 h,if_pos (by rw[succ_mul];omega),mod_eq_of_lt h]
   rw[acC aa,qb us h0 n (j - us.length)];rw[succ_mul,<-mod_eq_sub_mod aa];by_cases h2:j - us.length<n*us.length;·rw[if_pos h2,if_pos aa]
   rw[if_neg h2,if_neg aa]
theorem qX (zs:Array Value) (n:Nat) (h0:0<zs.size):((ab5 (n*zs.size)).map (zs[· % zs.size]!)).toList=(ab2 n zs.toList).flatten:=by
 refine ext_getElem? fun j=>?_
 rw[qb _ (by simpa using h0)];simp only[aa2,Array.toList_map,Array.toList_range,acg,getElem?_range'];by_cases h:j<n*zs.size
 ·have hm:j % zs.size<zs.size:=mod_lt _ h0
  rw[if_pos h,getElem?_range h];simp[hm]
 rw[if_neg h,getElem?_eq_none ak];rfl
theorem sX {zs:List XV} {us:List Value} (h:c_ ρ σ zs us):∀n,c_ ρ σ (lQ zs n) (ab2 n us).flatten
 | 0=>by simp[lQ,c_]
 | n+1=>by rw[lQ,adL,flatten_cons];exact h.append (sX h n)
theorem tR (zs:List XV):∀n,(lQ zs n).length=n*zs.length
 | 0=>by simp[lQ]
 | n+1=>by rw[lQ,aau,tR zs n,succ_mul,Nat.add_comm]
theorem c_.all {xs:List XV} {us:Array Value} (h:c_ ρ σ xs us.toList):c_ ρ σ xs (us.toList.take xs.length):=by have:=h.length;rw[aaz aa];exact h
theorem vp (aQ:Ok ρ w σ M) (ce:σ key=none) {t len:Nat} {ps:List (Nat×XV)} {qs:List (Nat×Value)} {e:bZ} (h:fi P key t len ps=some e) (hl:ps.length=qs.length) (jd:∀(j i:Nat) (v:XV),ps[j]?=some (i,v)->∃u,qs[j]?=some (i,u)/\VR ρ σ v u) :
 ∃r w',(acb t len qs.toArray).run P w = .ok r w'/\bz ρ w σ M key e.val (aY M e.upd) r w':=by
 unfold fi at h;split at h<;>(try (cases h;done))
 rename_i el hu;split at h<;>(try (cases h;done))
 rename_i sz zs cJ hz;split at h<;>(try (cases h;done))
 rename_i h1 h2 h3;split at h<;>(try (cases h;done))
 rename_i cs dI;cases h;have h1:=aaD h1;have h2:=aaB h2;have h3:=aaD h3;obtain⟨z,vj,rfl⟩:=kY hz w;simp only[abd,aa2]at h2;have mP:c_ ρ σ (lQ (z.cells.toList.map fN) len) ((ab5 (len*z.cells.size)).map (z.cells[· % z.cells.size]!)).toList:=by rw[qX _ _ aa];exact sX (jE _) len
 obtain⟨us',g1,g2,g3⟩:=s_ (ρ:=ρ) (σ:=σ) (fun i=>some (i*sz,sz)) ps qs _ cs _ dI hl jd mP;have Ea:us'.size=len*sz:=by rw[g3];simp[h2]
 have cF:cs.length=len*sz:=by have:=g2.length;simp only[aa2]at this;omega
 refine⟨.slice (some ⟨w.heap.size,0,none⟩) len len,w.alloc (.cells us' el),?_,?_⟩
 ·have Jq:∀(zz:Array Value),(len*sz=0\/zz=z.cells)->(ab5 (len*sz)).map (zz[· % zz.size]!)=(ab5 (len*z.cells.size)).map (z.cells[· % z.cells.size]!):=by
   intro zz h;rcases h with h | rfl
   ·rw[h2,h];simp
   rw[h2]
  by_cases h:len*sz=0
  ·simp only[acb,aav,av hu,aar,da cJ,if_neg (show ¬ len*sz>2 ^ 24 by omega),if_pos h,aaA]
   rw[Jq _ (.inl h)];simp only[g1];rfl
  simp only[acb,aav,av hu,aar,da cJ,if_neg (show ¬ len*sz>2 ^ 24 by omega),if_neg h,vj,aaA];rw[Jq _ (.inr rfl)];simp only[g1];rfl
 have fC:qp w (w.alloc (.cells us' el)) (.cells us' el):=⟨rfl,rfl,rfl,rfl⟩;refine bz.alloc aQ ce fC (room:=us'.size) (N:=M) (fun _=>.inl rfl) ⟨us',el,(0,0),fC.new,rfl,aa,.inl rfl,(g2.all).mono (cb.upd_sub ce _)⟩ ?_;simp only[VR];exact⟨w.heap.size,us'.size,len,⟨w.heap.size,0,none⟩,cb.upd_same ..,rfl,u7 _,u7 _,.inl rfl,aa⟩
theorem IN (aQ:Ok ρ w σ M) (ce:σ key=none) {t:Nat} {zs:List XV} (hz:aJ P t=some zs):∃r w',(Instr.alloc t true (.tuple #[])).run P w = .ok r w'/\bz ρ w σ M key (.mp key 0) (aG M key (.row zs)) r w':=by
 obtain⟨z,vj,rfl⟩:=kY hz w;refine⟨.pointer (some ⟨w.heap.size,0,none⟩),w.alloc (.cells z.cells t),?_,?_⟩
 ·simp only[Instr.alloc,aav,vj,aar,newVar,newRow]
  rfl
 have fC:qp w (w.alloc (.cells z.cells t)) (.cells z.cells t):=⟨rfl,rfl,rfl,rfl⟩;refine bz.alloc aQ ce fC (room:=z.cells.size) (N:=M) (fun _=>.inl rfl) ⟨z.cells,t,(0,0),fC.new,rfl,af,.inl rfl,(jE _).all⟩ ?_;simp only[VR];exact⟨_,_,cb.upd_same ..,rfl⟩
theorem Ph (aQ:Ok ρ w σ M) (ce:σ key=none) {t:Nat} {x:XV} {v:Value} (h3:(cellsOf x).all ax=true) (hv:VR ρ σ x v):∃r w',(Instr.box t v).run P w = .ok r w'/\bz ρ w σ M key (.mp key 0) (aG M key (.row (cellsOf x))) r w':=by
 refine⟨.pointer (some ⟨w.heap.size,0,none⟩),w.alloc (.cells v.cells t),?_,?_⟩;·simp[Instr.box,newVar,newRow]
 have fC:qp w (w.alloc (.cells v.cells t)) (.cells v.cells t):=⟨rfl,rfl,rfl,rfl⟩;have hc:=(pf h3 hv).1;have hl:=hc.length;simp only[aa2]at hl;refine bz.alloc aQ ce fC (room:=v.cells.size) (N:=M) (fun _=>.inl rfl) ⟨v.cells,t,(0,0),fC.new,rfl,aa,.inl rfl,(hc.all).mono (cb.upd_sub ce _)⟩ ?_;simp only[VR];exact⟨_,_,cb.upd_same ..,rfl⟩
theorem yl (aQ:Ok ρ w σ M) (ce:σ key=none) {t:Nat} {l c:Int} {e:bZ} (h:pr P key t l c=some e):∃r w',(acH t (.int .i64 l) (.int .i64 c)).run P w = .ok r w'/\bz ρ w σ M key e.val (aY M e.upd) r w':=by
 unfold pr at h;split at h<;>(try (cases h;done))
 rename_i el hu;split at h<;>(try (cases h;done))
 rename_i sz zs eb cJ hz JU;split at h<;>(try (cases h;done))
 rename_i h0 h1 h2 h3 h4 h5;cases h;simp only[decide_eq_true_eq]at h0 h1 h2;have h3:=aaD h3;have h4:=aaB h4;have h5:=aaD h5;obtain⟨z,vj,rfl⟩:=kY hz w;simp only[abd,aa2]at h4;obtain⟨k,rfl⟩:∃k:Nat,c=k:=⟨c.toNat,aa⟩;obtain⟨n,rfl⟩:∃n:Nat,l=n:=⟨l.toNat,aa⟩;obtain⟨inf,yO,rC⟩:∃inf,P.info? el=some inf/\inf.bytes=eb:=by
  unfold pq at JU;split at JU;·rename_i i hi;cases JU;exact⟨i,hi,rfl⟩
  cases JU
 have hw:∀k:Nat,k<=1099511627776->IntKind.i64.wrap (k:Int)=k:=fun k hk=>by simp[IntKind.wrap,IntKind.signed,IntKind.bits];omega
 have uQ:eb*k<=281474976710656:=by
  calc eb*k<=256*1099511627776:=adD h3 aa
   _<=_:=aj
 refine⟨.slice (some ⟨w.heap.size,0,none⟩) n k,w.alloc (.cells ((ab5 (k*z.cells.size)).map (z.cells[· % z.cells.size]!)) el),?_,?_⟩
 ·have Jq:∀(zz:Array Value),(k*sz=0\/zz=z.cells)->(ab5 (k*sz)).map (zz[· % zz.size]!)=(ab5 (k*z.cells.size)).map (z.cells[· % z.cells.size]!):=by
   intro zz h;rcases h with h | rfl
   ·rw[h4,h];simp
   rw[h4]
  have VS:(typeInfo el).run P w = .ok inf w:=by simp[typeInfo,yO]
  have RQ:¬ ((((k:Int)<0||(inf.bytes:Int)*k>2 ^ 48)||(n:Int)<0||(n:Int)>k)=true):=by
   have h1:¬ ((k:Int)<0):=aa;have h2:¬ ((inf.bytes:Int)*k>2 ^ 48):=by rw[rC];have:((eb:Int)*k)=((eb*k:Nat):Int):=af;rw[this];omega
   simp only[ab0,decide_eq_true_eq,not_or];exact⟨⟨⟨h1,h2⟩,aa⟩,aa⟩
  by_cases h:k*sz=0
  ·simp only[acH,aav,av hu,aar,asInt,asIntOf,aaA,VS,hw k aa,hw n aa,if_neg RQ,run_askRoom,adf,da cJ,if_pos h]
   rw[Jq _ (.inl h)];rfl
  simp only[acH,aav,av hu,aar,asInt,asIntOf,aaA,VS,hw k aa,hw n aa,if_neg RQ,run_askRoom,adf,da cJ,if_neg h,vj];rw[Jq _ (.inr rfl)];rfl
 have fC:∀x,qp w (w.alloc x) x:=fun x=>⟨rfl,rfl,rfl,rfl⟩
 simp only[adf];refine bz.alloc aQ ce (fC _) (room:=k*sz) (N:=M) (fun _=>.inl rfl) ⟨_,el,(0,0),(fC _).new,by simp[h4],by rw[tR];simp[h4],.inl rfl,?_⟩ ?_
 ·have:c_ ρ (σ.upd key (w.heap.size,k*sz)) (lQ (z.cells.toList.map fN) k) ((ab5 (k*z.cells.size)).map (z.cells[· % z.cells.size]!)).toList:=by rw[qX _ _ aa];exact sX (jE _) k
  exact this.all
 simp only[VR];exact⟨_,_,k,_,cb.upd_same ..,rfl,u7 _,aa,.inl rfl,aa⟩
theorem ya {s f:Nat} {x v:XV} {u:Value} (h:ig P s f x=some v) (hx:VR ρ σ x u):∃r,(Instr.fieldAt s u f).run P w = .ok r w/\VR ρ σ v r:=by
 unfold ig at h;split at h<;>(try (cases h;done))
 split at h<;>(try (cases h;done))
 rename_i fs hu;split at h<;>(try (cases h;done))
 rename_i g hg;split at h<;>(try (cases h;done))
 rename_i cJ;cases h;simp only[VR]at hx;obtain⟨b,room,hs,rfl⟩:=hx;refine⟨_,?_,by simp only[VR];exact⟨b,room,hs,rfl⟩⟩;simp only[Instr.fieldAt,acp,aav,av hu,aar,hg,aaA,fieldPlace,da cJ];rw[if_neg aa];simp only[abx,aaA,aar]
theorem Hc {s f:Nat} {x v:XV} {u:Value} (h:BN P s f x=some v) (hx:VR ρ σ x u):∃r,(Instr.field s u f).run P w = .ok r w/\VR ρ σ v r:=by
 unfold BN at h;split at h<;>(try (cases h;done))
 split at h<;>(try (cases h;done))
 rename_i fs hu;split at h<;>(try (cases h;done))
 rename_i g hg;simp only[VR]at hx;obtain⟨us,rfl,hx⟩:=hx;obtain⟨r,r1,r2⟩:=pN (w:=w) hx h;refine⟨r,?_,r2⟩;simp only[Instr.field,aav,av hu,aar,hg,asAgg,aaA,r1]
theorem lN {i:Int} {n:Nat} (h:eW i n=true):0<=i/\i<(n:Int):=by
 unfold eW at h;split at h
 ·have:=h
  rw[abD]at this;constructor;·exact Int.natCast_nonneg _
  exact Int.ofNat_lt.2 this
 cases h
theorem yk {t:Nat} {x y v:XV} {u1 u2:Value} (h:br P t x y=some v) (hx:VR ρ σ x u1) (hy:VR ρ σ y u2):∃r,(adG t u1 u2).run P w = .ok r w/\VR ρ σ v r:=by
 unfold br at h;split at h<;>(try (cases h;done))
 ·rename_i n esz off len cap k i
  split at h<;>(try (cases h;done))
  rename_i el hu;split at h<;>(try (cases h;done))
  rename_i sz hr cJ;split at h<;>(try (cases h;done))
  rename_i he;cases h;have he:=aaB he;subst he;obtain⟨i0,i1⟩:=lN hr;simp only[VR]at hx hy;subst hy;obtain⟨b,room,cap',off',hs,rfl,q1,q2,q3,q4⟩:=hx;have sU:off'=(⟨b,off,none⟩:Addr):=by
   rcases q3 with h | h
   ·exact h
   omega
  subst sU;refine⟨_,?_,by simp only[VR];exact⟨b,room,hs,rfl⟩⟩;simp only[adG,asIntOf,aav,aaA,aar,av hu,if_pos (show 0<=i/\i<(len:Int) from ⟨i0,i1⟩),da cJ,abx]
 rename_i n off k i;split at h<;>(try (cases h;done))
 rename_i len el hu;split at h<;>(try (cases h;done))
 rename_i sz hr cJ;cases h;obtain⟨i0,i1⟩:=lN hr;simp only[VR]at hx hy;subst hy;obtain⟨b,room,hs,rfl⟩:=hx;refine⟨_,?_,by simp only[VR];exact⟨b,room,hs,rfl⟩⟩;simp only[adG,acp,asIntOf,aav,aaA,aar,av hu,if_pos (show 0<=i/\i<(len:Int) from ⟨i0,i1⟩),da cJ,abx]
theorem GC {t:Nat} {x y v:XV} {u1 u2:Value} (h:nf P t x y=some v) (hx:VR ρ σ x u1) (hy:VR ρ σ y u2):∃r,(ad4 t u1 u2).run P w = .ok r w/\VR ρ σ v r:=by
 unfold nf at h;split at h<;>(try (cases h;done))
 ·rename_i s k i
  split at h<;>(try (cases h;done))
  rename_i hu;split at h<;>(try (cases h;done))
  rename_i hr;split at h<;>(try (cases h;done))
  rename_i b hb;cases h;obtain⟨i0,i1⟩:=lN hr;simp only[VR]at hx hy;subst hy;obtain⟨bs,rfl,rfl⟩:=hx;rw[acg,aaQ]at hb;cases hc:bs.data[i.toNat]? with
  | none=>rw[hc]at hb;simp at hb
  | some c =>
    rw[hc]at hb;simp only[adb,aat]at hb;subst hb;have rA:bs[i.toNat]?=some c:=by have aL:=(aaY.1 hc).1;have e:=(aaY.1 hc).2;have aP:i.toNat<bs.size:=aL;rw[getElem?_pos bs i.toNat aP];exact congrArg some e
    refine⟨.int .u8 (c.toNat:Int),?_,by simp only[VR]⟩;simp only[ad4,asIntOf,aav,aaA,aar,av hu,if_pos i0,rA]
 rename_i cs k i;split at h<;>(try (cases h;done))
 rename_i len el hu;split at h<;>(try (cases h;done))
 rename_i sz hr cJ;obtain⟨i0,i1⟩:=lN hr;simp only[VR]at hx hy;subst hy;obtain⟨us,rfl,hx⟩:=hx;obtain⟨r,r1,r2⟩:=pN (w:=w) hx h;refine⟨r,?_,r2⟩;simp only[ad4,asIntOf,aav,aaA,aar,av hu,if_pos (show 0<=i/\i<(len:Int) from ⟨i0,i1⟩),da cJ,r1]
end
section
variable {P:Program} {o:Oper} {a:Act} {w w':World} {ρ:aK} {σ:cb} {M:Hp} {key:Nat} {env:eX} {Γ:cc}
theorem kN {dflt:Nat} {x:Option XV} {n:Nat} (h:Lb dflt x=some n) {v:Option Value} (hv:∀q,x=some q->∃u,v=some u/\VR ρ σ q u) (hn:x=none->v=none) :
 (v=none/\x=none/\n=dflt)\/∃k,v=some (.int k (n:Nat)):=by
 unfold Lb at h;split at h<;>(try (cases h;done))
 ·cases h;exact .inl ⟨hn rfl,rfl,rfl⟩
 rename_i k m;cases h;obtain⟨u,h1,h2⟩:=hv _ rfl;simp only[VR]at h2;exact .inr ⟨k,by rw[h1,h2];rfl⟩
theorem eZ {k:IntKind} {i y:Nat} {c:BoundsCode} (h1:i<=y):(Instr.sliceBound (.int k (i:Nat)) y c).run P w = .ok i w:=by have h:(0:Int)<=(i:Int)/\(i:Int)<=(y:Int):=aa;simp only[Instr.sliceBound,asIntOf,aav,aaA,aar,if_pos h];rfl
theorem fR {isS:Bool} {len cap l h m:Nat} {lo hi mx:Option Value} (hl:(lo=none/\l=0)\/∃k,lo=some (.int k (l:Nat))) (hh:(hi=none/\h=len)\/∃k,hi=some (.int k (h:Nat)))
 (hm:(mx=none/\m=cap)\/(∃k,mx=some (.int k (m:Nat)))/\hi≠none) (h1:l<=h) (h2:h<=m) (h3:m<=cap):(Instr.sliceBounds isS len cap lo hi mx).run P w = .ok (l,h,m) w:=by
 unfold Instr.sliceBounds;rcases hm with ⟨rfl,rfl⟩ | ⟨⟨k,rfl⟩,cf⟩
 ·rcases hh with ⟨rfl,rfl⟩ | ⟨k2,rfl⟩<;>rcases hl with ⟨rfl,rfl⟩ | ⟨k3,rfl⟩ <;>
   simp[aav,eZ (P:=P) (w:=w) h1,eZ (P:=P) (w:=w) h2]
 rcases hh with ⟨rfl,rfl⟩ | ⟨k2,rfl⟩
 ·exact(cf rfl).elim
 rcases hl with ⟨rfl,rfl⟩ | ⟨k3,rfl⟩ <;>
  simp[aav,eZ (P:=P) (w:=w) h1,eZ (P:=P) (w:=w) h2,eZ (P:=P) (w:=w) h3]
theorem H5 (aQ:Ok ρ w σ M) {t:Nat} {x:XV} {lo hi mx:Option XV} {u:Value} {lo' hi' mx':Option Value} {e:bZ} (h:qY P M t x lo hi mx=some e) (hx:VR ρ σ x u)
 (mo:∀q,lo=some q->∃u,lo'=some u/\VR ρ σ q u) (ME:lo=none->lo'=none) (vg:∀q,hi=some q->∃u,hi'=some u/\VR ρ σ q u) (MA:hi=none->hi'=none)
 (JX:∀q,mx=some q->∃u,mx'=some u/\VR ρ σ q u) (F5:mx=none->mx'=none):∃r,(ace t u lo' hi' mx').run P w = .ok r w/\VR ρ σ e.val r/\e.upd=[]:=by
 unfold qY at h;split at h<;>(try (cases h;done))
 ·rename_i l s hl
  split at h<;>(try (cases h;done))
  rename_i vd hu hh;split at h<;>(try (cases h;done))
  rename_i h1 h2;cases h;have h1:=aaD h1;have h2:=aaD h2;have hl:=kN hl mo ME;have hh:=kN hh vg MA;obtain rfl:=F5 rfl;simp only[VR]at hx;obtain⟨bs,rfl,rfl⟩:=hx;have cJ:(bs.data.toList.map fun b=>b.toNat).length=bs.size:=oa bs;rw[cJ]at h2 hh;have r1:=fR (P:=P) (w:=w) (isS:=false) (len:=bs.size) (cap:=bs.size) (l:=l) (h:=vd) (m:=bs.size) (lo:=lo') (hi:=hi') (mx:=none) (hl.imp (fun h=>⟨h.1,h.2.2⟩) id) (hh.imp (fun h=>⟨h.1,h.2.2⟩) id) (.inl ⟨rfl,rfl⟩) h1 h2 (u7 _);refine⟨.string (bs.extract l vd),?_,?_,rfl⟩;·simp only[ace,ad1,aav,av hu,aar,r1,isSome_none,aay,if_false,aaA]
  simp only[VR];refine⟨_,rfl,?_⟩;rw[Lib.extract_data,adI,map_drop]
 ·rename_i l n esz off len cap hl
  split at h<;>(try (cases h;done))
  rename_i el vd hu hh;split at h<;>(try (cases h;done))
  rename_i mx hi _ _ _ _ m sz cJ QZ hm;split at h<;>(try (cases h;done))
  rename_i he h1 h2 h3;cases h;have he:=aaB he;subst he;have h1:=aaD h1;have h2:=aaD h2;have h3:=aaD h3;have hl:=kN hl mo ME;have hh:=kN hh vg MA;have hm:=kN hm JX F5;simp only[VR]at hx;obtain⟨b,room,cap',ad,hs,rfl,q1,q2,q3,q4⟩:=hx;have key:∀m',m'<=cap'->m<=m'->((mx'=none/\m'=cap')\/(∃k,mx'=some (.int k (m':Nat)))/\hi'≠none)->∃r,(ace t (.slice (some ad) len cap') lo' hi' mx').run P w = .ok r w/\VR ρ σ (.sl n sz (off+l*sz) (vd - l) (m - l)) r:=by
   intro m' e1 e2 e3;have r1:=fR (P:=P) (w:=w) (isS:=true) (len:=len) (cap:=cap') (l:=l) (h:=vd) (m:=m') (lo:=lo') (hi:=hi') (mx:=mx') (hl.imp (fun h=>⟨h.1,h.2.2⟩) id) (hh.imp (fun h=>⟨h.1,h.2.2⟩) id) e3 h1 aa e1;refine⟨.slice (if m'=l then some ad else some (ad.add (l*sz))) (vd - l) (m' - l),?_,?_⟩;·simp only[ace,ad1,aav,av hu,aar,r1,da cJ,aaA,adb]
   simp only[VR];have F4:(off+l*sz)+(m' - l)*sz<=room:=by
    have e4:l*sz+(m' - l)*sz=m'*sz:=by rw[<-abZ];congr 1;omega
    have e5:m'*sz<=cap'*sz:=abg _ e1;omega
   by_cases F2:m'=l;·exact⟨b,room,m' - l,ad,hs,by rw[if_pos F2],aa,aa,.inr aa,F4⟩
   refine⟨b,room,m' - l,ad.add (l*sz),hs,by rw[if_neg F2],aa,aa,.inl ?_,F4⟩;rcases q3 with q3 | q3
   ·rw[q3,abx]
   omega
  rcases hm with ⟨g1,g2,g3⟩ | ⟨k,g1⟩
  ·obtain⟨r,r1,r2⟩:=key cap' (u7 _) aa (.inl ⟨g1,rfl⟩)
   exact⟨r,r1,r2,rfl⟩
  have cf:hi'≠none:=by
   intro hc;cases mx with
   | none=>have:=F5 rfl;rw[this]at g1;cases g1
   | some q =>
     cases hi with
     | none=>exact QZ q rfl rfl
     | some q'=>obtain⟨u',e1,_⟩:=vg q' rfl;rw[hc]at e1;cases e1
  obtain⟨r,r1,r2⟩:=key m aa (u7 _) (.inr ⟨⟨k,g1⟩,cf⟩);exact⟨r,r1,r2,rfl⟩
 ·rename_i l hl
  split at h<;>(try (cases h;done))
  rename_i el vd hu hh;split at h<;>(try (cases h;done))
  rename_i mx hi _ _ _ _ m sz cJ QZ hm;split at h<;>(try (cases h;done))
  rename_i h1 h2 h3;cases h;have h1:=aaB h1;have h2:=aaB h2;have h3:=aaB h3;subst h1 h2 h3;have hl:=kN hl mo ME;have hh:=kN hh vg MA;have hm:=kN hm JX F5;simp only[VR]at hx;subst hx;have ir:(mx'=none/\0=0)\/(∃k,mx'=some (.int k ((0:Nat):Int)))/\hi'≠none:=by
   rcases hm with ⟨g1,g2,g3⟩ | ⟨k,g1⟩
   ·exact .inl ⟨g1,rfl⟩
   refine .inr ⟨⟨k,g1⟩,?_⟩;intro hc;cases mx with
   | none=>have:=F5 rfl;rw[this]at g1;cases g1
   | some q =>
     cases hi with
     | none=>exact QZ q rfl rfl
     | some q'=>obtain⟨u',e1,_⟩:=vg q' rfl;rw[hc]at e1;cases e1
  have r1:=fR (P:=P) (w:=w) (isS:=true) (len:=0) (cap:=0) (l:=0) (h:=0) (m:=0) (lo:=lo') (hi:=hi') (mx:=mx') (hl.imp (fun h=>⟨h.1,rfl⟩) id) (hh.imp (fun h=>⟨h.1,rfl⟩) id) ir (u7 _) (u7 _) (u7 _);refine⟨.slice none 0 0,?_,by simp only[VR],rfl⟩;simp only[ace,ad1,aav,av hu,aar,r1,da cJ,aaA,map_none,ite_self,Nat.sub_self]
 rename_i l n off hl;split at h<;>(try (cases h;done))
 rename_i cnt el hu;split at h<;>(try (cases h;done))
 rename_i vd sz cs hh cJ hm;split at h<;>(try (cases h;done))
 rename_i h1 h2 h3 h4;cases h;have h1:=aaD h1;have h2:=aaD h2;have h3:=aaD h3;have hl:=kN hl mo ME;have hh:=kN hh vg MA;obtain rfl:=F5 rfl;obtain⟨b,room,us,ty,fz,_,hs,_,e1,e2,_,_⟩:=Cr aQ hm;simp only[VR]at hx;obtain⟨b',room',lJ,rfl⟩:=hx;rw[hs]at lJ;cases lJ;have r1:=fR (P:=P) (w:=w) (isS:=false) (len:=cnt) (cap:=cnt) (l:=l) (h:=vd) (m:=cnt) (lo:=lo') (hi:=hi') (mx:=none) (hl.imp (fun h=>⟨h.1,h.2.2⟩) id) (hh.imp (fun h=>⟨h.1,h.2.2⟩) id) (.inl ⟨rfl,rfl⟩) h1 h2 (u7 _);refine⟨.slice (some (if cnt=l then (⟨b,off,none⟩:Addr) else ⟨b,off+l*sz,none⟩)) (vd - l) (cnt - l),?_,?_,rfl⟩;·simp only[ace,acp,aav,av hu,aar,r1,da cJ,aaA,abx]
 simp only[VR];have F4:(off+l*sz)+(cnt - l)*sz<=room:=by
  have e4:l*sz+(cnt - l)*sz=cnt*sz:=by rw[<-abZ];congr 1;omega
  omega
 by_cases F2:cnt=l;·exact⟨b,room,cnt - l,⟨b,off,none⟩,hs,by rw[if_pos F2],u7 _,aa,.inr aa,F4⟩
 exact⟨b,room,cnt - l,⟨b,off+l*sz,none⟩,hs,by rw[if_neg F2],u7 _,aa,.inl rfl,F4⟩
theorem tB (aQ:Ok ρ w σ M) {sz:Nat} {x:XV} {ys:List XV} {n:Nat} {r:List Nat} (h:ij M sz x=some (ys,n,r)) {v:Value} (hx:VR ρ σ x v) :
 ∃cs:List Value,c_ ρ σ ys cs/\cs.length=n*sz/\((adx v).run P w = .ok n w)/\(∀(k:Nat),k<=n->∀w':World,w'.heap=w.heap->(abr sz k v).run P w' = .ok (cs.take (k*sz)).toArray w') /\
  (∀ad len cap,v = .slice ad len cap->n=len/\(n=0\/∃b off,ad=some ⟨b,off,none⟩/\∀(j:Nat) c,cs[j]?=some c->w.cell? ⟨b,off+j,none⟩=some c)):=by
 unfold ij at h;split at h<;>(try (cases h;done))
 ·cases h
  simp only[VR]at hx;subst hx;refine⟨[],by simp only[c_],af,rfl,fun k hk w' _=>?_,fun ad len cap he=>?_⟩;·simp[abr]
  cases he;exact⟨rfl,.inl rfl⟩
 ·rename_i k esz off len cap
  split at h<;>(try (cases h;done))
  rename_i cs hm he;split at h<;>(try (cases h;done))
  rename_i hl;cases h;have he:=aaB he;subst he;have hl:=aaD hl;obtain⟨b,room,us,ty,fz,_,hs,hh,e1,e2,e3,e4⟩:=Cr aQ hm;simp only[VR]at hx;obtain⟨b',room',cap',ad',lJ,rfl,q1,q2,q3,q4⟩:=hx;rw[hs]at lJ;cases lJ;obtain⟨ws,g1,g2,g3⟩:=nR hh e4 off (n*esz) hl;have sU:n=0\/ad'=(⟨b,off,none⟩:Addr):=by
   rcases q3 with q3 | q3
   ·exact .inr q3
   exact .inl aa
  refine⟨ws,g1,g2,rfl,fun i hi w' hw'=>?_,fun ad len cap he=>?_⟩
  ·have ay:(ws.take (i*esz)).length=i*esz:=by rw[aaS,g2,abF (abg _ hi)]
   refine run_firstCells_some w' esz i ad' n cap' _ ay fun j c hc=>?_
   rw[abN]at hc;split at hc
   ·rcases sU with h0 | h0
    ·rename_i hj;have:i=0:=aa
     subst this;simp at hj
    rw[h0,abx];have:=g3 j c hc;rw[<-this];simp[World.cell?,hw']
   cases hc
  cases he;refine⟨rfl,?_⟩;rcases sU with h0 | h0
  ·exact .inl h0
  exact .inr ⟨b,off,by rw[h0],g3⟩
 split at h<;>(try (cases h;done))
 rename_i s he;cases h;have he:=aaB he;subst he;simp only[VR]at hx;obtain⟨t,rfl,rfl⟩:=hx;have cJ:(t.data.toList.map fun b=>b.toNat).length=t.size:=oa t;refine⟨t.data.toList.map fun b=>.int .u8 (b.toNat:Nat),?_,af,?_,fun k hk w' _=>?_,fun ad len cap he=>by cases he⟩
 ·rw[adO]
  exact c_.map (fun b=>by simp only[VR,Function.comp]) _
 ·rw[cJ];rfl
 rw[cJ]at hk;simp only[abr,aaA,ac1,and_true];apply abz;simp only[Array.toList_map,adh,adI];rw[adI.symm,Lib.extract_data];simp
set_option maxHeartbeats 1000000 in
theorem iV {t t' ty el:Nat} {inf:TypeInfo} {d':TypeDesc} (ht:P.underlying t=some (.slice el)) (hx:P.underlying t'=some d') (hd:∀k,d' ≠ .int k) (hi:P.info? el=some inf) {v:Value} {n:Nat} {ys:List Value}
 (ay:(adx v).run P w = .ok n w) (yM:(abr inf.size n v).run P w = .ok ys.toArray w) (base:Option Addr) (sLen sCap:Nat) (mG:sLen+n<=sCap) {w':World}
 (bw:∀b,base=some b->(storeCells (b.add (sLen*inf.size)) ys 0).run P w = .ok () w') (hst0:base=none->w'=w) :
 (abR #[t,t'] ty #[.slice base sLen sCap,v]).run P w = .ok (.slice base (sLen+n) sCap) w':=by
 have hz:(match d' with | .int _=>true | _=>false)=false:=by cases d' <;> first | rfl | exact(hd _ rfl).elim
 cases base with
 | none =>
   have:=hst0 rfl;subst this;simp only[abR,abf,aaI,aa1,aav,av ht,av hx,aar,sizeOf,typeInfo,run_program,hi,aaA];cases d' <;> first
    | exact(hd _ rfl).elim
    | simp only[aay,if_false,ay,aar,aav,adC,if_true,yM,if_pos mG,aaA]
 | some b =>
   have bw:=bw b rfl;simp only[abR,abf,aaI,aa1,aav,av ht,av hx,aar,sizeOf,typeInfo,run_program,hi,aaA];cases d' <;> first
    | exact(hd _ rfl).elim
    | simp only[aay,if_false,ay,aar,aav,adC,if_true,yM,if_pos mG,aaA,bw]
set_option maxHeartbeats 1000000 in
theorem mB {t t' ty el:Nat} {inf:TypeInfo} {z:Value} {d':TypeDesc} (ht:P.underlying t=some (.slice el)) (hx:P.underlying t'=some d') (hd:∀k,d' ≠ .int k) (hi:P.info? el=some inf) (hz:inf.zero=some z) {v:Value} {n:Nat} {olds ys:List Value}
 (ay:(adx v).run P w = .ok n w) (yM:(abr inf.size n v).run P w.drew = .ok ys.toArray w.drew) (base:Option Addr) (sLen sCap:Nat) (dz:(abr inf.size sLen (.slice base sLen sCap)).run P w.drew = .ok olds.toArray w.drew)
 (hg:sCap<sLen+n) (h63:((sLen+n:Nat):Int)<=9223372036854775807) (uS:adK (sLen+n) sCap*inf.bytes<=281474976710656) :
 (abR #[t,t'] ty #[.slice base sLen sCap,v]).run P w = .ok (.slice (some ⟨w.heap.size,0,none⟩) (sLen+n) (grownCap w (sLen+n) sCap el))
   (w.drew.alloc (.cells (olds.toArray++ys.toArray++abo z.cells (grownCap w (sLen+n) sCap el - (sLen+n))) el)):=by
 have hn:¬ (sLen+n<=sCap):=aa;have YB:¬ (9223372036854775807<((sLen:Int)+(n:Int))):=aa;have YA:¬ (281474976710656<adK (sLen+n) sCap*inf.bytes):=aa;cases d' <;> first
  | exact(hd _ rfl).elim
  | (simp[abR,run_underlying ht,run_underlying hx,sizeOf,typeInfo,zeroValue,hi,hz,ay,hn,YB,YA,acD,yM,dz,newRow,grownCap]
     congr 2;apply abz;simp[append_assoc])
theorem ER (aQ:Ok ρ w σ M) (ce:σ key=none) {t t':Nat} {d':TypeDesc} (Gt:P.underlying t'=some d') (hd:∀k,d' ≠ .int k) (ty:TypeId) {s x:XV} {e:bZ} (h:gK P M key t s x=some e) {u v:Value} (hs:VR ρ σ s u) (hx:VR ρ σ x v) :
 ∃r w',(abR #[t,t'] ty #[u,v]).run P w = .ok r w'/\bz ρ w σ M key e.val (aY M e.upd) r w':=by
 unfold gK at h;split at h<;>(try (cases h;done))
 rename_i el hu;split at h<;>(try (cases h;done))
 rename_i sz eb zs cJ JU VY;split at h<;>(try (cases h;done))
 rename_i ys n r h1 h2 h3 fF;obtain⟨inf,yO,AX⟩:=GY cJ;obtain⟨cs,g1,g2,g3,g4,g5⟩:=tB (P:=P) aQ fF hx;have rC:inf.bytes=eb:=by unfold pq at JU;rw[yO]at JU;cases JU;rfl
 obtain⟨z,hz,rfl⟩:∃z,inf.zero=some z/\zs=z.cells.toList.map fN:=by obtain⟨inf',z,q1,q2,q3⟩:=Az VY;rw[yO]at q1;cases q1;exact⟨z,q2,q3⟩
 have h1:=aaD h1;have h2:=aaD h2;have h3:=aaB h3;simp only[abd,aa2]at h3;have Zp:=g1.length;have kB:cs.take (n*sz)=cs:=aaz aa;have fC:∀x,qp w (w.drew.alloc x) x:=fun x=>⟨rfl,rfl,rfl,rfl⟩
 split at h<;>(try (cases h;done))
 
 rename_i NP hp;have hb:=aaD NP;unfold fE at hb;simp only[VR]at hs;subst hs;clear NP;cases n with
 | zero =>
   simp only[aat]at h;subst h;refine⟨.slice none 0 0,w,?_,.same aQ (by simp only[VR])⟩;have:=iV (P:=P) (w:=w) (w':=w) (ty:=ty) hu Gt hd yO g3 (by rw[AX];exact g4 0 (u7 _) w rfl) none 0 0 (u7 _) (by intro b hb;cases hb) (fun _=>rfl);simpa using this
 | succ m =>
   simp only[aat]at h;subst h;have uQ:(0+(m+1))*inf.bytes<=281474976710656:=by
    rw[rC]
    calc (0+(m+1))*eb<=1099511627776*128:=adD aa h1
     _<=_:=aj
   have gy:=mB (P:=P) (w:=w) (ty:=ty) (olds:=[]) (ys:=cs) hu Gt hd yO hz g3 (by rw[AX];have:=g4 _ (u7 _) w.drew rfl;rwa [kB]at this) none 0 0 (by simp[abr]) aa aa (by rw[aaU,nextslicecap_zero aa];rw[aaU]at uQ;exact uQ);refine⟨_,_,gy,?_⟩;have yN:=grownCap_ge w (0+(m+1)) 0 el;simp only[aaU]at yN ⊢;simp only[aY];refine bz.alloc aQ ce (fC _) (room:=grownCap w (m+1) 0 el*sz) (N:=M) (fun _=>.inl rfl) ⟨_,el,(0,0),(fC _).new,?_,?_,.inl rfl,?_⟩ ?_
   ·simp only[ac3,size_zeroCells,List.size_toArray,g2,h3,length_nil,aaU]
    rw[<-abZ];congr 1;omega
   ·have:(m+1)*sz<=grownCap w (m+1) 0 el*sz:=abg _ yN
    omega
   ·have:((([]:List Value).toArray++cs.toArray++abo z.cells (grownCap w (m+1) 0 el - (m+1))).toList.take ys.length)=cs:=by rw[<-Zp];simp
    rw[this];exact g1.mono (cb.upd_sub ce _)
   simp only[VR];exact⟨_,_,_,_,cb.upd_same ..,rfl,yN,u7 _,.inl rfl,af⟩
 
 rename_i k esz off len cap hb hp;have hb:=aaD hb;split at h<;>(try (cases h;done))
 rename_i rows hm he;have he:=(aaB he).symm;subst he;obtain⟨b,room,us,ct,fz,ir,JK,hh,e1,e2,e3,e4⟩:=sZ aQ hm;have VP:=hs;simp only[VR]at hs;obtain⟨b',room',cap',ad,lJ,rfl,q1,q2,q3,q4⟩:=hs;rw[JK]at lJ;cases lJ;have D7:=g1.ones hp;split at h
 ·
  rename_i mG;have mG:=aaD mG;split at h<;>(try (cases h;done))
  rename_i hl;have hl:=aaD hl;cases h;have sU:n=0\/ad=(⟨b,off,none⟩:Addr):=by
   rcases q3 with q3 | q3
   ·exact .inr q3
   exact .inl aa
  have Gn:(len+n)*sz=len*sz+n*sz:=abZ _ _ _;obtain⟨w',r1,r2⟩:=mX (P:=P) (key:=key) aQ hm JK g1 D7 (off:=off+len*sz) aa (val:=.sl k sz off (len+n) cap) (v:=.slice (some ad) (len+n) cap') (by simp only[VR];exact⟨b,room,cap',ad,JK,rfl,q1,mG,q3,q4⟩);refine⟨_,w',iV (P:=P) (w:=w) (w':=w') (ty:=ty) hu Gt hd yO g3 (by rw[AX];have:=g4 _ (u7 _) w rfl;rwa [kB]at this) (some ad) len cap' aa (fun b2 Ub=>?_) (fun h=>by cases h),r2⟩;cases Ub;rw[AX];rcases sU with h0 | h0
  ·have:cs=[]:=abk (by rw[g2,h0];simp)
   subst this;simp only[storeCells]at r1 ⊢;exact r1
  rw[h0,abx];exact r1
 split at h<;>(try (cases h;done))
 rename_i ho hl Jr F6;have ho:=aaB ho;have hl:=aaD hl;have Jr:=aaD Jr;unfold fE at Jr;subst ho;cases h;simp only[aY];have uQ:(len+n)*inf.bytes<=140737488355328:=by
  rw[rC]
  calc (len+n)*eb<=1099511627776*128:=adD Jr h1
   _<=_:=aj
 have Gn:(len+n)*sz=len*sz+n*sz:=abZ _ _ _;obtain⟨olds,o1,o2,o3⟩:=nR hh e4 0 (len*sz) aa;simp only[drop_zero,aaU]at o1 o3;by_cases mG:len+n<=cap'
 
 have sU:n=0\/ad=(⟨b,0,none⟩:Addr):=by
  rcases q3 with q3 | q3
  ·exact .inr q3
  exact .inl aa
 have hcap:(len+n)*sz<=cap'*sz:=abg _ mG;obtain⟨w',cs',dg,dh,st3,st4⟩:∃w' cs',(storeCells (ad.add (len*inf.size)) cs 0).run P w = .ok () w'/\i_ w w' b/\w'.heap[b]?=some (.cells cs' ct fz)/\tv us (len*sz) cs cs':=by
  rw[AX];rcases sU with h0 | h0
  ·have:cs=[]:=abk (by rw[g2,h0];simp)
   subst this;exact⟨w,us,rfl,.refl w _,hh,rfl,fun j=>by rw[if_neg af]⟩
  rw[h0,abx,aaU];have:=eR (P:=P) b (len*sz) cs 0 w us ct fz hh e3 aa D7;simpa using this
 refine⟨_,w',iV (P:=P) (w:=w) (w':=w') (ty:=ty) hu Gt hd yO g3 (by rw[AX];have:=g4 _ (u7 _) w rfl;rwa [kB]at this) (some ad) len cap' mG (fun b2 Ub=>by cases Ub;exact dg) (fun h=>by cases h),?_⟩;refine bz.moved aQ ce ir rfl JK dh ⟨cs',ct,fz,st3,by rw[st4.1];exact e1,?_,st4.unfrozen e3,?_⟩ ?_
 ·rw[aau,aaS,abF hl]
  show _<=room;omega
 ·have dy:c_ ρ (σ.upd key (b,room)) (rows.take (len*sz)++ys) (olds++cs):=(o1.append g1).mono (cb.upd_sub ce _)
  have:cs'.toList.take (rows.take (len*sz)++ys).length=olds++cs:=by
   have xm:(rows.take (len*sz)++ys).length=(olds++cs).length:=dy.length.symm;rw[xm];refine ext_getElem? fun j=>?_
   rw[abN,aaQ,st4.2];by_cases hj:j<(olds++cs).length
   ·rw[if_pos hj]
    rw[aau,o2]at hj;by_cases f_:j<len*sz
    ·rw[if_neg aa,aa5 aa]
     have hjo:olds[j]?=some olds[j]:=aaR aa;have:=o3 j _ hjo;rw[cell_of_row w b j us ct fz hh]at this;rw[this,hjo]
    rw[if_pos aa,acC aa,o2]
   rw[if_neg hj,getElem?_eq_none aa]
  rw[this];exact dy
 simp only[VR];exact⟨b,room,cap',ad,cb.upd_same ..,rfl,mG,u7 _,q3,aa⟩
 
 have hfo:(abr inf.size len (.slice (some ad) len cap')).run P w.drew = .ok olds.toArray w.drew:=by
  rw[AX];refine run_firstCells_some w.drew sz len ad len cap' olds o2 fun j c hc=>?_
  have yY:=(aaq.1 hc).1;have sU:ad=(⟨b,0,none⟩:Addr):=by
   have:0<len:=by
    rcases eq_zero_or_pos len with h0 | h0
    ·rw[h0]at o2;simp at o2;subst o2;simp at yY
    exact h0
   rcases q3 with q3 | q3
   ·exact q3
   omega
  rw[sU,abx,aaU];exact o3 j c hc
 have uS:=growslice_fits (old:=cap') aa uQ;have gy:=mB (P:=P) (w:=w) (ty:=ty) hu Gt hd yO hz g3 (by rw[AX];have:=g4 _ (u7 _) w.drew rfl;rwa [kB]at this) (some ad) len cap' hfo aa aa uS;refine⟨_,_,gy,?_⟩;have yN:=grownCap_ge w (len+n) cap' el;refine bz.alloc aQ ce (fC _) (room:=grownCap w (len+n) cap' el*sz) (N:=vO M k) (fun j=>by rw[cV];split<;>simp) ⟨_,el,(0,0),(fC _).new,?_,?_,.inl rfl,?_⟩ ?_
 ·simp only[ac3,size_zeroCells,List.size_toArray,g2,o2,h3]
  rw[<-abZ,<-abZ];congr 1;omega
 ·have:(len+n)*sz<=grownCap w (len+n) cap' el*sz:=abg _ yN
  rw[aau,aaS,abF hl];show _<=grownCap w (len+n) cap' el*sz;omega
 ·have dy:c_ ρ (σ.upd key (w.heap.size,grownCap w (len+n) cap' el*sz)) (rows.take (len*sz)++ys) (olds++cs):=(o1.append g1).mono (cb.upd_sub ce _)
  have:((olds.toArray++cs.toArray++abo z.cells (grownCap w (len+n) cap' el - (len+n))).toList.take (rows.take (len*sz)++ys).length)=olds++cs:=by have e:(olds.toArray++cs.toArray++abo z.cells (grownCap w (len+n) cap' el - (len+n))).toList=(olds++cs)++(abo z.cells (grownCap w (len+n) cap' el - (len+n))).toList:=af;rw[<-dy.length,e];exact take_left
  rw[this];exact dy
 simp only[VR];exact⟨_,_,_,_,cb.upd_same ..,rfl,yN,u7 _,.inl rfl,by rw[aaU];exact u7 _⟩
end
section
variable {P:Program} {o:Oper} {a:Act} {w w':World} {ρ:aK} {σ:cb} {M:Hp} {key:Nat} {env:eX} {Γ:cc}
theorem HL {ys:List XV} (h:ys.all ax=true) (n:Nat):(ys.take n).all ax=true:=by rw[aa4]at h ⊢;exact fun x hx=>h x (mem_of_mem_take hx)
theorem La (aQ:Ok ρ w σ M) {t t':Nat} (ty:TypeId) {d s:XV} {e:bZ} (h:we P M t d s=some e) {u v:Value} (hd:VR ρ σ d u) (hs:VR ρ σ s v) :
 ∃r w',(acv #[t,t'] ty #[u,v]).run P w = .ok r w'/\bz ρ w σ M key e.val (aY M e.upd) r w':=by
 unfold we at h;split at h<;>(try (cases h;done))
 rename_i el hu;split at h<;>(try (cases h;done))
 rename_i sz cJ;split at h<;>(try (cases h;done))
 rename_i ys n r fF;obtain⟨cs,g1,g2,g3,g4,g5⟩:=tB (P:=P) aQ fF hs;split at h<;>(try (cases h;done))
 ·cases h
  simp only[VR]at hd;subst hd;refine⟨goInt 0,w,?_,.same aQ (by simp only[VR,goInt])⟩;have QW:Nat.min n 0=0:=Nat.min_zero _;have:=g4 0 (zero_le _) w rfl;simp only[acv,abf,aaI,aa1,aav,av hu,aar,da cJ,aaA,g3,QW,this];rfl
 rename_i k esz off len cap;split at h<;>(try (cases h;done))
 rename_i rows hm he;split at h<;>(try (cases h;done))
 rename_i hl hp;have he:=(aaB he).symm;subst he;have hl:=aaD hl;cases h;obtain⟨b,room,us,ct,fz,ir,JK,hh,e1,e2,e3,e4⟩:=sZ aQ hm;simp only[VR]at hd;obtain⟨b',room',cap',ad,lJ,rfl,q1,q2,q3,q4⟩:=hd;rw[JK]at lJ;cases lJ;have QW:Nat.min n len=min len n:=Nat.min_comm _ _;have hk:min len n<=n:=Nat.min_le_right _ _;have ZA:min len n<=len:=Nat.min_le_left _ _;have F4:min len n*sz<=len*sz:=abg _ ZA;have DX:=g1.take (min len n*sz);have D7:=DX.ones (HL hp _);have jT:(ys.take (min len n*sz)).length<=min len n*sz:=by rw[aaS];exact Nat.min_le_left _ _
 obtain⟨w',r1,r2⟩:=mX (P:=P) (key:=key) aQ hm JK DX D7 (off:=off) aa (val:=.int .i64 (min len n:Nat)) (v:=goInt (min len n:Nat)) (by simp only[VR,goInt]);refine⟨goInt (min len n:Nat),w',?_,r2⟩;have hf:=g4 (min len n) hk w rfl;have bw:(storeCells ad (cs.take (min len n*sz)) 0).run P w = .ok () w':=by
  by_cases h0:min len n=0
  ·rw[h0]at r1 ⊢
   simp only[Nat.zero_mul,take_zero,storeCells]at r1 ⊢;exact r1
  have:ad=(⟨b,off,none⟩:Addr):=by
   rcases q3 with q3 | q3
   ·exact q3
   omega
  rw[this];exact r1
 simp only[acv,abf,aaI,aa1,aav,av hu,aar,da cJ,aaA,g3,QW,hf,bw]
theorem vJ (zs:Array Value) (n:Nat) (h0:0<zs.size):(abo zs n).toList=(ab2 n zs.toList).flatten:=qX zs n h0
theorem zZ {zs:List XV} (h:zs.all ax=true):∀n,(lQ zs n).all ax=true
 | 0=>rfl
 | n+1=>by rw[lQ,all_append,h,zZ h n];rfl
theorem Jm (aQ:Ok ρ w σ M) {t:Nat} (ty:TypeId) {d:XV} {e:bZ} (h:rx P M t d=some e) {u:Value} (hd:VR ρ σ d u) :
 ∃r w',(ab3 #[t] ty #[u]).run P w = .ok r w'/\bz ρ w σ M key e.val (aY M e.upd) r w':=by
 unfold rx at h;split at h<;>(try (cases h;done))
 rename_i el hu;split at h<;>(try (cases h;done))
 ·cases h
  simp only[VR]at hd;subst hd;refine⟨.tuple #[],w,?_,.same aQ (by simp only[VR];exact⟨#[],rfl,by simp[c_]⟩)⟩;simp only[ab3,abf,aaI,aav,av hu,aar,aaA]
 rename_i sz zs k esz off len cap cJ hz;split at h<;>(try (cases h;done))
 rename_i rows hm he RV;split at h<;>(try (cases h;done))
 rename_i hl hp;have he:=(aaB he).symm;subst he;have hl:=aaD hl;have RV:=aaB RV;cases h;obtain⟨b,room,us,ct,fz,ir,JK,hh,e1,e2,e3,e4⟩:=sZ aQ hm;simp only[VR]at hd;obtain⟨b',room',cap',ad,lJ,rfl,q1,q2,q3,q4⟩:=hd;rw[JK]at lJ;cases lJ;obtain⟨z,vj,rfl⟩:=kY hz w;simp only[abd,aa2]at RV;by_cases h0:len=0
 ·subst h0
  refine⟨.tuple #[],w,?_,?_⟩;·simp only[ab3,abf,aaI,aav,av hu,aar,aaA]
  obtain⟨w',r1,r2⟩:=mX (P:=P) (key:=key) aQ hm JK (vs:=[]) (ws:=[]) (by simp only[c_]) af (off:=off) ak (val:=.tup []) (v:=.tuple #[]) (by simp only[VR];exact⟨#[],rfl,by simp[c_]⟩);simp only[storeCells,aaA,ac1,true_and]at r1;subst r1;exact r2
 have hsz0:0<z.cells.size\/z.cells.size=0:=aa;have UL:=sX (jE (ρ:=ρ) (σ:=σ) z.cells.toList) len;have sU:ad=(⟨b,off,none⟩:Addr):=by
  rcases q3 with q3 | q3
  ·exact q3
  omega
 obtain⟨w',r1,r2⟩:=mX (P:=P) (key:=key) aQ hm JK UL (UL.ones (zZ hp len)) (off:=off) (by rw[tR];simp[RV];omega) (val:=.tup []) (v:=.tuple #[]) (by simp only[VR];exact⟨#[],rfl,by simp[c_]⟩);refine⟨.tuple #[],w',?_,r2⟩;have hzc:(abo z.cells len).toList=(ab2 len z.cells.toList).flatten:=by
  rcases hsz0 with hs | hs
  ·exact vJ _ _ hs
  have e5:z.cells.toList=[]:=abk (by simpa using hs);rw[e5];have:(abo z.cells len).size=0:=by rw[size_zeroCells,hs,Nat.mul_zero]
  have e6:(abo z.cells len).toList=[]:=abk (by simpa using this);rw[e6];simp
 obtain⟨m,rfl⟩:∃m,len=m+1:=⟨len - 1,aa⟩;simp only[ab3,abf,aaI,aav,av hu,aar,vj,hzc,sU,r1,aaA]
theorem O0 (aQ:Ok ρ w σ M) {t:Nat} (ty:TypeId) {x:XV} {e:bZ} (h:kZ P M t x=some e) {u:Value} (hx:VR ρ σ x u):∃r,(abX #[t] ty #[u]).run P w = .ok r w/\VR ρ σ e.val r/\e.upd=[]:=by
 unfold kZ at h;split at h<;>(try (cases h;done))
 ·rename_i s hu
  cases h;simp only[VR]at hx;obtain⟨t',rfl,rfl⟩:=hx;have cJ:(t'.data.toList.map fun b=>b.toNat).length=t'.size:=oa t';refine⟨goInt t'.size,?_,by simp only[VR,cJ,goInt],rfl⟩;simp[abX,av hu]
 ·rename_i hu
  cases h;simp only[VR]at hx;subst hx;refine⟨goInt 0,?_,by simp only[VR,goInt],rfl⟩;simp[abX,av hu]
 ·rename_i n esz off len cap hu
  cases h;simp only[VR]at hx;obtain⟨_,_,_,_,_,rfl,_⟩:=hx;refine⟨goInt len,?_,by simp only[VR,goInt],rfl⟩;simp[abX,av hu]
 ·rename_i hu
  cases h;simp only[VR]at hx;subst hx;refine⟨goInt 0,?_,by simp only[VR,goInt],rfl⟩;simp[abX,av hu]
 rename_i n hu;split at h<;>(try (cases h;done))
 rename_i es clock hm;cases h;obtain⟨p,hp,es',hh,dZ⟩:=aQ.obj n _ hm;simp only[VR]at hx;obtain⟨b,room,hs,rfl⟩:=hx;rw[hp]at hs;cases hs;have ay:∀{xs:List (Nat×XV×XV)} {es:List MapEntry},eU ρ σ xs es->es.length=xs.length:=by
  intro xs
  induction xs with
  | nil=>intro es h;simp only[eU]at h;simp[h]
  | cons x xs ih =>
    intro es h;obtain⟨bo,k,v⟩:=x;simp only[eU]at h;obtain⟨e,es',rfl,_,_,_,h⟩:=h;simp[ih h]
 have:=ay dZ;simp only[aa2]at this;refine⟨goInt es.length,?_,by simp only[VR,goInt],rfl⟩;have hg:(getObj b).run P w = .ok (.map es' clock) w:=by simp[getObj,ab9,hh]
 simp only[abX,abf,aaI,aav,av hu,aar,hg,aaA,this]
theorem tu (k:IntKind):∀(vs:List XV) (us:List Value) (a n:Int),er k min a vs=some n->c_ ρ σ vs us->(us.foldlM Builtin.min2 (Value.int k a)).run P w = .ok (.int k n) w
 | [],us,a,n,h,hr=>by simp only[er,aat]at h;simp only[c_]at hr;subst h hr;rfl
 | v::vs,us,a,n,h,hr=>by
   cases v with
   | int k' b =>
     simp only[er]at h;split at h
     ·rename_i hk
      simp only[decide_eq_true_eq]at hk;subst hk;simp only[c_]at hr;obtain⟨u,us',rfl,hu,hr⟩:=hr;simp only[VR]at hu;subst hu;have hm:(if b<a then b else a)=min a b:=aa;have ih:=tu k vs us' (min a b) n h hr;simp only[foldlM_cons,Builtin.min2,aav,aaA,aar,hm];exact ih
     cases h
   | _=>simp[er]at h
theorem tq (k:IntKind):∀(vs:List XV) (us:List Value) (a n:Int),er k max a vs=some n->c_ ρ σ vs us->(us.foldlM Builtin.max2 (Value.int k a)).run P w = .ok (.int k n) w
 | [],us,a,n,h,hr=>by simp only[er,aat]at h;simp only[c_]at hr;subst h hr;rfl
 | v::vs,us,a,n,h,hr=>by
   cases v with
   | int k' b =>
     simp only[er]at h;split at h
     ·rename_i hk
      simp only[decide_eq_true_eq]at hk;subst hk;simp only[c_]at hr;obtain⟨u,us',rfl,hu,hr⟩:=hr;simp only[VR]at hu;subst hu;have hm:(if b>a then b else a)=max a b:=aa;have ih:=tq k vs us' (max a b) n h hr;simp only[foldlM_cons,Builtin.max2,aav,aaA,aar,hm];exact ih
     cases h
   | _=>simp[er]at h
theorem ux:∀{cs:List XV} {s:List Nat} {us:List Value},li.bytesOf cs=some s->c_ ρ σ cs us->∃bs:List UInt8,bs.map (·.toNat)=s/\us=bs.map fun b=>Value.int .u8 (b.toNat:Nat)
 | [],s,us,h,hv=>by simp only[li.bytesOf,aat]at h;simp only[c_]at hv;subst h hv;exact⟨[],rfl,rfl⟩
 | c::cs,s,us,h,hv=>by
   unfold li.bytesOf at h;split at h<;>(try (cases h;done))
   ·rename_i D2;cases D2
   rename_i n vs D2;simp only[abI]at D2;obtain⟨rfl,rfl⟩:=D2;split at h<;>(try (cases h;done))
   rename_i l h1 h2;cases h;simp only[c_]at hv;obtain⟨u,us',rfl,hu,hv⟩:=hv;obtain⟨bs,rfl,rfl⟩:=ux h1 hv;simp only[VR]at hu;subst hu;rw[abD]at h2;refine⟨UInt8.ofNat n::bs,?_,?_⟩;·simp;omega
   have:(UInt8.ofNat n).toNat=n:=ak;simp only[aa3,this];rfl
theorem L9 (aQ:Ok ρ w σ M) (ce:σ key=none) {src dst:Nat} {x:XV} {e:bZ} (h:li P key M src dst x=some e) {u:Value} (hx:VR ρ σ x u) :
 ∃r w',(convert src dst u).run P w = .ok r w'/\bz ρ w σ M key e.val (aY M e.upd) r w':=by
 unfold li at h;split at h<;>(try (cases h;done))
 ·rename_i sd k k' n j_ Oh
  cases h;simp only[VR]at hx;subst hx;refine⟨.int k (k.wrap n),w,?_,.same aQ (by simp only[VR])⟩;simp only[convert,aav,av j_,av Oh,aar];rfl
 ·rename_i sd s j_ Oh
  cases h;have Gt:=hx;simp only[VR]at hx;obtain⟨t,rfl,_⟩:=hx;refine⟨.string t,w,?_,.same aQ Gt⟩;simp only[convert,aav,av j_,av Oh,aar];rfl
 ·rename_i el s j_ Oh
  split at h<;>(try (cases h;done))
  rename_i fF hb cJ;cases h;have hb:=aaD hb;unfold fE at hb;simp only[VR]at hx;obtain⟨t,rfl,rfl⟩:=hx;have CL:(t.data.toList.map fun b=>b.toNat).length=t.size:=oa t;rw[CL]at hb ⊢;have gy:=run_bytes_of_string (P:=P) w src dst el t j_ Oh fF;have yN:=grownCap_ge w t.size 0 el;have UP:(bytesRow t (grownCap w t.size 0 el)).size=grownCap w t.size 0 el:=by simp only[bytesRow,ac3,Array.size_map,Array.size_replicate];have:t.data.size=t.size:=rfl;omega
  refine⟨_,_,gy,?_⟩;simp only[aY];have fC:qp w (w.drew.alloc (.cells (bytesRow t (grownCap w t.size 0 el)) el ((bytesRow t (grownCap w t.size 0 el)).size,(bytesRow t (grownCap w t.size 0 el)).size+1))) (.cells (bytesRow t (grownCap w t.size 0 el)) el ((bytesRow t (grownCap w t.size 0 el)).size,(bytesRow t (grownCap w t.size 0 el)).size+1)):=⟨rfl,rfl,rfl,rfl⟩;refine bz.alloc aQ ce fC (room:=grownCap w t.size 0 el) (N:=M) (fun _=>.inl rfl) ⟨_,el,_,fC.new,UP,by simp;exact yN,.inr (u7 _),?_⟩ ?_
  ·refine c_.of_get (by rw[aaS];simp[UP];exact abF yN) fun i x hi=>?_
   rw[adO,acg]at hi;have aL:i<t.data.size:=by rw[map_eq_some_iff]at hi;obtain⟨y,hy,_⟩:=hi;simpa using (aaq.1 hy).1
   rw[aaQ,abs aL]at hi;simp only[adb,Function.comp,aat]at hi;subst hi;refine⟨.int .u8 (t.data[i].toNat:Int),?_,by simp only[VR]⟩;rw[abN,if_pos (by simpa using aL),aaQ];exact bytesRow_at t _ i aL
  simp only[VR];exact⟨_,_,_,_,cb.upd_same ..,rfl,yN,u7 _,.inl rfl,af⟩
 rename_i el j_ Oh _;split at h<;>(try (cases h;done))
 rename_i fF;split at h<;>(try (cases h;done))
 rename_i cs n r Mv;obtain⟨us,g1,g2,g3,g4,g5⟩:=tB (P:=P) aQ Mv hx;split at h<;>(try (cases h;done))
 rename_i s Y8 y7 _;split at h<;>(try (cases h;done))
 rename_i hb;cases h;obtain⟨bs,rfl,rfl⟩:=ux Y8 g1;simp only[abd,adh]at g2;refine⟨.string ⟨bs.toArray⟩,w,?_,.same aQ (by simp only[VR];exact⟨_,rfl,rfl⟩)⟩;have cw:∃ad len cap,u = .slice ad len cap:=by
  unfold ij at Mv;split at Mv<;>(try (cases Mv;done))
  ·simp only[VR]at hx;exact⟨_,_,_,hx⟩
  ·simp only[VR]at hx;obtain⟨_,_,_,_,_,rfl,_⟩:=hx;exact⟨_,_,_,rfl⟩
  exact(y7 _ rfl).elim
 obtain⟨ad,len,cap,rfl⟩:=cw;obtain⟨rfl,g6⟩:=g5 ad len cap rfl;rcases g6 with g6 | ⟨b,off,rfl,g6⟩
 ·subst g6
  have:bs=[]:=abk g2;subst this;rw[run_convert_bytes_string w src dst el ad 0 cap j_ fF Oh];cases ad with
  | none=>rfl
  | some b=>rfl
 have:=run_convert_bytes_back (P:=P) w src dst el ⟨b,off,none⟩ cap bs j_ fF Oh (fun j hj=>by rw[abx];exact g6 j _ (by rw[acg,aaR hj];rfl));rw[g2]at this;exact this
end
section
variable {P:Program} {o:Oper} {a:Act} {w w':World} {ρ:aK} {σ:cb} {M:Hp} {key:Nat} {env:eX} {Γ:cc}
theorem AK:∀{xs ys:List XV},dr.go xs ys=some true->xs=ys
 | [],[],_=>rfl
 | [],_::_,h=>by simp[dr.go]at h
 | x::xs,ys,h=>by
   unfold dr.go at h;split at h<;>(try (cases h;done))
   ·rename_i D2;cases D2
   rename_i k a xs' k' b ys' D2;simp only[abI]at D2;obtain⟨rfl,rfl⟩:=D2;split at h<;>(try (cases h;done))
   rename_i hk;split at h<;>(try (cases h;done))
   rename_i qJ;have:=AK h;simp only[decide_eq_true_eq]at hk;simp only[beq_iff_eq]at qJ;rw[hk,qJ,this]
theorem tP {x y:XV} (h:dr x y=some true):x=y:=by
 unfold dr at h;split at h<;>(try (cases h;done))
 ·split at h<;>(try (cases h;done))
  rename_i hk;simp only[decide_eq_true_eq]at hk;simp only[aat,beq_iff_eq]at h;rw[hk,h]
 ·simp only[aat,nL,beq_iff_eq]at h
  rw[h]
 ·simp only[aat,beq_iff_eq]at h
  rw[h]
 rw[AK h]
def Ts:Value->Bool
 | .int ..=>true
 | _=>false
theorem DJ:∀{xs ys:List XV} {us:List Value},dr.go xs ys=some true->c_ ρ σ xs us->(∀u ∈ us,Ts u=true)/\∀{us':List Value},c_ ρ σ xs us'->us'=us
 | [],ys,us,h,hv=>by simp only[c_]at hv;subst hv;exact⟨af,fun hv=>by simpa only [c_] using hv⟩
 | x::xs,ys,us,h,hv=>by
   unfold dr.go at h;split at h<;>(try (cases h;done))
   ·rename_i D2;cases D2
   rename_i k a xs' k' b ys' D2;simp only[abI]at D2;obtain⟨rfl,rfl⟩:=D2;split at h<;>(try (cases h;done))
   split at h<;>(try (cases h;done))
   simp only[c_,VR]at hv;obtain⟨u,us',rfl,rfl,hv⟩:=hv;obtain⟨h1,h2⟩:=DJ h hv;refine⟨fun u hu=>?_,fun oP=>?_⟩
   ·rcases aaK.1 hu with rfl | hu
    ·rfl
    exact h1 u hu
   simp only[c_,VR]at oP;obtain⟨u,us2,rfl,rfl,oP⟩:=oP;rw[h2 oP]
theorem Ek {x y:XV} (h:dr x y=some true) {u v:Value} (hu:VR ρ σ x u) (hv:VR ρ σ x v):u=v/\ab8 10000 u v=true:=by
 unfold dr at h;split at h<;>(try (cases h;done))<;>simp only[VR]at hu hv
 ·subst hu hv
  exact⟨rfl,by simp[ab8]⟩
 ·obtain⟨s,rfl,e1⟩:=hu
  obtain⟨s',rfl,e2⟩:=hv;have:s=s':=by have:=BK (e1.trans e2.symm);cases s with | mk s=>cases s' with | mk s'=>exact congrArg ByteArray.mk (acF.1 this)
  subst this;refine⟨rfl,?_⟩;simp only[ab8];cases s with | mk s=>show (s==s)=true;simp
 ·subst hu hv
  exact⟨rfl,by simp[ab8]⟩
 obtain⟨us,rfl,hu⟩:=hu;obtain⟨vs,rfl,hv⟩:=hv;obtain⟨h1,h2⟩:=DJ h hu;have:=acF.1 (h2 hv);subst this;refine⟨rfl,?_⟩;have e:(10000:Nat)=9999+1:=rfl;rw[e,ab8];simp only[beq_self_eq_true,Bool.true_and];rw[aa4];intro p hp;obtain⟨p1,p2⟩:=p;have hz:∀(l:List Value) (p:Value×Value),p ∈ l.zip l->p.1=p.2/\p.1 ∈ l:=by
  intro l
  induction l with
  | nil=>intro p hp;simp at hp
  | cons x l ih =>
    intro p hp;simp only[zip_cons_cons,aaK]at hp;rcases hp with rfl | hp
    ·exact⟨rfl,aaC⟩
    exact⟨(ih p hp).1,aaJ _ (ih p hp).2⟩
 obtain⟨q1,q2⟩:=hz _ _ hp;simp only at q1 q2;subst q1;have:=h1 p1 q2;cases p1<;>simp[Ts]at this
 simp[ab8]
theorem EB {t:Nat} {x y:XV} (h:Dy P t x y=some true):dr x y=some true:=by
 unfold Dy at h;split at h
 ·split at h<;>(try (cases h;done))
  assumption
 ·cases h
 exact h
theorem qT:∀(d n t m:Nat) (empty:Bool) (v:Value),i8 P d t m=true->d<=n->(sB P t=some true->∃us:Array Value,v = .agg us/\us.size=m)->(sB P t=some false->m≠0->True)->(abM empty n t v).run P w = .ok () w
 | 0,_,_,_,_,_,h,_,_,_=>by simp[i8]at h
 | d+1,0,_,_,_,_,_,hn,_,_=>aa
 | d+1,n+1,t,m,empty,v,h,hn,ha,_=>by
   unfold i8 at h;split at h<;>(try (cases h;done))
   ·rename_i k hu
    simp only[abM,aav,av hu,aar];cases v<;>rfl
   rename_i fs hu;obtain⟨us,rfl,rfl⟩:=ha (by simp[sB,hu,xw]);simp only[abM,aav,av hu,aar];have key:∀(l:List Field),(∀f ∈ l,(match cE P f.type with | some n=>aaP (f.offset+n) us.size&&i8 P d f.type n | none=>false)=true) ->
    (forIn l () fun(f:Field) (_:Unit)=>if f.name ≠ "_" then do
      let x <-part f.type us f.offset
      abM empty n f.type x
      pure (acB ())
      else pure (acB ())).run P w = .ok () w:=by
    intro l
    induction l with
    | nil=>intro _;rfl
    | cons f l ih =>
      intro hl;have hf:=hl f aaC;have ih:=ih fun g hg=>hl g (aaJ _ hg)
      split at hf<;>(try (cases hf;done))
      rename_i sz cJ;simp only[aaF]at hf;obtain⟨h1,h2⟩:=hf;have h1:=aaD h1;have ZY:∃x,(part f.type us f.offset).run P w = .ok x w/\(abM empty n f.type x).run P w = .ok () w:=by
       cases CE:sB P f.type with
       | none =>
         exfalso;cases d with
         | zero=>simp[i8]at h2
         | succ d =>
           unfold i8 at h2;unfold sB at CE;split at h2<;>simp_all
       | some b =>
         cases b with
         | true =>
           refine⟨.agg (us.extract f.offset (f.offset+sz)),?_,?_⟩;·simp only[part,aav,ls CE,aar,if_true,da cJ,aaA]
           exact qT d n f.type sz empty _ h2 aa (fun _=>⟨_,rfl,ak⟩) fun _ _=>trivial
         | false =>
           have h0:1<=sz:=by
            cases d with
            | zero=>simp[i8]at h2
            | succ d =>
              unfold i8 at h2;split at h2<;>(try (cases h2;done))
              ·exact aaD h2
              rename_i hu2;simp[sB,hu2,xw]at CE
           have aL:f.offset<us.size:=aa;refine⟨us[f.offset],?_,?_⟩;·simp only[part,aav,ls CE,aar,aay,if_false,abs aL,aaA]
           exact qT d n f.type sz empty _ h2 aa (fun h=>by rw[CE]at h;cases h) fun _ _=>trivial
      obtain⟨x,q1,q2⟩:=ZY;by_cases Su:f.name ≠ "_"
      ·simp only[forIn_cons,if_pos Su,aav,q1,aar,q2,aaA]
       exact ih
      simp only[forIn_cons,if_neg Su,aav,aaA,aar];exact ih
   have:=key fs.toList (fun f hf=>aa4.1 h f hf);rw[<-Array.forIn_toList];exact(congrArg (fun r=>Result.andThen r _) this).trans rfl
def DO:TypeDesc->Bool
 | .int _ | .string | .bool=>true
 | _=>false
theorem nG (n:Nat) {t:Nat} {d:TypeDesc} (hu:P.underlying t=some d) (hd:DO d=true) (empty:Bool) (v:Value):(abM empty (n+1) t v).run P w = .ok () w:=by simp only[abM,aav,av hu,aar];cases d<;>simp only[DO,aay]at hd<;>cases v<;>rfl
theorem kj {t:Nat} {x:XV} (h:jl P t x=true) {v:Value} (hv:VR ρ σ x v) (empty:Bool):(abM empty 10000 t v).run P w = .ok () w:=by
 unfold jl at h;split at h<;>(try (cases h;done))
 ·rename_i hu
  exact nG 9999 hu rfl empty v
 ·rename_i hu
  exact nG 9999 hu rfl empty v
 ·rename_i hu
  exact nG 9999 hu rfl empty v
 split at h<;>(try (cases h;done))
 simp only[VR]at hv;obtain⟨us,rfl,hv⟩:=hv;have:=hv.length;simp only[aa2]at this;exact qT 20 10000 t _ empty _ h aa (fun _=>⟨us,rfl,this⟩) fun _ _=>trivial
end
section
variable {P:Program} {o:Oper} {a:Act} {w w':World} {ρ:aK} {σ:cb} {M:Hp} {key:Nat} {env:eX} {Γ:cc}
def qu (ρ:aK) (σ:cb) (es:List MapEntry) (i:Nat):Option (Nat×XV)->Option (Nat×Value)->Prop
 | none,r=>r=none
 | some (j,v),r=>∃u,r=some (j,u)/\i<=j/\VR ρ σ v u/\∃e,es[j - i]?=some e/\e.val=u
theorem qu.succ {es:List MapEntry} {e:MapEntry} {i:Nat} {r:Option (Nat×XV)} {r':Option (Nat×Value)} (h:qu ρ σ es (i+1) r r'):qu ρ σ (e::es) i r r':=by
 cases r with
 | none=>exact h
 | some p =>
   obtain⟨j,v⟩:=p;obtain⟨u,h1,h2,h3,e',h4,h5⟩:=h;refine⟨u,h1,aa,h3,e',?_,h5⟩;rw[show j - i=(j - (i+1))+1 by omega];simpa using h4
theorem tJ {t:Nat} {td:TypeDesc} {x:XV} {kv:Value} (hx:VR ρ σ x kv) (CE:∀xs,x ≠ .agg xs) (uS:(∃k,td = .int k)/\(∃k n,x = .int k n)\/td = .string/\(∃s,x = .str s)\/td = .bool/\∃b,x = .bool b) :
 ∀(es:List (Nat×XV×XV)) (es':List MapEntry) (i:Nat) (r:Option (Nat×XV)),eu P t x es i=some r->eU ρ σ es es'->∃r',acY td kv es' i=some r'/\qu ρ σ es' i r r'
 | [],es',i,r,h,he=>by simp only[eu,aat]at h;simp only[eU]at he;subst h he;exact⟨none,rfl,rfl⟩
 | (b,k',v)::es,es',i,r,h,he=>by
   simp only[eU]at he;obtain⟨e,es',rfl,hb,hk,hv,he⟩:=he;have hq:Dy P t x k'=dr x k':=by
    unfold Dy;split;·exact(CE _ rfl).elim
    ·exact(CE _ rfl).elim
    rfl
   simp only[eu,hq]at h;have hs:∀c,dr x k'=some c->adE td kv e.key=some c:=by
    intro c hc;rcases uS with ⟨⟨k,rfl⟩,k1,n,rfl⟩ | ⟨rfl,s,rfl⟩ | ⟨rfl,b,rfl⟩<;>simp only[VR]at hx
    ·subst hx
     cases k' with
     | int k2 n2 =>
       simp only[dr]at hc;split at hc<;>(try (cases hc;done))
       rename_i sT;simp only[decide_eq_true_eq]at sT;cases hc;simp only[VR]at hk;rw[hk];simp[adE,sT]
     | _=>simp[dr]at hc
    ·obtain⟨t1,rfl,rfl⟩:=hx
     cases k' with
     | str s2 =>
       simp only[dr,aat]at hc;simp only[VR]at hk;obtain⟨t2,hk,rfl⟩:=hk;rw[hk];simp only[adE];rw[<-hc];congr 1;cases t1 with | mk t1=>cases t2 with | mk t2 =>
       show (t1==t2)=uy (nb t1.toList) (nb t2.toList);rw[nL,yn,acK];simp only[beq_iff_eq];exact⟨fun h=>by rw[h],fun h=>acF.1 h⟩
     | _=>simp[dr]at hc
    subst hx;cases k' with
    | bool b2 =>
      simp only[dr]at hc;simp only[VR]at hk;rw[hk];exact hc
    | _=>simp[dr]at hc
   split at h<;>(try (cases h;done))<;>rename_i hc
   ·cases h
    refine⟨some (i,e.val),?_,e.val,rfl,u7 _,hv,e,af,rfl⟩;simp only[acY,hs _ hc]
   obtain⟨r',h1,h2⟩:=tJ hx CE uS es es' (i+1) r h he;refine⟨r',?_,h2.succ⟩;simp only[acY,hs _ hc];exact h1
theorem ui {t:Nat} {xs:List XV} {kv:Value} (hx:VR ρ σ (.agg xs) kv) :
 ∀(es:List (Nat×XV×XV)) (es':List MapEntry) (i:Nat) (r:Option (Nat×XV)),eu P t (.agg xs) es i=some r->eU ρ σ es es'->∃r',(acE t kv es' i).run P w = .ok r' w/\qu ρ σ es' i r r'
 | [],es',i,r,h,he=>by simp only[eu,aat]at h;simp only[eU]at he;subst h he;exact⟨none,rfl,rfl⟩
 | (b,k',v)::es,es',i,r,h,he=>by
   simp only[eU]at he;obtain⟨e,es',rfl,hb,hk,hv,he⟩:=he;simp only[eu]at h;have hs:∀c,Dy P t (.agg xs) k'=some c->(ac8 t kv e.key).run P w = .ok c w:=by
    intro c hc;cases k' with
    | agg ys =>
      simp only[Dy]at hc;have:∃c',vQ P (fun _ _ _=>none) 40 t (.agg xs) (.agg ys)=some c'/\c'=c:=by split at hc<;>(try (cases hc;done))<;>cases hc<;>exact⟨_,‹_›,rfl⟩
      obtain⟨c',h1,rfl⟩:=this;exact uN (fun _ _ _ _ _ h=>by cases h) 40 aco t _ _ kv e.key _ aj h1 hx hk
    | _=>simp[Dy]at hc
   split at h<;>(try (cases h;done))<;>rename_i hc
   ·cases h
    refine⟨some (i,e.val),?_,e.val,rfl,u7 _,hv,e,af,rfl⟩;simp only[acE,aav,hs _ hc,aar,if_true,aaA]
   obtain⟨r',h1,h2⟩:=ui hx es es' (i+1) r h he;refine⟨r',?_,h2.succ⟩;simp only[acE,aav,hs _ hc,aar,aay,if_false];exact h1
theorem lM {t:Nat} {x:XV} (hk:jl P t x=true) {kv:Value} (hx:VR ρ σ x kv) {es:List (Nat×XV×XV)} {es':List MapEntry} {r:Option (Nat×XV)} (h:eu P t x es 0=some r) (he:eU ρ σ es es') :
 ∃r',(acA t kv es').run P w = .ok r' w/\qu ρ σ es' 0 r r':=by
 have scal:∀{td:TypeDesc},P.underlying t=some td->(∀xs,x ≠ .agg xs)->((∃k,td = .int k)/\(∃k n,x = .int k n)\/td = .string/\(∃s,x = .str s)\/td = .bool/\∃b,x = .bool b)->∃r',(acA t kv es').run P w = .ok r' w/\qu ρ σ es' 0 r r':=by intro td hu CE uS;obtain⟨r',h1,h2⟩:=tJ hx CE uS es es' 0 r h he;refine⟨r',?_,h2⟩;simp only[acA,aav,av hu,aar,h1,aaA]
 unfold jl at hk;split at hk<;>(try (cases hk;done))
 ·rename_i k k' n hu
  exact scal hu (fun _ h=>by cases h) (.inl ⟨⟨_,rfl⟩,_,_,rfl⟩)
 ·rename_i s hu
  exact scal hu (fun _ h=>by cases h) (.inr (.inl ⟨rfl,_,rfl⟩))
 ·rename_i b hu
  exact scal hu (fun _ h=>by cases h) (.inr (.inr ⟨rfl,_,rfl⟩))
 rename_i fs xs hu;obtain⟨r',h1,h2⟩:=ui (w:=w) (P:=P) hx es es' 0 r h he;simp only[acA,aav,av hu,aar];cases es' with
 | nil =>
   refine⟨r',?_,h2⟩;simp only[acE,aaA,ac1,and_true]at h1;subst h1;rfl
 | cons e es' =>
   refine⟨r',?_,h2⟩;have:acY (.struct fs) kv (e::es') 0=none:=by simp only[VR]at hx;obtain⟨us,rfl,_⟩:=hx;rfl
   simp only[this];exact h1
theorem DK {t:Nat} {z:XV} (h:wI P t=some z) (w:World):∃u,(zeroValue t).run P w = .ok u w/\VR ρ σ z u:=by
 unfold wI at h;split at h<;>(try (cases h;done))
 rename_i i hi;split at h<;>(try (cases h;done))
 rename_i zv hz;cases h;refine⟨zv,by simp[zeroValue,typeInfo,hi,hz],?_⟩;unfold ofV;split
 ·simp only[VR]
  exact⟨_,rfl,jE _⟩
 exact tn _
theorem pL (aQ:Ok ρ w σ M) {n:Nat} {es:List (Nat×XV×XV)} {clock:Nat} (h:gG M n=some (.map es clock)) {u:Value} (hu:VR ρ σ (.mm n) u) :
 ∃b room es',σ n=some (b,room)/\u = .map (some b)/\w.heap[b]?=some (.map es' clock)/\eU ρ σ es es'.toList:=by
 obtain⟨⟨b,room⟩,hp,es',hh,dZ⟩:=aQ.obj n _ h;simp only[VR]at hu;obtain⟨b',room',hs,rfl⟩:=hu;rw[hp]at hs;cases hs;exact⟨b,room,es',hp,rfl,hh,dZ⟩
theorem dF {b:Nat} {es:Array MapEntry} {clock:Nat} (h:w.heap[b]?=some (.map es clock)):(getObj b).run P w = .ok (.map es clock) w:=by simp[getObj,ab9,h]
theorem eU.length:∀{xs:List (Nat×XV×XV)} {es:List MapEntry},eU ρ σ xs es->es.length=xs.length
 | [],es,h=>by simp only[eU]at h;simp[h]
 | (b,k,v)::xs,es,h=>by simp only[eU]at h;obtain⟨e,es',rfl,_,_,_,h⟩:=h;simp[h.length]
theorem IJ (ok:Bool) {y:XV} {b:Bool} {yv:Value} (hy:VR ρ σ y yv):VR ρ σ (HX ok y b) (if ok then .tuple #[yv,.bool b] else yv):=by
 cases ok with
 | true =>
   simp only[if_true,HX,VR];exact⟨_,rfl,by simp only[c_,VR];exact⟨yv,_,rfl,hy,.bool b,[],rfl,rfl,rfl⟩⟩
 | false=>simpa [HX] using hy
theorem wq (aQ:Ok ρ w σ M) {kt:Nat} {x ix:XV} {r:Option XV} {rd:List Nat} (hk:jl P kt ix=true) (h:i6 P M kt ix x=some (r,rd)) {u v:Value} (hu:VR ρ σ x u) (hv:VR ρ σ ix v) :
 ∃(es:Array MapEntry) (r':Option (Nat×Value)),(u = .map none/\es = #[]\/∃b clock,u = .map (some b)/\w.heap[b]?=some (.map es clock))/\(acA kt v es.toList).run P w = .ok r' w /\
  (∀y,r=some y->∃j yv,r'=some (j,yv)/\VR ρ σ y yv)/\(r=none->r'=none):=by
 cases x with
 | nilm =>
   simp only[i6,aat,act]at h;obtain⟨rfl,rfl⟩:=h;simp only[VR]at hu;obtain⟨r',f1,f2⟩:=lM (P:=P) (w:=w) hk hv (es:=[]) (es':=[]) (r:=none) rfl (by simp only[eU]);exact⟨#[],r',.inl ⟨hu,rfl⟩,f1,(fun _ h=>by cases h),(fun _=>f2)⟩
 | mm n =>
   simp only[i6]at h;split at h<;>(try (cases h;done))
   rename_i es clock hm;obtain⟨b,room,es',hs,rfl,hh,dZ⟩:=pL aQ hm hu;split at h<;>(try (cases h;done))<;>rename_i hf<;>cases h<;>obtain⟨r',f1,f2⟩:=lM (P:=P) (w:=w) hk hv hf dZ
   ·obtain⟨yv,rfl,_,f3,_⟩:=f2
    exact⟨es',_,.inr ⟨b,clock,rfl,hh⟩,f1,fun y hy=>by cases hy;exact⟨_,yv,rfl,f3⟩,fun h=>by cases h⟩
   exact⟨es',r',.inr ⟨b,clock,rfl,hh⟩,f1,(fun y hy=>by cases hy),(fun _=>f2)⟩
 | _=>simp[i6]at h
theorem Ff (aQ:Ok ρ w σ M) {t:Nat} {x ix:XV} {ok:Bool} {e:bZ} (h:cT P M t x ix ok=some e) {u v:Value} (hu:VR ρ σ x u) (hv:VR ρ σ ix v) :
 ∃r,(acI t u v ok).run P w = .ok r w/\VR ρ σ e.val r/\e.upd=[]:=by
 unfold cT at h;split at h<;>(try (cases h;done))
 rename_i kt el Eb;split at h<;>(try (cases h;done))
 ·rename_i zr0 y rd hk hz hf
  cases h;obtain⟨es,r',h1,h2,h3,_⟩:=wq (P:=P) aQ hk hf hu hv;obtain⟨j,yv,rfl,hy⟩:=h3 y rfl;have hc:=fun e=>kj (P:=P) (w:=w) hk hv e
  refine⟨_,?_,IJ ok hy,rfl⟩;rcases h1 with ⟨rfl,rfl⟩ | ⟨bl,clock,rfl,hh⟩
  ·simp only[acI,aav,av Eb,aar,aaA,hc,h2]
  simp only[acI,aav,av Eb,aar,aaA,dF hh,hc,h2]
 rename_i zr0 rd hk hz hf;cases h;obtain⟨es,r',h1,h2,_,h3⟩:=wq (P:=P) aQ hk hf hu hv;obtain⟨zv,vj,RU⟩:=DK (ρ:=ρ) (σ:=σ) hz w;obtain rfl:=h3 rfl;have hc:=fun e=>kj (P:=P) (w:=w) hk hv e
 refine⟨_,?_,IJ ok RU,rfl⟩;rcases h1 with ⟨rfl,rfl⟩ | ⟨bl,clock,rfl,hh⟩
 ·simp only[acI,aav,av Eb,aar,aaA,hc,h2,vj]
 simp only[acI,aav,av Eb,aar,aaA,dF hh,hc,h2,vj]
theorem jJ {b:Nat} {es:Array MapEntry} {clock:Nat} (h:w.heap[b]?=some (.map es clock)) (x:Obj):(setObj b x).run P w = .ok () { w with heap:=w.heap.setIfInBounds b x }:=by simp[setObj,ab9,h]
theorem ic {b:Nat} (x:Obj) (hb:b<w.heap.size):i_ w { w with heap:=w.heap.setIfInBounds b x } b/\({ w with heap:=w.heap.setIfInBounds b x }:World).heap[b]?=some x:=by
 refine⟨⟨rfl,rfl,rfl,af,fun j hj=>?_⟩,?_⟩;·exact abH (fun e=>hj e.symm)
 exact abq hb
theorem eU.get:∀{xs:List (Nat×XV×XV)} {es:List MapEntry} {i:Nat} {b:Nat} {k v:XV},eU ρ σ xs es->xs[i]?=some (b,k,v)->∃e,es[i]?=some e/\e.born=b/\VR ρ σ k e.key/\VR ρ σ v e.val
 | [],_,_,_,_,_,_,h=>by simp at h
 | (b',k',v')::xs,es,i,b,k,v,h,hx=>by
   simp only[eU]at h;obtain⟨e,es',rfl,h1,h2,h3,h⟩:=h;cases i with
   | zero =>
     simp only[aaI,aat,act]at hx;obtain⟨rfl,rfl,rfl⟩:=hx;exact⟨e,rfl,h1,h2,h3⟩
   | succ i =>
     obtain⟨e',g⟩:=eU.get h (by simpa using hx);exact⟨e',by simpa using g⟩
theorem eU.set:∀{xs:List (Nat×XV×XV)} {es:List MapEntry} {i:Nat} {v:XV} {f:MapEntry->MapEntry},eU ρ σ xs es->(∀b k v0 e,xs[i]?=some (b,k,v0)->es[i]?=some e->(f e).born=b/\VR ρ σ k (f e).key/\VR ρ σ v (f e).val)->eU ρ σ (gJ v xs i) (es.modify i f)
 | [],es,i,v,f,h,_=>by simp only[eU]at h;subst h;simp[gJ,eU]
 | (b,k,v0)::xs,es,0,v,f,h,hf=>by simp only[eU]at h;obtain⟨e,es',rfl,h1,h2,h3,h⟩:=h;obtain⟨g1,g2,g3⟩:=hf b k v0 e rfl rfl;simp only[gJ,modify_zero_cons,eU];exact⟨f e,es',rfl,g1,g2,g3,h⟩
 | (b,k,v0)::xs,es,i+1,v,f,h,hf=>by simp only[eU]at h;obtain⟨e,es',rfl,h1,h2,h3,h⟩:=h;simp only[gJ,modify_succ_cons,eU];exact⟨e,_,rfl,h1,h2,h3,eU.set h fun b k v0 e q1 q2=>hf b k v0 e (by simpa using q1) (by simpa using q2)⟩
theorem eU.push:∀{xs:List (Nat×XV×XV)} {es:List MapEntry} {b:Nat} {k v:XV} {e:MapEntry},eU ρ σ xs es->e.born=b->VR ρ σ k e.key->VR ρ σ v e.val->eU ρ σ (xs++[(b,k,v)]) (es++[e])
 | [],es,b,k,v,e,h,h1,h2,h3=>by simp only[eU]at h;subst h;simp only[nil_append,eU];exact⟨e,[],rfl,h1,h2,h3,rfl⟩
 | (b',k',v')::xs,es,b,k,v,e,h,h1,h2,h3=>by simp only[eU]at h;obtain⟨e',es',rfl,g1,g2,g3,h⟩:=h;simp only[aa8,eU];exact⟨e',_,rfl,g1,g2,g3,eU.push h h1 h2 h3⟩
theorem uL {t:Nat} {x:XV}:∀{es:List (Nat×XV×XV)} {i j:Nat} {v:XV},eu P t x es i=some (some (j,v))->i<=j/\∃b k,es[j - i]?=some (b,k,v)/\dr x k=some true
 | [],_,_,_,h=>by simp[eu]at h
 | (b,k,v0)::es,i,j,v,h=>by
   simp only[eu]at h;split at h<;>(try (cases h;done))
   ·rename_i hq
    cases h;exact⟨u7 _,b,k,af,EB hq⟩
   obtain⟨h1,b',k',h2,h3⟩:=uL h;refine⟨aa,b',k',?_,h3⟩;rw[show j - i=(j - (i+1))+1 by omega];simpa using h2
theorem zF {x:XV} {k:XV} (hq:dr x k=some true) {old new:Value} (ho:VR ρ σ k old) (hn:VR ρ σ x new):(Instr.keyThatStays old new).run P w = .ok new w:=by have he:=tP hq;subst he;have:=(Ek hq ho hn).2;simp only[Instr.keyThatStays,this,if_true,aaA]
theorem wD (aQ:Ok ρ w σ M) {t:Nat} {m ix y:XV} {e:bZ} (h:dP P M t m ix y=some e) {u v yv:Value} (hu:VR ρ σ m u) (hv:VR ρ σ ix v) (hy:VR ρ σ y yv) :
 ∃w',(ado t u v yv).run P w = .ok () w'/\bz ρ w σ M key e.val (aY M e.upd) undef w':=by
 unfold dP at h;split at h<;>(try (cases h;done))
 rename_i kt el n Eb;split at h<;>(try (cases h;done))
 rename_i es clock hk hm;obtain⟨b,room,es',hs,rfl,hh,dZ⟩:=pL aQ hm hu;have hb:b<w.heap.size:=(aaY.1 hh).1;have hc:=kj (P:=P) (w:=w) hk hv false;split at h<;>(try (cases h;done))<;>rename_i hf<;>cases h<;>obtain⟨r',f1,f2⟩:=lM (P:=P) (w:=w) hk hv hf dZ
 ·rename_i j y0
  obtain⟨y0v,rfl,_,f3,e0,f4,f5⟩:=f2;obtain⟨_,bo,k,g1,g2⟩:=uL hf;simp only[adl]at g1 f4;obtain⟨e1,q1,q2,q3,q4⟩:=dZ.get g1;rw[f4]at q1;cases q1;have bw:=zF (P:=P) (w:=w) g2 q3 hv;have dz:((es'[j]?).map (·.key)).getD v=e0.key:=by rw[<-aaQ,f4];rfl
  obtain⟨t1,t2⟩:=ic (w:=w) (.map (es'.modify j fun e=>{ e with key:=v,val:=yv }) clock) hb;refine⟨_,?_,bz.turned aQ hm rfl hs t1 ⟨_,t2,?_⟩ (by simp only[VR])⟩
  ·simp only[ado,aav,av Eb,aar,dF hh,hc,f1,dz,bw]
   exact jJ hh _
  rw[acT];refine dZ.set fun b' k' v0 e q1 q2=>?_
  rw[g1]at q1;cases q1;rw[f4]at q2;cases q2;have:=tP g2;subst this;exact⟨by assumption,hv,hy⟩
 simp only[qu]at f2;subst f2;obtain⟨t1,t2⟩:=ic (w:=w) (.map (es'.push { key:=v,val:=yv,born:=clock }) (clock+1)) hb;refine⟨_,?_,bz.turned aQ hm rfl hs t1 ⟨_,t2,?_⟩ (by simp only[VR])⟩
 ·simp only[ado,aav,av Eb,aar,dF hh,hc,f1]
  exact jJ hh _
 rw[Array.toList_push];exact dZ.push rfl hv hy
theorem FF (aQ:Ok ρ w σ M) {t:Nat} {m ix:XV} {e:bZ} (h:ee P M t m ix=some e) {u v:Value} (hu:VR ρ σ m u) (hv:VR ρ σ ix v) :
 ∃r w',(adw t u v).run P w = .ok r w'/\bz ρ w σ M key e.val (aY M e.upd) r w':=by
 unfold ee at h;split at h<;>(try (cases h;done))
 rename_i kt el n Eb;split at h<;>(try (cases h;done))
 rename_i es clock zr0 hk hm hz;obtain⟨b,room,es',hs,rfl,hh,dZ⟩:=pL aQ hm hu;have hb:b<w.heap.size:=(aaY.1 hh).1;have hc:=kj (P:=P) (w:=w) hk hv false;obtain⟨zv,vj,RU⟩:=DK (ρ:=ρ) (σ:=σ) hz w;split at h<;>(try (cases h;done))<;>rename_i hf<;>obtain⟨r',f1,f2⟩:=lM (P:=P) (w:=w) hk hv hf dZ
 ·rename_i j y0
  split at h<;>(try (cases h;done))
  rename_i bo' k0 v0 hj;cases h;obtain⟨y0v,rfl,_,f3,e0,f4,f5⟩:=f2;obtain⟨_,bo,k,g1,g2⟩:=uL hf;simp only[adl]at g1 f4;rw[g1]at hj;cases hj;obtain⟨e1,q1,q2,q3,q4⟩:=dZ.get g1;rw[f4]at q1;cases q1;have bw:=zF (P:=P) (w:=w) g2 q3 hv;have dz:((es'[j]?).map (·.key)).getD v=e0.key:=by rw[<-aaQ,f4];rfl
  have FX:(((es'[j]?).map (fun x=>(x.born:Int))).getD 0)=(bo':Int):=by rw[<-aaQ,f4];exact congrArg Nat.cast q2
  obtain⟨t1,t2⟩:=ic (w:=w) (.map (es'.modify j fun e=>{ e with key:=v }) clock) hb;refine⟨.tuple #[y0v,goInt bo'],_,?_,bz.turned aQ hm rfl hs t1 ⟨_,t2,?_⟩ ?_⟩
  ·simp only[adw,aav,av Eb,aar,dF hh,hc,f1,dz,bw,FX]
   rw[jJ hh _];rfl
  ·rw[acT]
   refine dZ.set fun b' k' v0 e q1 q2=>?_
   rw[g1]at q1;cases q1;rw[f4]at q2;cases q2;have:=tP g2;subst this;exact⟨by assumption,hv,by rw[<-f5]at f3;exact f3⟩
  simp only[VR];exact⟨_,rfl,by simp only[c_,VR,goInt];exact⟨y0v,_,rfl,f3,_,[],rfl,rfl,rfl⟩⟩
 cases h;simp only[qu]at f2;subst f2;obtain⟨t1,t2⟩:=ic (w:=w) (.map (es'.push { key:=v,val:=zv,born:=clock }) (clock+1)) hb;refine⟨.tuple #[zv,goInt clock],_,?_,bz.turned aQ hm rfl hs t1 ⟨_,t2,?_⟩ ?_⟩
 ·simp only[adw,aav,av Eb,aar,dF hh,hc,f1,vj]
  rw[jJ hh _];rfl
 ·rw[Array.toList_push]
  exact dZ.push rfl hv RU
 simp only[VR];exact⟨_,rfl,by simp only[c_,VR,goInt];exact⟨zv,_,rfl,RU,_,[],rfl,rfl,rfl⟩⟩
theorem Dr {b:Nat}:∀{es:List (Nat×XV×XV)} {es':List MapEntry} {i j:Nat},r_ b es i=some j->eU ρ σ es es'->i<=j/\es'.findIdx? (fun e=>((e.born:Nat):Int)==((b:Nat):Int))=some (j - i)
 | [],_,_,_,h,_=>by simp[r_]at h
 | (b',k,v)::es,es',i,j,h,he=>by
   simp only[eU]at he;obtain⟨e,es',rfl,h1,h2,h3,he⟩:=he;simp only[r_]at h;split at h
   ·rename_i hb
    have hb:=aaB hb;cases h;refine⟨u7 _,?_⟩;simp[findIdx?_cons,h1,hb]
   rename_i hb;obtain⟨g1,g2⟩:=Dr h he;refine⟨aa,?_⟩;have cf:¬ b'=b:=fun e=>by rw[e]at hb;simp at hb
   rw[findIdx?_cons];have:(((e.born:Nat):Int)==((b:Nat):Int))=false:=by simp only[h1,beq_eq_false_iff_ne,ne_eq];omega
   rw[this,g2];simp only[aay,if_false,adb,aat];omega
theorem Iq (aQ:Ok ρ w σ M) {t:Nat} {m st y:XV} {e:bZ} (h:fY M m st y=some e) {u v yv:Value} (hu:VR ρ σ m u) (hv:VR ρ σ st v) (hy:VR ρ σ y yv) :
 ∃w',(Instr.entryStore t u v yv).run P w = .ok () w'/\bz ρ w σ M key e.val (aY M e.upd) undef w':=by
 unfold fY at h;split at h<;>(try (cases h;done))
 rename_i n k b;split at h<;>(try (cases h;done))
 rename_i es clock hm;split at h<;>(try (cases h;done))
 rename_i i hi;cases h;obtain⟨bl,room,es',hs,rfl,hh,dZ⟩:=pL aQ hm hu;have hb:bl<w.heap.size:=(aaY.1 hh).1;simp only[VR]at hv;subst hv;obtain⟨_,g2⟩:=Dr hi dZ;simp only[adl]at g2;have RH:es'.findIdx? (fun e=>((e.born:Nat):Int)==Int.ofNat b)=some i:=by have e:=findIdx?_toArray (p:=fun e:MapEntry=>((e.born:Nat):Int)==Int.ofNat b) (l:=es'.toList);rw[Array.toArray_toList]at e;rw[e];exact g2
 obtain⟨t1,t2⟩:=ic (w:=w) (.map (es'.modify i fun e=>{ e with val:=yv }) clock) hb;refine⟨_,?_,bz.turned aQ hm rfl hs t1 ⟨_,t2,?_⟩ (by simp only[VR])⟩
 ·simp only[Instr.entryStore,aav,dF hh,aar,asInt,asIntOf,aaA,RH]
  exact jJ hh _
 rw[acT];refine dZ.set fun b' k' v0 e q1 q2=>?_
 obtain⟨e1,r1,r2,r3,r4⟩:=dZ.get q1;rw[q2]at r1;cases r1;exact⟨r2,r3,hy⟩
end
section
variable {P:Program} {o:Oper} {a:Act} {w w':World} {ρ:aK} {σ:cb} {M:Hp} {key:Nat} {env:eX} {Γ:cc}
theorem bz.new (aQ:Ok ρ w σ M) (ce:σ key=none) {x:Obj} {y:bx} {val:XV} {v:Value} (hy:∀w':World,w'.heap[w.heap.size]?=some x->OR ρ w' (σ.upd key (w.heap.size,0)) (w.heap.size,0) y) (hv:VR ρ (σ.upd key (w.heap.size,0)) val v) :
 bz ρ w σ M key val (aG M key y) v (w.alloc x):=by
 have fC:qp w (w.alloc x) x:=⟨rfl,rfl,rfl,rfl⟩;exact bz.alloc aQ ce fC (room:=0) (N:=M) (fun _=>.inl rfl) (hy _ fC.new) hv
theorem BC (aQ:Ok ρ w σ M) (ce:σ key=none) {t:Nat} {r:Option Value} (hr:∀v,r=some v->∃k n,v = .int k n) (ht:r=none\/∃a b,P.underlying t=some (.map a b)) :
 ∃v w',(adF t r).run P w = .ok v w'/\bz ρ w σ M key (.mm key) (aG M key (.map [] 0)) v w':=by
 refine⟨.map (some w.heap.size),w.alloc (.map #[] 0),?_,bz.new aQ ce (fun w' h=>⟨#[],h,by simp only[eU]⟩) ?_⟩
 ·cases r with
  | none=>simp[adF]
  | some v =>
    obtain⟨k,n,rfl⟩:=hr v rfl;obtain⟨a,b,hu⟩:=ht.resolve_left af;simp[adF,av hu,asInt,asIntOf]
 simp only[VR];exact⟨_,_,cb.upd_same ..,rfl⟩
theorem GW (aQ:Ok ρ w σ M) (ce:σ key=none) {t:Nat} {x:XV} {e:bZ} (h:me P M key t x=some e) {u:Value} (hu:VR ρ σ x u) :
 ∃r w',(ad2 t u).run P w = .ok r w'/\bz ρ w σ M key e.val (aY M e.upd) r w':=by
 unfold me at h;split at h<;>(try (cases h;done))
 ·rename_i Eb
  cases h;simp only[VR]at hu;subst hu;refine⟨.pointer (some ⟨w.heap.size,0,none⟩),w.alloc (.mapIter none 0 #[] 0),?_,bz.new aQ ce (fun w' h=>⟨_,_,_,h⟩) ?_⟩;·simp[ad2,av Eb]
  simp only[VR];exact⟨_,_,cb.upd_same ..,rfl⟩
 rename_i n Eb;split at h<;>(try (cases h;done))
 rename_i es clock hm;cases h;obtain⟨b,room,es',hs,rfl,hh,dZ⟩:=pL aQ hm hu;refine⟨.pointer (some ⟨w.heap.size,0,none⟩),w.alloc (.mapIter (some b) clock #[] clock),?_,bz.new aQ ce (fun w' h=>⟨(b,room),cb.upd_sub ce _ _ _ hs,h⟩) ?_⟩;·simp[ad2,av Eb,dF hh]
 simp only[VR];exact⟨_,_,cb.upd_same ..,rfl⟩
theorem C7 {seen:List Nat}:∀{es:List (Nat×XV×XV)} {es':List MapEntry},eU ρ σ es es'->eU ρ σ (nz seen es) (es'.filter fun e=>!seen.contains e.born)
 | [],es',h=>by simp only[eU]at h;subst h;simp[nz,eU]
 | (b,k,v)::es,es',h=>by
   simp only[eU]at h;obtain⟨e,es',rfl,h1,h2,h3,h⟩:=h;have ih:=C7 (seen:=seen) h;have hc:db seen b=seen.contains e.born:=by
    rw[h1];have:∀l:List Nat,db l b=l.contains b:=by
     intro l
     induction l with
     | nil=>rfl
     | cons x l ih =>
       simp only[db,contains_cons];cases hx:aaW x b with
       | true=>have:=aaB hx;subst this;simp
       | false =>
         have:(b==x)=false:=by rw[beq_eq_false_iff_ne];rintro rfl;simp at hx
         rw[this,ih];rfl
    exact this seen
   simp only[nz,hc,filter_cons];cases DZ:seen.contains e.born with
   | true=>simpa using ih
   | false =>
     simp only[adC,if_true,eU];exact⟨e,_,rfl,h1,h2,h3,ih⟩
theorem At {p:Nat->Bool}:∀{es:List (Nat×XV×XV)} {es':List MapEntry},eU ρ σ es es'->es.all (fun e=>p e.1)=es'.all fun e=>p e.born
 | [],es',h=>by simp only[eU]at h;subst h;rfl
 | (b,k,v)::es,es',h=>by simp only[eU]at h;obtain⟨e,es',rfl,h1,h2,h3,h⟩:=h;simp only[all_cons,At h,h1]
theorem sL (n:Nat) (hn:0<n) (w:World):∃k w1,(choose (.mapNext n)).run P w = .ok k w1/\k<n/\w1.heap=w.heap/\w1.os=w.os/\w1.tape=w.tape/\w1.output=w.output:=by
 by_cases h:n<=1
 ·refine⟨0,w,?_,hn,rfl,rfl,rfl,rfl⟩
  have hf:(ac0 n).forced=true:=by simp[acD,h]
  simp[choose,ab9,hf]
 refine⟨w.tape w.drawn (.mapNext n) % n,{ w with drawn:=w.drawn+1 },?_,mod_lt _ hn,rfl,rfl,rfl,rfl⟩;have hf:(ac0 n).forced=false:=by simp[acD,h]
 simp[choose,ab9,hf,Question.cut]
theorem bz.heap {w1:World} (h1:w1.heap=w.heap) (h2:w1.os=w.os) (h3:w1.tape=w.tape) (h4:w1.output=w.output) {val:XV} {v:Value} {N:Hp} (h:bz ρ w1 σ M key val N v w'):bz ρ w σ M key val N v w':=by obtain⟨σ',g1,g2,g3,g4⟩:=h;exact⟨σ',g1,g2,⟨g3.os.trans h2,g3.tape.trans h3,g3.output.trans h4,by rw[<-h1];exact g3.size,fun b hb hn=>by rw[<-h1]at hb ⊢;exact g3.blk b hb hn,fun b hb=>by rw[<-h1];exact g3.own b hb,g3.sig,fun b hb=>by rw[<-h1];exact g3.held b hb⟩,g4⟩
theorem Ok.heap {w1:World} (h1:w1.heap=w.heap) (h:Ok ρ w σ M):Ok ρ w1 σ M :=
 ⟨fun k o hk=>by obtain⟨p,hp,ho⟩:=h.obj k o hk;exact⟨p,hp,OR.mono (fun _ _ h=>h) (by rw[h1]) ho⟩,h.inj,fun b x hb=>by rw[h1];exact h.fix b x hb⟩
theorem DE (aQ:Ok ρ w σ M) {x:XV} {L:List bZ} (h:wE M x=some L) {ty:TypeId} {u:Value} (hu:VR ρ σ x u) :
 ∃e ∈ L,∃r w',(ac2 u false ty).run P w = .ok r w'/\bz ρ w σ M key e.val (aY M e.upd) r w':=by
 unfold wE at h;split at h<;>(try (cases h;done))
 rename_i r;simp only[VR]at hu;obtain⟨b,room,hs,rfl⟩:=hu;split at h<;>(try (cases h;done))
 ·rename_i hm
  cases h;obtain⟨p,hp,a1,a2,a3,hh⟩:=aQ.obj r _ hm;rw[hs]at hp;cases hp;refine⟨_,aaE.2 rfl,.tuple #[.bool false],w,?_,.same aQ ?_⟩;·simp[ac2,getObj,ab9,hh]
  simp only[VR,c_];exact⟨_,rfl,.bool false,[],rfl,rfl,rfl⟩
 rename_i m since seen st hm;split at h<;>(try (cases h;done))
 rename_i es clock vY;split at h<;>(try (cases h;done))
 rename_i h1 h2 h3;have h2:=aaD h2;have h3:=aaD h3;obtain⟨p,hp,q,hq,hh⟩:=aQ.obj r _ hm;rw[hs]at hp;cases hp;simp only at hh;obtain⟨q2,R4,es',Zt,dZ⟩:=aQ.obj m _ vY;rw[hq]at R4;cases R4;have hb:b<w.heap.size:=(aaY.1 hh).1;have Ud:es'.toList.all (fun e=>abc e.born since)=true:=by rw[<-At (p:=fun b=>abc b since) dZ];exact h1
 have dy:∀e ∈ es'.toList,e.born<since:=fun e he=>by
  have:=aa4.1 Ud e he
  rwa [abD]at this
 have xl:=C7 (seen:=seen) dZ;generalize hL:(es'.toList.filter fun e=>!seen.contains e.born)=left at xl;have Zq:(getObj b).run P w = .ok (.mapIter (some q.1) since seen.toArray st) w:=by simp[getObj,ab9,hh]
 have Zr:(getObj q.1).run P w = .ok (.map es' clock) w:=dF Zt;have Bc:(!seen.toArray.isEmpty && !es'.isEmpty&&es'.all fun e=>decide (e.born>=st))=false:=by
  cases he:es'.isEmpty with
  | true=>simp
  | false =>
    have:(es'.all fun e=>decide (e.born>=st))=false:=by
     rw[<-Array.all_toList];cases hl:es'.toList with
     | nil=>simp[Array.isEmpty,<-aa2,hl]at he
     | cons e l =>
       have:=dy e (by rw[hl];exact aaC);simp only[all_cons,acf,decide_eq_false_iff_not];left;omega
    rw[this];simp
 have dz:((es'.filter fun e=>!seen.toArray.contains e.born).filter fun e=>decide (e.born<since))=left.toArray:=by
  apply abz;rw[ach,ach];have e1:(es'.toList.filter fun e=>!seen.toArray.contains e.born)=left:=by rw[<-hL];congr 1;funext e;simp
  rw[e1];simp only[filter_eq_self,decide_eq_true_eq];intro e he;rw[<-hL]at he;exact dy e (mem_filter.1 he).1
 have mO:((es'.filter fun e=>!seen.toArray.contains e.born).filter fun e=>decide (e.born>=since)) = #[]:=by apply abz;rw[ach,ach];simp only[filter_eq_nil_iff,decide_eq_true_eq];intro e he;have:=dy e (mem_filter.1 he).1;omega
 have VK:∀{s:Sem Value},s=ac2 (.pointer (some ⟨b,0,none⟩)) false ty->s.run P w=(((choose (ac0 ((if left.toArray.isEmpty=true then #[none] else #[])++adR some (left.toArray ++ #[]):Array (Option MapEntry)).size)).run P w).andThen fun a w' =>
  ab9 P
   (match ((if left.toArray.isEmpty=true then #[none] else #[])++adR some (left.toArray ++ #[]):Array (Option MapEntry))[a]? with
   | some (some e)=>do
     setObj b (Obj.mapIter (some q.fst) since (seen.toArray.push e.born) clock)
     pure (Value.tuple #[ab4 true,e.key,e.val])
   | some none=>pure (Value.tuple #[ab4 false])
   | none=>stuck "Next: no such candidate") w'):=by
  rintro s rfl;simp only[ac2,aav,Zq,Zr,aar,Bc,aay,if_false,dz,mO,aaA];rfl
 split at h
 ·rename_i jT
  cases h;rw[jT]at xl;simp only[eU]at xl;subst xl;refine⟨_,aaE.2 rfl,.tuple #[.bool false],w,?_,.same aQ ?_⟩
  ·rw[VK rfl]
   simp[choose,ab9,acD]
  simp only[VR,c_];exact⟨_,rfl,.bool false,[],rfl,rfl,rfl⟩
 rename_i l cf;cases h;have qz:=xl.length;have iu:0<left.length:=by
  rcases eq_zero_or_pos left.length with h0 | h0
  ·have:nz seen es=[]:=abk aa
   exact(cf this).elim
  exact h0
 have Zj:left.toArray.isEmpty=false:=by
  simp only[isEmpty_toArray];cases left with
  | nil=>simp at iu
  | cons _ _=>rfl
 obtain⟨k,w1,c1,c2,c3,c4,c5,c6⟩:=sL (P:=P) left.length iu w;have hxk:k<(nz seen es).length:=aa;obtain⟨⟨bo,kx,vx⟩,hx⟩:∃x,(nz seen es)[k]?=some x:=⟨_,aaR hxk⟩;obtain⟨e,q1,q2,q3,q4⟩:=xl.get hx;have Ua:b<w1.heap.size:=by rw[c3];exact hb
 obtain⟨t1,t2⟩:=ic (w:=w1) (.mapIter (some q.1) since (seen.toArray.push e.born) clock) Ua;refine⟨_,mem_map.2 ⟨_,mem_of_getElem? hx,rfl⟩,.tuple #[.bool true,e.key,e.val],_,?_,bz.heap c3 c4 c5 c6 (bz.turned (aQ.heap c3) hm rfl hs t1 ⟨q,hq,?_⟩ ?_)⟩
 ·rw[VK rfl,Zj]
  have cJ:((#[]:Array (Option MapEntry))++adR some (left.toArray ++ #[])).size=left.length:=af;simp only[aay,if_false,cJ,c1,aar];have hgk:((#[]:Array (Option MapEntry))++adR some (left.toArray ++ #[]))[k]?=some (some e):=by simp[q1]
  simp only[hgk,aav];have JJ:(setObj b (.mapIter (some q.1) since (seen.toArray.push e.born) clock)).run P w1 = .ok () { w1 with heap:=w1.heap.setIfInBounds b (.mapIter (some q.1) since (seen.toArray.push e.born) clock) }:=by simp[setObj,ab9,c3,hh]
  rw[JJ];rfl
 ·simp only
  rw[t2,q2];simp
 simp only[VR,c_];exact⟨_,rfl,.bool true,_,rfl,rfl,e.key,_,rfl,q3,e.val,[],rfl,q4,rfl⟩
theorem AN:∀l:List Nat,zH l=l.getLast?
 | []=>rfl
 | [b]=>rfl
 | a::b::bs=>by simp only[zH,AN (b::bs)];simp
theorem AF {b:Nat}:∀{es:List (Nat×XV×XV)} {es':List MapEntry} {k v:XV},eU ρ σ es es'->Dz b es=some (k,v)->∃e,es'.find? (fun e=>e.born==b)=some e/\VR ρ σ k e.key/\VR ρ σ v e.val
 | [],_,_,_,_,h=>by simp[Dz]at h
 | (b',k',v')::es,es',k,v,hm,h=>by
   simp only[eU]at hm;obtain⟨e,es',rfl,h1,h2,h3,hm⟩:=hm;simp only[Dz]at h;split at h
   ·rename_i hb
    cases h;have:=aaB hb;subst this;exact⟨e,by simp[find?_cons,h1],h2,h3⟩
   rename_i hb;obtain⟨e',g1,g2⟩:=AF hm h;refine⟨e',?_,g2⟩;have cf:(e.born==b)=false:=by rw[beq_eq_false_iff_ne,h1];rintro rfl;simp at hb
   simp[find?_cons,cf,g1]
theorem GJ (aQ:Ok ρ w σ M) {x:XV} {e:bZ} (h:i7 M x=some e) {u:Value} (hu:VR ρ σ x u) :
 ∃r,(Instr.entry u).run P w = .ok r w/\bz ρ w σ M key e.val (aY M e.upd) r w:=by
 unfold i7 at h;split at h<;>(try (cases h;done))
 rename_i r;simp only[VR]at hu;obtain⟨b,room,hs,rfl⟩:=hu;split at h<;>(try (cases h;done))
 rename_i m since seen st hm;split at h<;>(try (cases h;done))
 rename_i es clock vY;split at h<;>(try (cases h;done))
 rename_i bo FX cF;split at h<;>(try (cases h;done))
 rename_i k v hf;cases h;obtain⟨p,hp,q,hq,hh⟩:=aQ.obj r _ hm;rw[hs]at hp;cases hp;simp only at hh;obtain⟨q2,R4,es',Zt,dZ⟩:=aQ.obj m _ vY;rw[hq]at R4;cases R4;obtain⟨e,f1,f2,f3⟩:=AF dZ hf;have hc:=aaB cF;subst hc;rw[AN]at FX;have rA:seen.toArray.back?=some bo:=by simp[FX]
 have f1':es'.find? (fun e=>e.born==bo)=some e:=by rw[<-Array.find?_toList];exact f1
 refine⟨.tuple #[e.key,e.val],?_,.same aQ ?_⟩
 ·have Zq:(getObj b).run P w = .ok (.mapIter (some q.1) since seen.toArray clock) w:=by simp[getObj,ab9,hh]
  have Zr:(getObj q.1).run P w = .ok (.map es' clock) w:=dF Zt;simp only[Instr.entry,aav,Zq,aar,rA,Zr,bne_self_eq_false,aay,if_false,f1',aaA]
 simp only[VR,c_];exact⟨_,rfl,e.key,_,rfl,f2,e.val,[],rfl,f3,rfl⟩
end
section
variable {P:Program} {o:Oper} {a:Act} {w w':World} {ρ:aK} {σ:cb} {M:Hp} {key:Nat} {env:eX} {Γ:cc}
theorem gv.pure (aQ:Ok ρ w σ M) {s:Sem Value} {r:Value} {val:XV} (hs:(execOp a.eval o).run P w=((s >>= fun v=>Pure.pure (Next.value v)):Sem Next).run P w) (hr:s.run P w = .ok r w) (hv:VR ρ σ val r) :
 gv P o a w fun v w'=>bz ρ w σ M key val M v w':=gv.made hs hr (.same aQ hv)
theorem bZ.pure_eq {v:XV} {e:bZ} (h:bZ.pure v=some e):e=⟨v,[],[]⟩:=by simpa [bZ.pure] using h.symm
theorem IS {x:XV} (h:zU x=true) {v:Value} (hv:VR ρ σ x v) (df:∃y,o.op = .nilCheck y/\a.eval y=v):(execOp a.eval o).run P w = .ok (.value v) w:=by
 obtain⟨y,h1,h2⟩:=df;simp only[execOp,h1,h2];unfold zU at h;split at h<;>(try (cases h;done))<;>simp only[VR]at hv
 ·obtain⟨_,_,_,rfl⟩:=hv;rfl
 ·obtain⟨_,_,_,_,_,rfl,_⟩:=hv;rfl
 ·obtain⟨_,_,_,rfl⟩:=hv;rfl
 ·obtain⟨_,rfl,_⟩:=hv;rfl
 ·obtain⟨_,_,rfl,_⟩:=hv;rfl
 obtain⟨_,_,rfl,_⟩:=hv;rfl
theorem nT (bI:fX ρ σ env a.tmps) {x:Option Operand}:(∀q,rN env x=some q->∃u,x.map a.eval=some u/\VR ρ σ q u)/\(rN env x=none->x.map a.eval=none):=by
 cases x with
 | none=>exact⟨(fun q h=>by cases h),(fun _=>rfl)⟩
 | some x=>exact⟨(fun q h=>by cases h;exact⟨_,rfl,bf bI x⟩),(fun h=>by cases h)⟩
theorem p_ (M:Hp):aY M []=M:=rfl
theorem BA (hΓ:∀i op c b k,Γ i op c=some b->bj op k (ρ i) k c=some (.bool b)) (aQ:Ok ρ w σ M) (bI:fX ρ σ env a.tmps) (ce:σ key=none) {e:bZ} (h:cY P Γ env M key o.op=some e) :
 gv P o a w fun v w'=>bz ρ w σ M key e.val (aY M e.upd) v w':=by
 unfold cY at h;split at h<;>(try (cases h;done))<;>rename_i df
 ·rename_i x
  obtain rfl:=bZ.pure_eq h;exact .value (by simp only[execOp,df];rfl) (.same aQ (bf bI x))
 ·rename_i x
  obtain rfl:=bZ.pure_eq h;exact .value (by simp only[execOp,df];rfl) (.same aQ (bf bI x))
 ·rename_i c x y
  have hc:=bf bI c;split at h<;>(try (cases h;done))<;>rename_i Zf<;>obtain rfl:=bZ.pure_eq h<;>rw[Zf]at hc<;>simp only[VR]at hc
  ·exact .value (v:=a.eval x) (w':=w) (by simp only[execOp,df,hc,asBool];rfl) (.same aQ (bf bI x))
  exact .value (v:=a.eval y) (w':=w) (by simp only[execOp,df,hc,asBool];rfl) (.same aQ (bf bI y))
 ·rename_i t
  split at h<;>(try (cases h;done))
  rename_i zs hz;cases h;obtain⟨r,w',h1,h2⟩:=IN (P:=P) aQ ce hz;exact .made (by simp only[execOp,df]) h1 h2
 ·rename_i t x
  split at h<;>(try (cases h;done))
  rename_i hp;cases h;obtain⟨r,w',h1,h2⟩:=Ph (P:=P) (t:=t) aQ ce hp (bf bI x);exact .made (by simp only[execOp,df]) h1 h2
 ·rename_i t ps
  split at h<;>(try (cases h;done))
  rename_i v hv;obtain rfl:=bZ.pure_eq h;obtain⟨p1,p2⟩:=um bI ps.toList;obtain⟨r,h1,h2⟩:=Hi (w:=w) hv p1 p2;refine gv.pure aQ (s:=acS t (ps.map fun(i,x)=>(i,a.eval x))) (by simp only[execOp,df]) ?_ h2;exact(congrArg (fun z=>ab9 P (acS t z) w) (by apply abz;simp)).trans h1
 ·rename_i t len ps
  obtain⟨p1,p2⟩:=um bI ps.toList;obtain⟨r,w',h1,h2⟩:=vp (P:=P) aQ ce h p1 p2;refine .made (s:=acb t len (ps.map fun(i,x)=>(i,a.eval x))) (by simp only[execOp,df]) ?_ h2;exact(congrArg (fun z=>ab9 P (acb t len z) w) (by apply abz;simp)).trans h1
 ·rename_i t x
  obtain⟨r,h1,h2,h3⟩:=Ay (P:=P) aQ h (bf bI x);rw[h3,p_];exact gv.pure aQ (by simp only[execOp,df]) h1 h2
 ·rename_i t x y
  obtain⟨w',h1,h2⟩:=Fy (P:=P) (key:=key) aQ h (bf bI x) (bf bI y);refine .skip (w':=w') ?_ h2;simp only[execOp,df,aav,h1,aar,aaA]
 ·rename_i x
  split at h<;>(try (cases h;done))
  rename_i hn;obtain rfl:=bZ.pure_eq h;exact .value (IS hn (bf bI x) ⟨x,df,rfl⟩) (.same aQ (bf bI x))
 ·rename_i op t x y t'
  split at h<;>(try (cases h;done))
  rename_i v hv;obtain rfl:=bZ.pure_eq h;obtain⟨r,h1,h2⟩:=LK (w:=w) hΓ op t x y _ _ v _ _ hv (bf bI x) (bf bI y);exact gv.pure aQ (by simp only[execOp,df]) h1 h2
 ·rename_i op t x
  split at h<;>(try (cases h;done))
  rename_i v hv;obtain rfl:=bZ.pure_eq h;obtain⟨r,h1,h2⟩:=O_ (P:=P) (w:=w) op _ v _ hv (bf bI x);exact gv.pure aQ (by simp only[execOp,df]) h1 h2
 ·rename_i s d x
  obtain⟨r,w',h1,h2⟩:=L9 (P:=P) aQ ce h (bf bI x);exact .made (by simp only[execOp,df]) h1 h2
 ·rename_i f first caps
  obtain rfl:=bZ.pure_eq h;refine gv.pure aQ (s:=Instr.makeFunc f (first.map a.eval) (caps.map a.eval)) (by simp only[execOp,df]) (r:=.func f (first.map a.eval) (caps.map a.eval)) rfl ?_;simp only[VR];exact⟨_,_,rfl,by simpa using nS bI first.toList,by simpa using nS bI caps.toList⟩
 ·rename_i t x
  split at h<;>(try (cases h;done))
  rename_i d hni hu;obtain rfl:=bZ.pure_eq h;refine gv.pure aQ (s:=ad3 t (a.eval x)) (by simp only[execOp,df]) (r:=.iface t (a.eval x)) ?_ ?_
  ·simp only[ad3,aav,av hu,aar]
   cases d<;>first | rfl | exact(hni _ rfl).elim
  simp only[VR];exact⟨_,rfl,bf bI x⟩
 ·rename_i t r
  have fin:∀{r:Option Operand},(∀v,r.map a.eval=some v->∃k n,v = .int k n)->(r.map a.eval=none\/∃x y,P.underlying t=some (.map x y))->o.op = .makeMap t r->e=⟨.mm key,[],[(key,some (.map [] 0))]⟩->gv P o a w fun v w'=>bz ρ w σ M key e.val (aY M e.upd) v w':=by rintro r g1 g2 df rfl;obtain⟨v,w',h1,h2⟩:=BC (P:=P) aQ ce g1 g2;exact .made (by simp only[execOp,df]) h1 h2
  split at h<;>(try (cases h;done))
  ·cases h
   exact fin (fun v h=>by cases h) (.inl rfl) df rfl
  rename_i x k el hu;split at h<;>(try (cases h;done))
  rename_i kk n hx;cases h;have hv:=bf bI x;rw[hx]at hv;simp only[VR]at hv;exact fin (fun v h=>by simp only[adb,aat]at h;exact⟨_,_,by rw[<-h,hv]⟩) (.inr ⟨_,_,hu⟩) df rfl
 ·rename_i t x y
  split at h<;>(try (cases h;done))
  rename_i l c hx hy;have h1:=bf bI x;have h2:=bf bI y;rw[hx]at h1;rw[hy]at h2;simp only[VR]at h1 h2;obtain⟨r,w',g1,g2⟩:=yl (P:=P) aQ ce h;exact .made (s:=acH t (a.eval x) (a.eval y)) (by simp only[execOp,df]) (by rw[h1,h2];exact g1) g2
 ·rename_i t x lo hi mx
  obtain⟨r,h1,h2,h3⟩:=H5 (P:=P) aQ h (bf bI x) (nT bI).1 (nT bI).2 (nT bI).1 (nT bI).2 (nT bI).1 (nT bI).2;rw[h3,p_];exact gv.pure aQ (by simp only[execOp,df]) h1 h2
 ·rename_i s x f
  split at h<;>(try (cases h;done))
  rename_i v hv;obtain rfl:=bZ.pure_eq h;obtain⟨r,h1,h2⟩:=ya (w:=w) hv (bf bI x);exact gv.pure aQ (by simp only[execOp,df]) h1 h2
 ·rename_i s x f
  split at h<;>(try (cases h;done))
  rename_i v hv;obtain rfl:=bZ.pure_eq h;obtain⟨r,h1,h2⟩:=Hc (w:=w) hv (bf bI x);exact gv.pure aQ (by simp only[execOp,df]) h1 h2
 ·rename_i t x y
  split at h<;>(try (cases h;done))
  rename_i v hv;obtain rfl:=bZ.pure_eq h;obtain⟨r,h1,h2⟩:=yk (w:=w) hv (bf bI x) (bf bI y);exact gv.pure aQ (by simp only[execOp,df]) h1 h2
 ·rename_i t x y
  split at h<;>(try (cases h;done))
  rename_i v hv;obtain rfl:=bZ.pure_eq h;obtain⟨r,h1,h2⟩:=GC (w:=w) hv (bf bI x) (bf bI y);exact gv.pure aQ (by simp only[execOp,df]) h1 h2
 ·rename_i t x y ok
  obtain⟨r,h1,h2,h3⟩:=Ff (P:=P) aQ h (bf bI x) (bf bI y);rw[h3,p_];exact gv.pure aQ (by simp only[execOp,df]) h1 h2
 ·rename_i t m k x
  obtain⟨w',h1,h2⟩:=wD (P:=P) (key:=key) aQ h (bf bI m) (bf bI k) (bf bI x);refine .skip (w':=w') ?_ h2;simp only[execOp,df,aav,h1,aar,aaA]
 ·rename_i t m k x
  obtain⟨w',h1,h2⟩:=wD (P:=P) (key:=key) aQ h (bf bI m) (bf bI k) (bf bI x);refine .skip (w':=w') ?_ h2;simp only[execOp,df,aav,h1,aar,aaA]
 ·rename_i t m k
  obtain⟨r,w',h1,h2⟩:=FF (P:=P) (key:=key) aQ h (bf bI m) (bf bI k);exact .made (by simp only[execOp,df]) h1 h2
 ·rename_i t m s x
  obtain⟨w',h1,h2⟩:=Iq (P:=P) (t:=t) (key:=key) aQ h (bf bI m) (bf bI s) (bf bI x);refine .skip (w':=w') ?_ h2;simp only[execOp,df,aav,h1,aar,aaA]
 ·rename_i t x
  obtain⟨r,w',h1,h2⟩:=GW (P:=P) aQ ce h (bf bI x);exact .made (by simp only[execOp,df]) h1 h2
 ·rename_i x
  obtain⟨r,h1,h2⟩:=GJ (P:=P) (key:=key) aQ h (bf bI x);exact .made (by simp only[execOp,df]) h1 h2
 ·rename_i x i
  split at h<;>(try (cases h;done))
  rename_i vs hx;split at h<;>(try (cases h;done))
  rename_i v hv;obtain rfl:=bZ.pure_eq h;have UU:=bf bI x;rw[hx]at UU;simp only[VR]at UU;obtain⟨us,j_,UU⟩:=UU;obtain⟨u,h1,h2⟩:=UU.get hv;have u9:us[i]?=some u:=by simpa using h1
  refine gv.pure aQ (s:=Instr.extract (a.eval x) i) (by simp only[execOp,df]) (r:=u) ?_ h2;simp only[j_,Instr.extract,u9,aaA]
 rename_i c;split at h<;>(try (cases h;done))
 rename_i b pw;have aX:=nS bI c.args.toList;have gy:∀(s:Sem Value),(∀cs,builtin b c.argTypes o.type cs (c.args.map a.eval)=(s >>= fun v=>Pure.pure (Next.value v))) ->
  (execOp a.eval o).run P w=((s >>= fun v=>Pure.pure (Next.value v)):Sem Next).run P w:=fun s hs=>by
  simp only[execOp,df,resolve,pw,pure_bind,invoke];exact congrArg (fun x=>ab9 P x w) (hs _)
 unfold fO at h;split at h<;>(try (cases h;done))
 ·rename_i t ts x CF hx
  rw[hx]at aX;simp only[c_]at aX;obtain⟨u,us',j_,hu,rfl⟩:=aX;obtain⟨r,h1,h2,h3⟩:=O0 (P:=P) aQ o.type h hu;rw[h3,p_];have hc:c.args.map a.eval = #[u]:=by apply abz;simpa using j_
  refine gv.pure aQ (gy (abX c.argTypes o.type (c.args.map a.eval)) fun _=>rfl) (r:=r) ?_ h2;rw[hc];have e1:c.argTypes[0]?=some t:=by rw[<-aaQ,CF];rfl
  simp only[abX,e1]at h1 ⊢;exact h1
 ·rename_i t t' s x CF hx
  split at h<;>(try (cases h;done))<;>rename_i hu'
  all_goals
   rw[hx]at aX;simp only[c_]at aX;obtain⟨u,us',j_,hu,v,us2,rfl,hv,rfl⟩:=aX;have hc:c.args.map a.eval = #[u,v]:=by apply abz;simpa using j_
   have ha:c.argTypes = #[t,t']:=by apply abz;simpa using CF
   obtain⟨r,w',h1,h2⟩:=ER (P:=P) aQ ce hu' (fun k h=>by cases h) o.type h hu hv;refine .made (gy (abR c.argTypes o.type (c.args.map a.eval)) fun _=>rfl) (r:=r) (w':=w') ?_ h2;rw[hc,ha];exact h1
 ·rename_i t ts d s CF hx
  rw[hx]at aX;simp only[c_]at aX;obtain⟨u,us',j_,hu,v,us2,rfl,hv,rfl⟩:=aX;have hc:c.args.map a.eval = #[u,v]:=by apply abz;simpa using j_
  obtain⟨r,w',h1,h2⟩:=La (P:=P) (key:=key) (t':=0) aQ o.type h hu hv;refine .made (gy (acv c.argTypes o.type (c.args.map a.eval)) fun _=>rfl) (r:=r) (w':=w') ?_ h2;rw[hc];have e1:c.argTypes[0]?=some t:=by rw[<-aaQ,CF];rfl
  simp only[acv,e1]at h1 ⊢;exact h1
 ·rename_i t ts d CF hx
  rw[hx]at aX;simp only[c_]at aX;obtain⟨u,us',j_,hu,rfl⟩:=aX;have hc:c.args.map a.eval = #[u]:=by apply abz;simpa using j_
  obtain⟨r,w',h1,h2⟩:=Jm (P:=P) (key:=key) aQ o.type h hu;refine .made (gy (ab3 c.argTypes o.type (c.args.map a.eval)) fun _=>rfl) (r:=r) (w':=w') ?_ h2;rw[hc];have e1:c.argTypes[0]?=some t:=by rw[<-aaQ,CF];rfl
  simp only[ab3,e1]at h1 ⊢;exact h1
 ·rename_i k n vs hx
  split at h<;>(try (cases h;done))
  rename_i m hm;obtain rfl:=bZ.pure_eq h;rw[hx]at aX;simp only[c_]at aX;obtain⟨u,us',j_,hu,hv⟩:=aX;simp only[VR]at hu;subst hu;refine gv.pure aQ (gy (Builtin.min_ c.argTypes o.type (c.args.map a.eval)) fun _=>rfl) (r:=.int k m) ?_ (by simp only[VR]);have hc:(c.args.map a.eval).toList = .int k n::us':=by simpa using j_
  simp only[Builtin.min_,hc];exact tu k vs us' n m hm hv
 rename_i k n vs hx;split at h<;>(try (cases h;done))
 rename_i m hm;obtain rfl:=bZ.pure_eq h;rw[hx]at aX;simp only[c_]at aX;obtain⟨u,us',j_,hu,hv⟩:=aX;simp only[VR]at hu;subst hu;refine gv.pure aQ (gy (Builtin.max_ c.argTypes o.type (c.args.map a.eval)) fun _=>rfl) (r:=.int k m) ?_ (by simp only[VR]);have hc:(c.args.map a.eval).toList = .int k n::us':=by simpa using j_
 simp only[Builtin.max_,hc];exact tq k vs us' n m hm hv
end
section
variable {P:Program} {M N:Hp} {key:Nat} {env be:eX} {Γ:cc}
def du (M N:Hp) (l:List Nat):Prop:=∀k ∈ l,gG N k=gG M k
theorem du.row {l:List Nat} (h:du M N l) {n:Nat} (hn:n ∈ l):bA N n=bA M n:=by simp only[bA,h n hn]
theorem du.rd {l:List Nat} (h:du M N l) {n:Nat} (hn:n ∈ l):vR N n=vR M n:=by simp only[vR,h n hn]
theorem du.of {l l':List Nat} (h:du M N l) (hl:∀k ∈ l',k ∈ l):du M N l':=fun k hk=>h k (hl k hk)
theorem ED {t:Nat} {x:XV} {e:bZ} (h:b_ P M t x=some e) (hN:du M N e.rd):b_ P N t x=some e:=by
 unfold b_ at h ⊢;split at h<;>(try (cases h;done))
 split at h<;>(try (cases h;done))
 rename_i cs hm;split at h<;>(try (cases h;done))
 rename_i v hv;cases h;rw[hN.rd af,hm];simp only[hv]
theorem B0 {t:Nat} {x y:XV} {e:bZ} (h:jG P M t x y=some e) (hN:du M N e.rd):jG P N t x y=some e:=by
 unfold jG at h ⊢;split at h<;>(try (cases h;done))
 split at h<;>(try (cases h;done))
 rename_i cs sz hm cJ;split at h<;>(try (cases h;done))
 rename_i h1 h2 h3;cases h;rw[hN.row af,hm,cJ];simp only[h1,h2,h3]
theorem jP {sz:Nat} {x:XV} {r:List XV×Nat×List Nat} (h:ij M sz x=some r) (hN:du M N r.2.2):ij N sz x=some r:=by
 unfold ij at h ⊢;split at h<;>(try (cases h;done))
 ·cases h;rfl
 ·split at h<;>(try (cases h;done))
  rename_i cs hm he;split at h<;>(try (cases h;done))
  rename_i hl;cases h;rw[hN.rd af,hm,he];simp only[hl]
 exact h
theorem rW {t:Nat} {s x:XV} {e:bZ} (h:gK P M key t s x=some e) (hN:du M N e.rd):gK P N key t s x=some e:=by
 unfold gK at h ⊢;split at h<;>(try (cases h;done))
 split at h<;>(try (cases h;done))
 split at h<;>(try (cases h;done))
 rename_i ys n r h1 h2 h3 fF;split at h<;>(try (cases h;done))
 ·rename_i g1 g2
  have hr:e.rd=r:=by
   cases n with
   | zero=>simp only[aat]at h;subst h;rfl
   | succ n=>simp only[aat]at h;subst h;rfl
  have:=jP fF (by rw[hr]at hN;exact hN);simp only[h1,h2,h3,this,g1,g2];exact h
 rename_i k esz off len cap g1 g2;split at h<;>(try (cases h;done))
 rename_i rows hm he;have hk:k ∈ e.rd/\∀j ∈ r,j ∈ e.rd:=by
  split at h
  ·split at h<;>(try (cases h;done))
   cases h;exact⟨aaC,fun j hj=>aaJ _ hj⟩
  split at h<;>(try (cases h;done))
  cases h;exact⟨aaC,fun j hj=>aaJ _ hj⟩
 have:=jP fF (hN.of hk.2);simp only[h1,h2,h3,this,g1,g2,hN.row hk.1,hm,he];exact h
theorem E7 {t:Nat} {d s:XV} {e:bZ} (h:we P M t d s=some e) (hN:du M N e.rd):we P N t d s=some e:=by
 unfold we at h ⊢;split at h<;>(try (cases h;done))
 split at h<;>(try (cases h;done))
 split at h<;>(try (cases h;done))
 rename_i ys n r fF;split at h<;>(try (cases h;done))
 ·cases h
  simp only[jP fF hN]
 rename_i k esz off len cap;split at h<;>(try (cases h;done))
 rename_i rows hm he;split at h<;>(try (cases h;done))
 rename_i g1 g2;cases h;simp only[jP fF (hN.of fun j hj=>aaJ _ hj),hN.row aaC,hm,he,g1,g2]
theorem Cv {t:Nat} {d:XV} {e:bZ} (h:rx P M t d=some e) (hN:du M N e.rd):rx P N t d=some e:=by
 unfold rx at h ⊢;split at h<;>(try (cases h;done))
 split at h<;>(try (cases h;done))
 ·exact h
 split at h<;>(try (cases h;done))
 rename_i rows hm he hz;split at h<;>(try (cases h;done))
 rename_i g1 g2;cases h;simp only[hN.row aaC,hm,he,hz,g1,g2]
theorem I9 {t:Nat} {x:XV} {e:bZ} (h:kZ P M t x=some e) (hN:du M N e.rd):kZ P N t x=some e:=by
 unfold kZ at h ⊢;split at h<;>(try (cases h;done))
 ·exact h
 ·exact h
 ·exact h
 ·exact h
 split at h<;>(try (cases h;done))
 rename_i hm;cases h;simp only[hN _ aaC,hm]
theorem Cu {t:Nat} {x:XV} {lo hi mx:Option XV} {e:bZ} (h:qY P M t x lo hi mx=some e) (hN:du M N e.rd):qY P N t x lo hi mx=some e:=by
 unfold qY at h ⊢;split at h<;>(try (cases h;done))
 ·exact h
 ·exact h
 ·exact h
 split at h<;>(try (cases h;done))
 split at h<;>(try (cases h;done))
 rename_i hh cJ hm;split at h<;>(try (cases h;done))
 rename_i g1 g2 g3 g4;cases h;simp only[hN.rd aaC,hh,cJ,hm,g1,g2,g3,g4]
theorem Ej {s d:Nat} {x:XV} {e:bZ} (h:li P key M s d x=some e) (hN:du M N e.rd):li P key N s d x=some e:=by
 unfold li at h ⊢;split at h<;>(try (cases h;done))
 ·exact h
 ·exact h
 ·exact h
 split at h<;>(try (cases h;done))
 split at h<;>(try (cases h;done))
 rename_i cs n r fF;split at h<;>(try (cases h;done))
 rename_i s Y8 y7 _;split at h<;>(try (cases h;done))
 rename_i hb;cases h;simp only[jP fF hN,Y8,hb]
theorem B_ {kt:Nat} {ix x:XV} {r:Option XV×List Nat} (h:i6 P M kt ix x=some r) (hN:du M N r.2):i6 P N kt ix x=some r:=by
 unfold i6 at h ⊢;split at h<;>(try (cases h;done))
 ·exact h
 split at h<;>(try (cases h;done))
 rename_i es clock hm;split at h<;>(try (cases h;done))<;>rename_i hf<;>cases h<;>simp only[hN _ aaC,hm,hf]
theorem zO {t:Nat} {x ix:XV} {ok:Bool} {e:bZ} (h:cT P M t x ix ok=some e) (hN:du M N e.rd):cT P N t x ix ok=some e:=by
 unfold cT at h ⊢;split at h<;>(try (cases h;done))
 split at h<;>(try (cases h;done))<;>rename_i hk hz hf<;>cases h<;>simp only[hk,hz,B_ hf hN]
theorem Ad {t:Nat} {m ix v:XV} {e:bZ} (h:dP P M t m ix v=some e) (hN:du M N e.rd):dP P N t m ix v=some e:=by
 unfold dP at h ⊢;split at h<;>(try (cases h;done))
 split at h<;>(try (cases h;done))
 rename_i hk hm;split at h<;>(try (cases h;done))<;>rename_i hf<;>cases h<;>simp only[hk,hN _ aaC,hm,hf]
theorem zy {t:Nat} {m ix:XV} {e:bZ} (h:ee P M t m ix=some e) (hN:du M N e.rd):ee P N t m ix=some e:=by
 unfold ee at h ⊢;split at h<;>(try (cases h;done))
 split at h<;>(try (cases h;done))
 rename_i hk hm hz;split at h<;>(try (cases h;done))<;>rename_i hf
 ·split at h<;>(try (cases h;done))
  rename_i hj;cases h;simp only[hk,hN _ aaC,hm,hz,hf,hj]
 cases h;simp only[hk,hN _ aaC,hm,hz,hf]
theorem Ca {m st v:XV} {e:bZ} (h:fY M m st v=some e) (hN:du M N e.rd):fY N m st v=some e:=by
 unfold fY at h ⊢;split at h<;>(try (cases h;done))
 split at h<;>(try (cases h;done))
 rename_i hm;split at h<;>(try (cases h;done))
 rename_i hi;cases h;simp only[hN _ aaC,hm,hi]
theorem BP {t:Nat} {x:XV} {e:bZ} (h:me P M key t x=some e) (hN:du M N e.rd):me P N key t x=some e:=by
 unfold me at h ⊢;split at h<;>(try (cases h;done))
 ·exact h
 split at h<;>(try (cases h;done))
 rename_i hm;cases h;simp only[hN _ aaC,hm]
theorem B5 {x:XV} {e:bZ} (h:i7 M x=some e) (hN:du M N e.rd):i7 N x=some e:=by
 unfold i7 at h ⊢;split at h<;>(try (cases h;done))
 split at h<;>(try (cases h;done))
 rename_i hm;split at h<;>(try (cases h;done))
 rename_i vY;split at h<;>(try (cases h;done))
 rename_i hb hc;split at h<;>(try (cases h;done))
 rename_i hf;cases h;simp only[hN _ aaC,hm,hN _ (aaJ _ aaC),vY,hb,hc,hf]
theorem LL {o:Op} {e:bZ} (h:cY P Γ env M key o=some e) (hN:du M N e.rd):cY P Γ env N key o=some e:=by
 unfold cY at h ⊢;split at h<;>(try (cases h;done))<;>first
  | exact h
  | exact ED h hN
  | exact B0 h hN
  | exact Ej h hN
  | exact Cu h hN
  | exact zO h hN
  | exact Ad h hN
  | exact zy h hN
  | exact Ca h hN
  | exact BP h hN
  | exact B5 h hN
  | skip
 split at h<;>(try (cases h;done))
 unfold fO at h ⊢;split at h<;>(try (cases h;done))
 ·exact I9 h hN
 ·split at h<;>(try (cases h;done))
  ·exact rW h hN
  exact rW h hN
 ·exact E7 h hN
 ·exact Cv h hN
 ·exact h
 exact h
def ca (env:eX) (c:Call):Option (Nat×List XV):=match c.callee with
 | .value f=>match cG env f with
   | .fn (.func g) first caps=>some (g,first++lX env c.args.toList++caps)
   | _=>none
 | _=>none
def tT:Op->List Operand
 | .move x | .assign x | .box _ x | .load _ x | .nilCheck x | .unOp _ _ x | .convert _ _ x | .makeInterface _ x | .fieldAddr _ x _ | .field _ x _ | .range _ x | .next x _ | .entry x | .extract x _=>[x]
 | .pick c a b=>[c,a,b]
 | .build _ ps | .buildSlice _ _ ps=>ps.toList.map (·.2)
 | .store _ a v | .binOp _ _ a v _ | .makeSlice _ a v | .indexAddr _ a v | .index _ a v | .lookup _ a v _ | .mapEntry _ a v=>[a,v]
 | .makeFunc _ first captured=>first.toList++captured.toList
 | .makeMap _ r=>r.toList
 | .slice _ x l h m=>x::(l.toList++h.toList++m.toList)
 | .mapUpdate _ m k v | .entryStore _ m k v | .insert _ m k v=>[m,k,v]
 | .call c=>(match c.callee with | .value f=>[f] | _=>[])++c.args.toList
 | _=>[]
theorem pV {l:List Operand} (h:∀x ∈ l,cG be x=cG env x):lX be l=lX env l:=by
 induction l with
 | nil=>rfl
 | cons x l ih =>
   simp only[lX,h x aaC,ih fun y hy=>h y (aaJ _ hy)]
theorem uA {l:List (Nat×Operand)} (h:∀x ∈ l.map (·.2),cG be x=cG env x):fk be l=fk env l:=by
 induction l with
 | nil=>rfl
 | cons p l ih =>
   obtain⟨i,x⟩:=p;simp only[fk,h x af,ih fun y hy=>h y (by simp at hy ⊢;exact .inr hy)]
theorem rb {x:Option Operand} (h:∀y ∈ x.toList,cG be y=cG env y):rN be x=rN env x:=by
 cases x with
 | none=>rfl
 | some x=>simp only[rN,h x af]
theorem LN {o:Op} (h:∀x ∈ tT o,cG be x=cG env x):cY P Γ be M key o=cY P Γ env M key o:=by
 unfold cY;cases o<;>simp only[tT]at h<;>(try rfl)
 case move x=>simp only[h x af]
 case assign x=>simp only[h x af]
 case pick c a b=>simp only[h c af,h a af,h b af]
 case box t x=>simp only[h x af]
 case build t ps=>simp only[uA h]
 case buildSlice t l ps=>simp only[uA h]
 case load t x=>simp only[h x af]
 case store t x y=>simp only[h x af,h y af]
 case nilCheck x=>simp only[h x af]
 case binOp op t x y t'=>simp only[h x af,h y af]
 case unOp op t x=>simp only[h x af]
 case convert s d x=>simp only[h x af]
 case makeInterface t x=>simp only[h x af]
 case makeFunc f a b=>simp only[pV (l:=a.toList) fun x hx=>h x (abv _ hx),pV (l:=b.toList) fun x hx=>h x (aci _ hx)]
 case makeMap t r =>
  cases r with
  | none=>rfl
  | some r =>
    cases hu:P.underlying t with
    | none=>simp only[hu]
    | some d=>cases d<;>simp only[hu,h r af]
 case makeSlice t x y=>simp only[h x af,h y af]
 case slice t x l hi mx=>simp only[h x af,rb (x:=l) fun y hy=>h y (by simp[hy]),rb (x:=hi) fun y hy=>h y (by simp[hy]),rb (x:=mx) fun y hy=>h y (by simp[hy])]
 case fieldAddr s x f=>simp only[h x af]
 case field s x f=>simp only[h x af]
 case indexAddr t x y=>simp only[h x af,h y af]
 case index t x y=>simp only[h x af,h y af]
 case lookup t x y ok=>simp only[h x af,h y af]
 case mapUpdate t x y z=>simp only[h x af,h y af,h z af]
 case insert t x y z=>simp only[h x af,h y af,h z af]
 case mapEntry t x y=>simp only[h x af,h y af]
 case entryStore t x y z=>simp only[h x af,h y af,h z af]
 case range t x=>simp only[h x af]
 case entry x=>simp only[h x af]
 case extract x i=>simp only[h x af]
 case call c=>simp only[pV (l:=c.args.toList) fun x hx=>h x (aci _ hx)]
theorem rP {c:Call} (h:∀x ∈ tT (.call c),cG be x=cG env x):ca be c=ca env c:=by
 simp only[tT]at h;unfold ca;cases hc:c.callee with
 | value f =>
   rw[hc]at h;simp only[h f af,pV (l:=c.args.toList) fun x hx=>h x (aci _ hx)]
 | _=>rfl
end
def FW:Option Nat->Fence
 | none=>Fence.wide
 | some l=>Fence.wide.inRound l
theorem jh (fr:Option Nat) (f:FuncId):(FW fr).fn f:=by cases fr<;>exact trivial
theorem mZ (fr:Option Nat):(FW fr).round=fr:=by cases fr<;>rfl
theorem lD (fr:Option Nat):(FW fr).depth=none:=by cases fr<;>rfl
theorem Ng (fr:Option Nat) (l:Nat):(FW fr).inRound l=FW (some l):=by cases fr<;>rfl
theorem ET (fr:Option Nat) (P:Program):Machine.fenced P (FW fr)=Machine.fenced P Fence.wide:=by cases fr<;>rfl
theorem GD {fr:Option Nat} {n:Nat} {P:Program} {f:FuncId} {args:Array Value} {w:World} {R:Ending->World->Prop} (h:Calls P f args w R):CallsIn (FW fr) n P f args w R:=by
 cases fr with
 | none=>exact callsIn_wide.2 h
 | some l=>exact(callsIn_wide (n:=n)).2 h
theorem J_ {fr:Option Nat} {n:Nat} {P:Program} {row:String} {args:Array Value} {w:World} {R:Value->World->Prop} (h:Rows P row args w R):RowsIn (FW fr) n P row args w R:=by intro c cs _;obtain⟨v,w',r,s⟩:=h c cs;refine⟨v,w',r,?_⟩;rw[ET];exact stepsIn_wide.2 s
section
variable {P:Program} {o:Oper} {a:Act} {w w' w0:World} {ρ:aK} {σ σ' σ0:cb} {M M' M0:Hp} {key nx nx0 n:Nat} {env:eX} {Γ:cc} {fr:Option Nat}
theorem vq {K:Act->World->Prop} {Q:Exit->Act->World->Prop} (hd:∀c,o.op ≠ .defer c) (h:o.wp P a w K Q):o.wpIn (FW fr) 0 P a w K Q:=by
 refine⟨fun f _=>jh fr f,?_⟩;rw[mZ,Oper.semAt_eq fr a.eval o hd];unfold ads at h
 revert h
 cases (execOp a.eval o).run P w with
 | ok v w' =>
   cases v<;>intro h<;>first | exact h | exact h.elim | skip
   ·exact⟨fun q=>(by rw[lD]at q;cases q),GD h⟩
   exact⟨fun q=>(by rw[lD]at q;cases q),J_ h⟩
 | halt h w'=>cases h<;>intro q<;>first | exact q | exact q.elim
theorem Jb {o:Op} {e:bZ} (h:cY P Γ env M key o=some e):∀c,o ≠ .defer c:=by intro c hc;subst hc;simp[cY]at h
structure oB (w:World) (σ:cb) (M:Hp) (b:Nat) (o:Obj):Prop where
 here:w.heap[b]?=some o
 own:¬ eB σ M b
theorem oB.lt {b:Nat} {o:Obj} (h:oB w σ M b o):b<w.heap.size:=(aaY.1 h.here).1
theorem oB.ext {b:Nat} {o:Obj} (h:oB w σ M b o) (e:zN w σ M w' σ' M'):oB w' σ' M' b o:=by
 refine⟨by rw[e.blk b h.lt h.own];exact h.here,fun q=>?_⟩;rcases e.own b q with q | q
 ·exact h.own q
 exact absurd h.lt aa
theorem oB.put {b:Nat} {o o':Obj} (h:oB w σ M b o):oB (w.putObj b o') σ M b o':=⟨World.putObj_heap_same h.lt,h.own⟩
theorem oB.side {b:Nat} {o:Obj} (h:oB w σ M b o) (hb:w'.heap[b]?=w.heap[b]?):oB w' σ M b o:=⟨hb.trans h.here,h.own⟩
theorem oB.new (aQ:Ok ρ w σ M) (o:Obj):oB (w.alloc o) σ M w.heap.size o :=
 ⟨World.alloc_heap_new w o,fun h=>absurd (h.lt aQ) aa⟩
def IC:Obj->Bool
 | .cells ..=>true
 | _=>false
structure fV (w:World) (σ:cb) (M:Hp) (w':World):Prop where
 os:w'.os=w.os
 tape:w'.tape=w.tape
 output:w'.output=w.output
 size:w.heap.size<=w'.heap.size
 blk:∀b,eB σ M b->w'.heap[b]?=w.heap[b]?
 cel:∀(b:Nat) (o:Obj),w.heap[b]?=some o->IC o=true->w'.heap[b]?=w.heap[b]?
theorem fV.ok (h:fV w σ M w') (aQ:Ok ρ w σ M):Ok ρ w' σ M:=by
 refine⟨fun k o hk=>?_,aQ.inj,fun b x hb=>?_⟩
 ·obtain⟨p,hp,ho⟩:=aQ.obj k o hk
  refine⟨p,hp,OR.mono (fun _ _ h=>h) ?_ ho⟩;cases hm:kF o with
  | true=>exact h.blk _ ⟨k,o,p,hk,hp,rfl,hm⟩
  | false =>
    cases o with
    | cst cs =>
      obtain⟨us,t,fz,h1,_⟩:=ho;exact h.cel _ _ h1 rfl
    | row _=>cases hm
    | map _ _=>cases hm
    | iter _ _ _ _=>cases hm
 obtain⟨h1,h2⟩:=aQ.fix b x hb;exact⟨(h.cel _ _ h1 rfl).trans h1,h2⟩
theorem fV.ext (h:fV w σ M w') (e:zN w0 σ0 M0 w σ M) (hb:∀b,b<w0.heap.size->¬ eB σ0 M0 b->w'.heap[b]?=w.heap[b]?):zN w0 σ0 M0 w' σ M :=
 ⟨h.os.trans e.os,h.tape.trans e.tape,h.output.trans e.output,aaT e.size h.size,fun b h1 h2=>(hb b h1 h2).trans (e.blk b h1 h2),e.own,e.sig,e.held⟩
theorem fV.alloc (aQ:Ok ρ w σ M) (o:Obj):fV w σ M (w.alloc o):=by
 have old:∀b,b<w.heap.size->(w.alloc o).heap[b]?=w.heap[b]?:=fun b hb=>by show (w.heap.push o)[b]?=_;rw[acx,if_neg aa]
 refine⟨rfl,rfl,rfl,by show _<=(w.heap.push o).size;simp,fun b hb=>old b (hb.lt aQ),fun b x hx _=>old b (aaY.1 hx).1⟩
theorem fV.putObj {b:Nat} {o:Obj} (h:oB w σ M b o) (hc:IC o=false) (o':Obj):fV w σ M (w.putObj b o') :=
 ⟨rfl,rfl,rfl,af,fun c hc=>aa0 fun e=>h.own (e ▸ hc),fun c x hx Gt=>aa0 fun e=>by subst e;rw[h.here]at hx;cases hx;rw[hc]at Gt;cases Gt⟩
theorem fV.trans {w'':World} (h:fV w σ M w') (k:fV w' σ M w''):fV w σ M w'' :=
 ⟨k.os.trans h.os,k.tape.trans h.tape,k.output.trans h.output,aaT h.size k.size,fun b hb=>(k.blk b hb).trans (h.blk b hb),fun b o ho hc=>by have e:=h.cel b o ho hc;exact(k.cel b o (e.trans ho) hc).trans e⟩
abbrev YH:=List XV->Hp->Nat->Option (List (Hp×Nat))
def R6 (P:Program) (ρ:aK) (w0:World) (σ0:cb) (M0:Hp) (nx0:Nat) (l:Nat) (rec:Loop) (H:YH):Prop :=
 ∀args M nx L,H args M nx=some L->∀w σ us,Ok ρ w σ M->(∀k,nx<=k->σ k=none)->zN w0 σ0 M0 w σ M->nx0<=nx->c_ ρ σ args us ->
  us.length=rec.params.size/\∀fr,RoundIn (FW fr) 0 P l rec.fn ((rec.params.zip us.toArray).foldl (fun tmps (t,a)=>tmps.setIfInBounds t a) rec.tmps) rec.assign rec.body w
   fun e w'=>e = .returned (.bool true)/\∃r ∈ L,∃σ',Ok ρ w' σ' r.1/\zN w σ M w' σ' r.1/\nx<=r.2/\∀k,σ' k=σ k\/(nx<=k/\k<r.2)
def Nk (P:Program) (ρ:aK) (w0:World) (σ0:cb) (M0:Hp) (nx0:Nat):Option (Nat×YH)->Prop
 | none=>True
 | some (k,H)=>∃l rec room,σ0 k=some (l,room)/\oB w0 σ0 M0 l (.loop rec)/\R6 P ρ w0 σ0 M0 nx0 l rec H
end
abbrev ew:=XV×Hp×Nat
abbrev fB:=Nat->List XV->Hp->Nat->Option (List ew)
def fv {α β:Type}:List α->(α->Option (List β))->Option (List β)
 | [],_=>some []
 | [x],f=>f x
 | x::y::xs,f=>match f x with
   | none=>none
   | some a=>match fv (y::xs) f with
     | none=>none
     | some b=>some (a++b)
theorem fo {α β:Type} {f:α->Option (List β)}:∀{L:List α} {R:List β},fv L f=some R->∀x ∈ L,∃a,f x=some a/\∀y ∈ a,y ∈ R
 | [],_,_,x,hx=>by cases hx
 | [y],R,h,x,hx=>by rw[aaE]at hx;subst hx;exact⟨R,h,fun _ h=>h⟩
 | y::z::xs,R,h,x,hx=>by
   simp only[fv]at h;split at h<;>(try (cases h;done))
   rename_i a ha;split at h<;>(try (cases h;done))
   rename_i b hb;cases h;rcases aaK.1 hx with rfl | hx
   ·exact⟨a,ha,fun y hy=>abv _ hy⟩
   obtain⟨c,h1,h2⟩:=fo hb x hx;exact⟨c,h1,fun y hy=>aci _ (h2 y hy)⟩
def cu (n:Nat) (env:eX):Option Nat->XV->Option eX
 | none,_=>some env
 | some d,v=>match abc d n with | true=>some (aG env d v) | false=>none
def sm (all:List Oper) (j:Nat):Option Nat:=match all[j]? with | some o=>o.dst | none=>none
def a_ (all:List Oper) (env:eX):Option (Nat×Bool)->Option Bool
 | none=>some true
 | some (j,want)=>match sm all j with
   | none=>none
   | some d=>match gG env d with
     | some (.bool b)=>some (b==want)
     | some .udf=>some false
     | _=>none
def EU (env:eX) (c:Call):Option (Nat×List XV):=match c.callee with
 | .value f=>match cG env f with
   | .yd k=>some (k,lX env c.args.toList)
   | _=>none
 | _=>none
def Xm (P:Program) (Γ:cc) (call:fB) (Y:Option (Nat×YH)) (env:eX) (M:Hp) (nx:Nat) (o:Op):Option (List ew) :=
 match cY P Γ env M nx o with
 | some e=>some [(e.val,aY M e.upd,nx+1)]
 | none=>match o with
   | .call c=>match ca env c with
     | some (g,args)=>call g args M nx
     | none=>match EU env c,Y with
       | some (k,args),some (k',H)=>match aaW k k',H args M nx with
         | true,some L=>some (L.map fun r=>(.bool true,r.1,r.2))
         | _,_=>none
       | _,_=>none
   | .next it false=>match wE M (cG env it) with
     | some L=>some (L.map fun e=>(e.val,aY M e.upd,nx+1))
     | none=>none
   | _=>none
structure XS where
 env:eX
 M:Hp
 nx:Nat
def Fu (P:Program) (Γ:cc) (call:fB) (Y:Option (Nat×YH)) (n:Nat) (all:List Oper):List Oper->XS->Option (List XS)
 | [],s=>some [s]
 | o::os,s=>match a_ all s.env o.guard with
   | none=>none
   | some false=>match cu n s.env o.dst .udf with
     | some env=>Fu P Γ call Y n all os ⟨env,s.M,s.nx⟩
     | none=>none
   | some true=>match Xm P Γ call Y s.env s.M s.nx o.op with
     | none=>none
     | some L=>fv L fun r=>match cu n s.env o.dst r.1 with
       | some env=>Fu P Γ call Y n all os ⟨env,r.2.1,r.2.2⟩
       | none=>none
section
variable {P:Program} {o:Oper} {a:Act} {w w' w0:World} {ρ:aK} {σ σ' σ0:cb} {M M' M0:Hp} {key nx nx0 n:Nat} {env:eX} {Γ:cc} {call:fB} {ds:List Deferred} {Y:Option (Nat×YH)} {fr:Option Nat}
def cK (ρ:aK) (w:World) (σ:cb) (M:Hp) (nx:Nat) (r:ew) (v:Value) (w':World):Prop :=
 ∃σ',VR ρ σ' r.1 v/\Ok ρ w' σ' r.2.1/\zN w σ M w' σ' r.2.1/\nx<=r.2.2/\∀k,σ' k=σ k\/(nx<=k/\k<r.2.2)
def i9 (P:Program) (ρ:aK) (call:fB):Prop :=
 ∀g args M nx L,call g args M nx=some L->∀(w:World) (σ:cb) (vs:List Value),Ok ρ w σ M->(∀k,nx<=k->σ k=none)->c_ ρ σ args vs ->
  ∀(o:Oper) (a:Act) (K:Act->World->Prop) (Q:Exit->Act->World->Prop),(∀v w',(∃r ∈ L,cK ρ w σ M nx r v w')->K (a.put o.dst v) w')->o.upon P a K Q ((callFunc g vs.toArray).run P w)
theorem cK.of (ce:∀k,nx<=k->σ k=none) {val:XV} {N:Hp} {v:Value} (h:bz ρ w σ M nx val N v w'):cK ρ w σ M nx (val,N,nx+1) v w':=by obtain⟨σ',h1,h2,h3,h4⟩:=h;exact⟨σ',h1,h2,h3,le_succ _,fun k=>(h4 k).imp id fun e=>by subst e;exact⟨u7 _,aby _⟩⟩
theorem ik {c:Call} {g:Nat} {args:List XV} (bI:fX ρ σ env a.tmps) (df:o.op = .call c) (h:ca env c=some (g,args)) :
 ∃vs,c_ ρ σ args vs/\(execOp a.eval o).run P w=(callFunc g vs.toArray).run P w:=by
 unfold ca at h;split at h<;>(try (cases h;done))
 rename_i f pw;split at h<;>(try (cases h;done))
 rename_i first caps hf
 cases h;have Jz:=bf bI f;rw[hf]at Jz;simp only[VR]at Jz;obtain⟨us,us',j_,h1,h2⟩:=Jz;refine⟨us.toList++c.args.toList.map a.eval++us'.toList,(h1.append (nS bI _)).append h2,?_⟩;simp only[execOp,df,resolve,pw,j_,ad5,pure_bind,invoke];congr 2;apply abz;simp
theorem AG {c:Call} {k:Nat} {args:List XV} (bI:fX ρ σ env a.tmps) (df:o.op = .call c) (h:EU env c=some (k,args)) :
 ∃(us:List Value) (b room:Nat),σ k=some (b,room)/\c_ ρ σ args us/\(execOp a.eval o).run P w=(Instr.yield b us.toArray).run P w:=by
 unfold EU at h;split at h<;>(try (cases h;done))
 rename_i f pw;split at h<;>(try (cases h;done))
 rename_i hf;cases h;have Jz:=bf bI f;rw[hf]at Jz;simp only[VR]at Jz;obtain⟨b,room,hs,j_⟩:=Jz;refine⟨c.args.toList.map a.eval,b,room,hs,nS bI _,?_⟩;simp only[execOp,df,resolve,pw,j_,ad5,pure_bind,invoke];congr 2;apply abz;simp
theorem PM (hΓ:∀i op c b k,Γ i op c=some b->bj op k (ρ i) k c=some (.bool b)) (dW:i9 P ρ call) (hY:Nk P ρ w0 σ0 M0 nx0 Y) (aQ:Ok ρ w σ M) (bI:fX ρ σ env a.tmps) (ce:∀k,nx<=k->σ k=none) (mM:zN w0 σ0 M0 w σ M) (jT:nx0<=nx) {L:List ew} (h:Xm P Γ call Y env M nx o.op=some L)
 (K:Act->World->Prop) (Q:Exit->Act->World->Prop) (hK:∀v w',(∃r ∈ L,cK ρ w σ M nx r v w')->K (a.put o.dst v) w'):o.wpIn (FW fr) 0 P a w K Q:=by
 unfold Xm at h;split at h
 ·rename_i e he
  cases h;exact vq (Jb he) (BA hΓ aQ bI (ce nx (u7 _)) he K Q fun v w' hp=>hK v w' ⟨_,aaE.2 rfl,.of ce hp⟩)
 split at h<;>(try (cases h;done))<;>rename_i df
 ·rename_i c
  split at h
  ·rename_i g args hc
   obtain⟨vs,h1,h2⟩:=ik (P:=P) (w:=w) bI df hc;refine vq (fun c' jY=>by rw[df]at jY;cases jY) ?_;unfold ads;rw[h2];exact dW g args M nx L h w σ vs aQ ce h1 o a K Q hK
  split at h<;>(try (cases h;done))
  rename_i k args k' H hy;split at h<;>(try (cases h;done))
  rename_i L' sT hH;cases h;have sT:=aaB sT;subst sT;obtain⟨l,rec,room,VP,h_,Mz⟩:=hY;obtain⟨us,b,room',hs,j_,gy⟩:=AG (P:=P) (w:=w) bI df hy;rw[mM.sig _ _ VP]at hs;cases hs;obtain⟨hz,CP⟩:=Mz args M nx _ hH w σ us aQ ce mM jT j_;refine⟨fun f _=>jh fr f,?_⟩;rw[mZ,Oper.semAt_eq fr a.eval o (fun c' jY=>by rw[df]at jY;cases jY),gy,run_yield (h_.ext mM).here (by simpa using hz)];refine⟨fun q=>(by rw[lD]at q;cases q),(CP fr).mono fun e w' hq=>?_⟩;obtain⟨rfl,r,hr,σ',g1,g2,g3,g4⟩:=hq;exact hK _ w' ⟨_,mem_map.2 ⟨r,hr,rfl⟩,σ',by simp only[VR],g1,g2,g3,g4⟩
 rename_i it;split at h<;>(try (cases h;done))
 rename_i L' hL;cases h;obtain⟨e,he,r,w',h1,h2⟩:=DE (P:=P) (key:=nx) (ty:=o.type) aQ hL (bf bI it);refine vq (fun c' jY=>by rw[df]at jY;cases jY) ?_;exact gv.made (s:=ac2 (a.eval it) false o.type) (by simp only[execOp,df]) h1 (⟨_,mem_map.2 ⟨e,he,rfl⟩,.of ce h2⟩:∃r' ∈ _,cK ρ w σ M nx r' r w') K Q hK
structure St (ds:List Deferred) (ρ:aK) (w0:World) (σ0:cb) (M0:Hp) (nx0 n:Nat) (s:XS) (a:Act) (w:World) (σ:cb):Prop where
 envr:fX ρ σ s.env a.tmps
 size:a.tmps.size=n
 ok:Ok ρ w σ s.M
 free:∀k,s.nx<=k->σ k=none
 ext:zN w0 σ0 M0 w σ s.M
 le:nx0<=s.nx
 old:∀k,σ k=σ0 k\/nx0<=k
 def0:a.defers=ds
theorem LD (a:Act) (d:Option Nat) (v:Value) (t:Nat):(a.put d v).tmps.getD t undef=if d=some t/\t<a.tmps.size then v else a.tmps.getD t undef:=by
 cases d with
 | none=>rw[if_neg af];rfl
 | some d =>
   simp only[Act.put,aat];simp only[abb];by_cases h:d=t
   ·subst h
    by_cases hl:d<a.tmps.size;·rw[if_pos ⟨rfl,hl⟩,abq hl];rfl
    rw[if_neg aa,Array.setIfInBounds_eq_of_size_le aa]
   rw[if_neg (fun q=>h q.1),abH h]
theorem nD (a:Act) (d:Option Nat) (v:Value):(a.put d v).tmps.size=a.tmps.size:=by
 cases d with
 | none=>rfl
 | some d=>simp[Act.put]
theorem vL (a:Act) (d:Option Nat) (v:Value):(a.put d v).defers=a.defers:=by cases d<;>rfl
theorem fX.put (h:fX ρ σ env a.tmps) {d:Option Nat} {x:XV} {v:Value} {be:eX} (hp:cu a.tmps.size env d x=some be) (hv:VR ρ σ x v):fX ρ σ be (a.put d v).tmps:=by
 intro t y hy;rw[nD,LD];cases d with
 | none =>
   simp only[cu,aat]at hp;subst hp;rw[if_neg af];exact h t y hy
 | some d =>
   simp only[cu]at hp;split at hp<;>(try (cases hp;done))
   rename_i aL;rw[abD]at aL;cases hp;rw[ap]at hy;split at hy
   ·rename_i e
    subst e;cases hy;rw[if_pos ⟨rfl,aL⟩];exact⟨aL,hv⟩
   rename_i e;rw[if_neg (fun q=>e (by simpa using q.1))];exact h t y hy
theorem fX.mono (h:fX ρ σ env a.tmps) (hs:∀k p,σ k=some p->σ' k=some p):fX ρ σ' env a.tmps:=fun t v hv=>⟨(h t v hv).1,(h t v hv).2.mono hs⟩
theorem St.step {s:XS} {r:ew} {v:Value} (h:St ds ρ w0 σ0 M0 nx0 n s a w σ) {d:Option Nat} (hp:cK ρ w σ s.M s.nx r v w') {be:eX} (he:cu n s.env d r.1=some be) :
 ∃σ',St ds ρ w0 σ0 M0 nx0 n ⟨be,r.2.1,r.2.2⟩ (a.put d v) w' σ':=by
 obtain⟨σ',h1,h2,h3,h4,h5⟩:=hp;refine⟨σ',⟨fX.put (h.envr.mono h3.sig) (by rw[h.size];exact he) h1,by rw[nD];exact h.size,h2,fun k hk=>?_,h.ext.trans h3,aaT h.le h4,fun k=>?_,by rw[vL];exact h.def0⟩⟩
 ·rcases h5 k with e | ⟨e1,e2⟩
  ·rw[e];exact h.free k (aaT h4 hk)
  simp only at hk;omega
 rcases h5 k with e | ⟨e1,e2⟩
 ·rw[e];exact h.old k
 right;have:=h.le;omega
theorem St.skip {s:XS} (h:St ds ρ w0 σ0 M0 nx0 n s a w σ) {d:Option Nat} {be:eX} (he:cu n s.env d .udf=some be):St ds ρ w0 σ0 M0 nx0 n ⟨be,s.M,s.nx⟩ (a.put d undef) w σ :=
 ⟨fX.put h.envr (by rw[h.size];exact he) (by simp only[VR]),by rw[nD];exact h.size,h.ok,h.free,h.ext,h.le,h.old,by rw[vL];exact h.def0⟩
theorem iL {all:List Oper} (h:fX ρ σ env a.tmps) {b:Bool} (hg:a_ all env o.guard=some b):acU o (yielded all.toArray a.tmps)=b:=by
 unfold a_ at hg;split at hg
 ·rename_i hn
  cases hg;simp[acU,hn]
 rename_i j want hn;split at hg<;>(try (cases hg;done))
 rename_i d hd;have hy:∀x,a.tmps.getD d undef=x->d<a.tmps.size->yielded all.toArray a.tmps j=(match x with | .bool b=>some b | _=>none):=by
  intro x hx aL;unfold sm at hd;split at hd<;>(try (cases hd;done))
  rename_i o' iP;have h1:a.tmps[d]?=some x:=by rw[abb,abs aL]at hx;rw[abs aL];exact congrArg some hx
  simp only[yielded,abf,iP,bind_some,hd,h1];cases x<;>rfl
 split at hg<;>(try (cases hg;done))<;>rename_i hv
 ·cases hg
  obtain⟨h1,h2⟩:=h d _ hv;simp only[VR]at h2;simp only[acU,hn,hy _ h2 h1];rfl
 cases hg;obtain⟨h1,h2⟩:=h d _ hv;simp only[VR]at h2;simp only[acU,hn,hy _ h2 h1];rfl
theorem yF (hΓ:∀i op c b k,Γ i op c=some b->bj op k (ρ i) k c=some (.bool b)) (dW:i9 P ρ call) (hY:Nk P ρ w0 σ0 M0 nx0 Y) {all:List Oper} {Q:Exit->Act->World->Prop} :
 ∀(os:List Oper) (s:XS) (L:List XS) (a:Act) (w:World) (σ:cb),Fu P Γ call Y n all os s=some L->St ds ρ w0 σ0 M0 nx0 n s a w σ ->
  (∀s' ∈ L,∀a' w' σ',St ds ρ w0 σ0 M0 nx0 n s' a' w' σ'->Q .normal a' w')->wpListIn (FW fr) 0 P all.toArray Q os a w
 | [],s,L,a,w,σ,h,hs,hQ=>by simp only[Fu,aat]at h;subst h;exact hQ s (aaE.2 rfl) a w σ hs
 | o::os,s,L,a,w,σ,h,hs,hQ=>by
   unfold Fu at h;unfold wpListIn;split at h<;>(try (cases h;done))<;>rename_i hg<;>rw[iL hs.envr hg]
   ·rw[if_neg af]
    split at h<;>(try (cases h;done))
    rename_i be he;exact⟨fun f _=>jh fr f,yF hΓ dW hY os _ L _ w σ h (hs.skip he) hQ⟩
   rw[if_pos rfl];split at h<;>(try (cases h;done))
   rename_i L' hL;refine PM hΓ dW hY hs.ok hs.envr hs.free hs.ext hs.le hL _ _ fun v w' ⟨r,hr,hp⟩=>?_
   obtain⟨R,h1,h2⟩:=fo h r hr;split at h1<;>(try (cases h1;done))
   rename_i be he;obtain⟨σ',lJ⟩:=hs.step hp he;exact yF hΓ dW hY os _ R _ w' σ' h1 lJ fun s' lJ=>hQ s' (h2 s' lJ)
end
mutual
def zC:XV->List Nat->List Nat
 | .sl n _ _ _ _,l | .mp n _,l | .mm n,l | .yd n,l=>n::l
 | .agg cs,l | .tup cs,l=>m_ cs l
 | .fn _ xs ys,l=>m_ xs (m_ ys l)
 | .ifc _ x,l=>zC x l
 | _,l=>l
def m_:List XV->List Nat->List Nat
 | [],l=>l
 | x::xs,l=>zC x (m_ xs l)
end
def SA:bx->List Nat->List Nat
 | .row cs,l=>m_ cs l
 | .cst cs,l=>m_ cs l
 | .map es _,l=>go es l
 | .iter (some m) _ _ _,l=>m::l
 | .iter none _ _ _,l=>l
where go:List (Nat×XV×XV)->List Nat->List Nat
 | [],l=>l
 | (_,k,v)::es,l=>zC k (zC v (go es l))
def iZ (M:Hp):Nat->List Nat->Tr Unit->List Nat->List Nat
 | 0,_,_,out=>out
 | _+1,[],_,out=>out
 | f+1,k::ks,vis,out=>match gG vis k with
   | some _=>iZ M f ks vis out
   | none=>match gG M k with
     | some o=>iZ M f (SA o ks) (aG vis k ()) (k::out)
     | none=>iZ M f ks (aG vis k ()) (k::out)
def kR (M:Hp):List Nat->Hp
 | []=>.nil
 | k::ks=>match gG M k with | some o=>aG (kR M ks) k o | none=>kR M ks
def ri (M:Hp):List Nat->List (Nat×Option bx)
 | []=>[]
 | k::ks=>(k,gG M k)::ri M ks
mutual
def aO (n:Nat):XV->Bool
 | .sl k _ _ _ _ | .mp k _ | .mm k | .yd k=>abc k n
 | .agg cs | .tup cs=>aE n cs
 | .fn _ xs ys=>match aE n xs with | true=>aE n ys | false=>false
 | .ifc _ x=>aO n x
 | _=>true
def aE (n:Nat):List XV->Bool
 | []=>true
 | x::xs=>match aO n x with | true=>aE n xs | false=>false
end
def cp (n:Nat):bx->Bool
 | .row cs=>aE n cs
 | .cst cs=>aE n cs
 | .map es _=>go es
 | .iter (some m) _ _ _=>abc m n
 | .iter none _ _ _=>true
where go:List (Nat×XV×XV)->Bool
 | []=>true
 | (_,k,v)::es=>match aO n k,aO n v with | true,true=>go es | _,_=>false
def pi (n:Nat) (M:Hp):List Nat->Bool
 | []=>true
 | k::ks=>match gG M k with
   | some o=>match abc k n,cp n o with | true,true=>pi n M ks | _,_=>false
   | none=>pi n M ks
def Bf (P:Program) (Γ:cc) (call:fB) (env:eX) (M:Hp) (nx:Nat) (o:Op):Option (bZ×Nat) :=
 match cY P Γ env M nx o with
 | some e=>some (e,nx+1)
 | none=>match o with
   | .call c=>match ca env c with
     | some (g,args) =>
       let ks:=iZ M 1000000 (m_ args []) .nil []
       match aE nx args,pi nx M ks,call g args (kR M ks) nx with
       | true,true,some [(v,M',nx')]=>some (⟨v,ks,ri M' (iZ M' 1000000 (zC v ks) .nil ks)⟩,nx')
       | _,_,_=>none
     | none=>none
   | _=>none
section
variable {P:Program} {o:Oper} {a:Act} {w w' w0:World} {ρ:aK} {σ σ' σ0:cb} {M M' N M0:Hp} {key nx nx0 n:Nat} {env be:eX} {Γ:cc} {call:fB} {ds:List Deferred}
theorem jx:∀(f:Nat) (ks:List Nat) (vis:Tr Unit) (out:List Nat),∀k ∈ out,k ∈ iZ M f ks vis out
 | 0,_,_,_,k,hk=>hk
 | f+1,[],_,_,k,hk=>hk
 | f+1,j::ks,vis,out,k,hk=>by
   simp only[iZ];split;·exact jx f ks vis out k hk
   split;·exact jx f _ _ _ k (aaJ _ hk)
   exact jx f _ _ _ k (aaJ _ hk)
theorem nY:∀(f:Nat) (ks:List Nat) (vis:Tr Unit) (out:List Nat),du M N (iZ M f ks vis out)->iZ N f ks vis out=iZ M f ks vis out
 | 0,_,_,_,_=>rfl
 | f+1,[],_,_,_=>rfl
 | f+1,j::ks,vis,out,h=>by
   simp only[iZ]at h ⊢;split at h;·exact nY f ks vis out h
   split at h
   ·rename_i o ho
    have:=h j (jx _ _ _ _ j aaC);rw[this,ho];exact nY f _ _ _ h
   rename_i ho;have:=h j (jx _ _ _ _ j aaC);rw[this,ho];exact nY f _ _ _ h
theorem uH:∀{l:List Nat},du M N l->kR N l=kR M l
 | [],_=>rfl
 | k::ks,h=>by have ih:=uH (l:=ks) (h.of fun j hj=>aaJ _ hj);simp only[kR,h k aaC,ih]
theorem iK:∀(l:List Nat) (k:Nat),gG (kR M l) k=if k ∈ l then gG M k else none
 | [],k=>by simp[kR,jR]
 | j::l,k=>by
   have ih:=iK l k;simp only[kR];split
   ·rename_i o ho
    rw[ap];by_cases e:j=k;·subst e;simp[ho]
    rw[if_neg e,ih];have:(k ∈ j::l) ↔ k ∈ l:=by simp[show ¬ k=j from fun h=>e h.symm]
    by_cases hk:k ∈ l;·rw[if_pos hk,if_pos (this.2 hk)]
    rw[if_neg hk,if_neg fun q=>hk (this.1 q)]
   rename_i ho;rw[ih];by_cases e:j=k
   ·subst e
    rw[if_pos aaC,ho];split<;>rfl
   have:(k ∈ j::l) ↔ k ∈ l:=by simp[show ¬ k=j from fun h=>e h.symm]
   by_cases hk:k ∈ l;·rw[if_pos hk,if_pos (this.2 hk)]
   rw[if_neg hk,if_neg fun q=>hk (this.1 q)]
def bM:List (Nat×Option bx)->List Nat
 | []=>[]
 | (k,_)::us=>k::bM us
theorem eE {k:Nat}:∀{us:List (Nat×Option bx)} {M:Hp},k ∉ bM us->gG (aY M us) k=gG M k
 | [],_,_=>rfl
 | (j,some o)::us,M,h=>by simp only[bM,aaK,not_or]at h;simp only[aY];rw[eE h.2,ap,if_neg (fun e=>h.1 e.symm)]
 | (j,none)::us,M,h=>by simp only[bM,aaK,not_or]at h;simp only[aY];rw[eE h.2,cV,if_neg (fun e=>h.1 e.symm)]
theorem q_:∀(l:List Nat),bM (ri M l)=l
 | []=>rfl
 | k::l=>by simp only[ri,bM,q_ l]
theorem lf:∀(l:List Nat) (N:Hp) (k:Nat),gG (aY N (ri M l)) k=if k ∈ l then gG M k else gG N k
 | [],N,k=>by simp[ri,aY]
 | j::l,N,k=>by
   by_cases hk:k ∈ l
   ·rw[if_pos (aaJ _ hk)]
    simp only[ri];cases hm:gG M j with
    | none =>
      simp only[aY];rw[lf l _ k,if_pos hk]
    | some o =>
      simp only[aY];rw[lf l _ k,if_pos hk]
   simp only[ri];have hn:k ∉ bM (ri M l):=by rw[q_];exact hk
   cases hm:gG M j with
   | none =>
     simp only[aY];rw[eE hn,cV];by_cases e:j=k;·subst e;simp[hm]
     rw[if_neg e,if_neg (by simp[hk];exact fun h=>e h.symm)]
   | some o =>
     simp only[aY];rw[eE hn,ap];by_cases e:j=k;·subst e;simp[hm]
     rw[if_neg e,if_neg (by simp[hk];exact fun h=>e h.symm)]
theorem eB.sub {N:Hp} (h:∀k o,gG N k=some o->gG M k=some o) {b:Nat} (hb:eB σ N b):eB σ M b:=by obtain⟨k,o,p,q,r⟩:=hb;exact⟨k,o,p,h _ _ q,r⟩
theorem Ok.sub (aQ:Ok ρ w σ M) {N:Hp} (h:∀k o,gG N k=some o->gG M k=some o):Ok ρ w σ N :=
 ⟨fun k o hk=>aQ.obj k o (h k o hk),fun k k' o o' p p' h1 h2=>aQ.inj k k' o o' p p' (h _ _ h1) (h _ _ h2),fun b x hb=>⟨(aQ.fix b x hb).1,fun q=>(aQ.fix b x hb).2 (q.sub h)⟩⟩
theorem cK.whole (aQ:Ok ρ w σ M) {ks l:List Nat} (oy:∀k ∈ ks,k ∈ l) {r:ew} {v:Value} (h:cK ρ w σ (kR M ks) nx r v w'):cK ρ w σ M nx (r.1,aY M (ri r.2.1 l),r.2.2) v w':=by
 obtain⟨σ',h1,h2,h3,h4,h5⟩:=h;have hs:∀k o,gG (kR M ks) k=some o->gG M k=some o:=fun k o hk=>by
  rw[iK]at hk;split at hk;·exact hk
  cases hk
 have get:∀k o,gG (aY M (ri r.2.1 l)) k=some o->gG r.2.1 k=some o\/(k ∉ ks/\gG M k=some o):=fun k o hk=>by
  rw[lf]at hk;split at hk;·exact .inl hk
  rename_i hn;exact .inr ⟨fun h=>hn (oy k h),hk⟩
 have apart:∀k o p b,k ∉ ks->gG M k=some o->σ k=some p->p.1=b->¬ eB σ (kR M ks) b:=by rintro k o p b hk hm hp hb ⟨j,x,q,hj,hq,he,iR⟩;have:=aQ.inj j k x o q p (hs _ _ hj) hm iR hq hp (by rw[hb,he]);subst this;rw[iK,if_neg hk]at hj;cases hj
 have side:∀k o,k ∉ ks->gG M k=some o->∃p,σ k=some p/\OR ρ w σ p o/\w'.heap[p.1]?=w.heap[p.1]?:=fun k o hk hm=>by obtain⟨p,hp,ho⟩:=aQ.obj k o hm;exact⟨p,hp,ho,h3.blk p.1 ho.lt (apart k o p p.1 hk hm hp rfl)⟩
 have ext:zN w σ M w' σ' (aY M (ri r.2.1 l)):=by
  refine⟨h3.os,h3.tape,h3.output,h3.size,fun b hb hn=>h3.blk b hb fun ho=>hn (ho.sub hs),fun b hb=>?_,h3.sig,fun b hb=>?_⟩
  ·obtain⟨k,o,p,hk,hp,rfl,iR⟩:=hb
   rcases get k o hk with hk | ⟨hn,hk⟩
   ·exact(h3.own p.1 ⟨k,o,p,hk,hp,rfl,iR⟩).imp (fun g=>g.sub hs) id
   obtain⟨q,hq,_⟩:=side k o hn hk;rw[h3.sig _ _ hq]at hp;cases hp;exact .inl ⟨k,o,p,hk,hq,rfl,iR⟩
  obtain⟨k,o,p,hk,hp,rfl⟩:=hb;rcases get k o hk with hk | ⟨hn,hk⟩
  ·exact(h3.held p.1 ⟨k,o,p,hk,hp,rfl⟩).imp (fun⟨j,x,q,g1,g2⟩=>⟨j,x,q,hs _ _ g1,g2⟩) id
  obtain⟨q,hq,_⟩:=side k o hn hk;rw[h3.sig _ _ hq]at hp;cases hp;exact .inl ⟨k,o,p,hk,hq,rfl⟩
 refine⟨σ',h1,⟨fun k o hk=>?_,fun k k' o o' p p' hk ia iR hp uV he=>?_,ext.fix aQ⟩,ext,h4,h5⟩
 ·rcases get k o hk with hk | ⟨hn,hk⟩
  ·exact h2.obj k o hk
  obtain⟨p,hp,ho,hb⟩:=side k o hn hk;exact⟨p,h3.sig _ _ hp,OR.mono h3.sig hb ho⟩
 rcases get k o hk with hk | ⟨hn,hk⟩<;>rcases get k' o' ia with ia | ⟨yZ,ia⟩
 ·exact h2.inj k k' o o' p p' hk ia iR hp uV he
 ·
  exfalso;obtain⟨q,hq,ho,_⟩:=side k' o' yZ ia;rw[h3.sig _ _ hq]at uV;cases uV;rcases h3.own p.1 ⟨k,o,p,hk,hp,rfl,iR⟩ with g | g
  ·exact apart k' o' p' p.1 yZ ia hq he.symm g
  have:=ho.lt;omega
 ·exfalso
  obtain⟨q,hq,ho,_⟩:=side k o hn hk;rw[h3.sig _ _ hq]at hp;cases hp;rcases h3.held p'.1 ⟨k',o',p',ia,uV,rfl⟩ with ⟨j,x,q',hj,nP,D1⟩ | g
  ·have mS:=hs _ _ hj
   have:=aQ.inj k j o x p q' hk mS iR hq nP (he.trans D1.symm);subst this;rw[iK,if_neg hn]at hj;cases hj
  have:=ho.lt;omega
 obtain⟨q,hq,_⟩:=side k o hn hk;obtain⟨q',nP,_⟩:=side k' o' yZ ia;rw[h3.sig _ _ hq]at hp;rw[h3.sig _ _ nP]at uV;cases hp;cases uV;exact aQ.inj k k' o o' p p' hk ia iR hq nP he
def trunc (σ:cb) (n:Nat):cb:=fun k=>if k<n then σ k else none
mutual
theorem VR.trunc {n:Nat}:∀{x:XV} {v:Value},aO n x=true->VR ρ σ x v->VR ρ (trunc σ n) x v
 | .un,_,_,_=>by simp only[VR]
 | .udf,_,_,hv=>by simpa only [VR] using hv
 | .int ..,_,_,hv=>by simpa only [VR] using hv
 | .bool _,_,_,hv=>by simpa only [VR] using hv
 | .str _,_,_,hv=>by simpa only [VR] using hv
 | .si ..,_,_,hv=>by simpa only [VR] using hv
 | .nils,_,_,hv=>by simpa only [VR] using hv
 | .nilp,_,_,hv=>by simpa only [VR] using hv
 | .nilf,_,_,hv=>by simpa only [VR] using hv
 | .nilm,_,_,hv=>by simpa only [VR] using hv
 | .nili,_,_,hv=>by simpa only [VR] using hv
 | .sl k esz off len cap,v,h,hv=>by simp only[aO,abD]at h;simp only[VR,Xs.trunc,if_pos h]at hv ⊢;exact hv
 | .mp k off,v,h,hv=>by simp only[aO,abD]at h;simp only[VR,Xs.trunc,if_pos h]at hv ⊢;exact hv
 | .mm k,v,h,hv=>by simp only[aO,abD]at h;simp only[VR,Xs.trunc,if_pos h]at hv ⊢;exact hv
 | .yd k,v,h,hv=>by simp only[aO,abD]at h;simp only[VR,Xs.trunc,if_pos h]at hv ⊢;exact hv
 | .txt ps,v,_,hv=>by simpa only [VR] using hv
 | .agg cs,v,h,hv=>by simp only[aO]at h;simp only[VR]at hv ⊢;obtain⟨us,h1,r⟩:=hv;exact⟨us,h1,c_.trunc h r⟩
 | .tup cs,v,h,hv=>by simp only[aO]at h;simp only[VR]at hv ⊢;obtain⟨us,h1,r⟩:=hv;exact⟨us,h1,c_.trunc h r⟩
 | .fn f xs ys,v,h,hv=>by
   unfold aO at h;split at h<;>(try (cases h;done))
   rename_i h0;simp only[VR]at hv ⊢;obtain⟨us,us',h1,r,r'⟩:=hv;exact⟨us,us',h1,c_.trunc h0 r,c_.trunc h r'⟩
 | .ifc t x,v,h,hv=>by simp only[aO]at h;simp only[VR]at hv ⊢;obtain⟨u,h1,r⟩:=hv;exact⟨u,h1,VR.trunc h r⟩
theorem c_.trunc {n:Nat}:∀{xs:List XV} {us:List Value},aE n xs=true->c_ ρ σ xs us->c_ ρ (trunc σ n) xs us
 | [],_,_,hv=>by simpa only [c_] using hv
 | x::xs,us,h,hv=>by
   unfold aE at h;split at h<;>(try (cases h;done))
   rename_i h0;simp only[c_]at hv ⊢;obtain⟨u,us',e,h1,h2⟩:=hv;exact⟨u,us',e,VR.trunc h0 h1,c_.trunc h h2⟩
end
theorem eU.trunc {n:Nat}:∀{xs:List (Nat×XV×XV)} {es:List MapEntry},cp.go n xs=true->eU ρ σ xs es->eU ρ (trunc σ n) xs es
 | [],_,_,hv=>by simpa only [eU] using hv
 | (b,k,v)::xs,es,h,hv=>by
   unfold cp.go at h;split at h<;>(try (cases h;done))
   rename_i g1 g2;simp only[eU]at hv ⊢;obtain⟨e,es',e1,e2,h1,h2,h3⟩:=hv;exact⟨e,es',e1,e2,VR.trunc g1 h1,VR.trunc g2 h2,eU.trunc h h3⟩
theorem OR.trunc {n:Nat} {p:Nat×Nat}:∀{o:bx},cp n o=true->OR ρ w σ p o->OR ρ w (trunc σ n) p o
 | .cst cs,h,ho=>by simp only[cp]at h;simp only[OR]at ho ⊢;obtain⟨us,t,fz,h1,h2,h3,h5⟩:=ho;exact⟨us,t,fz,h1,h2,h3,c_.trunc h h5⟩
 | .row cs,h,ho=>by simp only[cp]at h;simp only[OR]at ho ⊢;obtain⟨us,t,fz,h1,h2,h3,h4,h5⟩:=ho;exact⟨us,t,fz,h1,h2,h3,h4,c_.trunc h h5⟩
 | .map es clock,h,ho=>by simp only[cp]at h;simp only[OR]at ho ⊢;obtain⟨es',h1,h2⟩:=ho;exact⟨es',h1,eU.trunc h h2⟩
 | .iter none _ _ _,_,ho=>ho
 | .iter (Option.some m) _ _ _,h,ho=>by simp only[cp,abD]at h;simp only[OR,Xs.trunc,if_pos h]at ho ⊢;exact ho
theorem x_ {n:Nat}:∀{l:List Nat} {k:Nat} {o:bx},pi n M l=true->k ∈ l->gG M k=some o->k<n/\cp n o=true
 | [],_,_,_,hk,_=>by cases hk
 | j::l,k,o,h,hk,hm=>by
   unfold pi at h;split at h
   ·rename_i o' iP
    split at h<;>(try (cases h;done))
    rename_i g1 g2;rw[abD]at g1;rcases aaK.1 hk with rfl | hk
    ·rw[hm]at iP
     cases iP;exact⟨g1,g2⟩
    exact x_ h hk hm
   rename_i iP;rcases aaK.1 hk with rfl | hk
   ·rw[hm]at iP;cases iP
   exact x_ h hk hm
theorem Ok.trunc (aQ:Ok ρ w σ M) {n:Nat} {ks:List Nat} (h:pi n M ks=true):Ok ρ w (trunc σ n) (kR M ks):=by
 have get:∀k o,gG (kR M ks) k=some o->k ∈ ks/\gG M k=some o:=fun k o hk=>by
  rw[iK]at hk;split at hk;·exact⟨‹_›,hk⟩
  cases hk
 have sub:∀k p,Xs.trunc σ n k=some p->σ k=some p:=fun k p h=>by
  simp only[Xs.trunc]at h;split at h;·exact h
  cases h
 refine⟨fun k o hk=>?_,fun k k' o o' p p' hk ia iR hp uV he=>?_,fun b x hb=>⟨(aQ.fix b x hb).1,fun⟨k,o,p,hk,hp,e,iR⟩=>(aQ.fix b x hb).2 ⟨k,o,p,(get k o hk).2,sub _ _ hp,e,iR⟩⟩⟩
 ·obtain⟨g1,g2⟩:=get k o hk
  obtain⟨p,hp,ho⟩:=aQ.obj k o g2;obtain⟨g3,g4⟩:=x_ h g1 g2;exact⟨p,by simp only[Xs.trunc,if_pos g3];exact hp,OR.trunc g4 ho⟩
 exact aQ.inj k k' o o' p p' (get _ _ hk).2 (get _ _ ia).2 iR (sub _ _ hp) (sub _ _ uV) he
theorem cK.untrunc {lo hi:Nat} {ks:List Nat} {val:XV} {v:Value} (ce:∀k,lo<=k->k<hi->σ k=none) (hp:cK ρ w (Xs.trunc σ lo) (kR M ks) lo (val,M',hi) v w'):cK ρ w σ (kR M ks) lo (val,M',hi) v w':=by
 obtain⟨σ2,q1,q2,q3,q4,q5⟩:=hp;simp only at q1 q2 q3 q4 q5;have sub:∀k p,Xs.trunc σ lo k=some p->σ k=some p:=fun k p h=>by
  simp only[Xs.trunc]at h;split at h;·exact h
  cases h
 have m1:∀k p,σ k=some p->(fun k=>if lo<=k/\k<hi then σ2 k else σ k) k=some p:=fun k p h=>by
  simp only;split
  ·rename_i hh
   rw[ce k hh.1 hh.2]at h;cases h
  exact h
 have m2:∀k p,σ2 k=some p->(fun k=>if lo<=k/\k<hi then σ2 k else σ k) k=some p:=fun k p h=>by
  simp only;split;·exact h
  rename_i hh;rcases q5 k with e | e
  ·rw[e]at h;exact sub k p h
  exact(hh e).elim
 have back:∀{j:Nat} {x:bx} {p:Nat×Nat},gG M' j=some x->(fun k=>if lo<=k/\k<hi then σ2 k else σ k) j=some p->σ2 j=some p:=fun {j x p} hj hp=>by obtain⟨q,hq,_⟩:=q2.obj j x hj;have e1:=m2 _ _ hq;rw[e1]at hp;cases hp;exact hq
 have Yr:zN w σ (kR M ks) w' (fun k=>if lo<=k/\k<hi then σ2 k else σ k) M':=by
  refine⟨q3.os,q3.tape,q3.output,q3.size,fun b hb hn=>q3.blk b hb fun ho=>hn ?_,fun b hb=>?_,m1,fun b hb=>?_⟩
  ·obtain⟨j,x,p,hj,hp,e,iR⟩:=ho
   exact⟨j,x,p,hj,sub _ _ hp,e,iR⟩
  ·obtain⟨j,x,p,hj,hp,rfl,iR⟩:=hb
   rcases q3.own p.1 ⟨j,x,p,hj,back hj hp,rfl,iR⟩ with ⟨i,y,q,hi,hq,he⟩ | g
   ·exact .inl ⟨i,y,q,hi,sub _ _ hq,he⟩
   exact .inr g
  obtain⟨j,x,p,hj,hp,rfl⟩:=hb;rcases q3.held p.1 ⟨j,x,p,hj,back hj hp,rfl⟩ with ⟨i,y,q,hi,hq,he⟩ | g
  ·exact .inl ⟨i,y,q,hi,sub _ _ hq,he⟩
  exact .inr g
 refine⟨fun k=>if lo<=k/\k<hi then σ2 k else σ k,q1.mono m2,⟨fun k o hk=>?_,fun k k' o o' p p' hk ia iR hp uV he=>?_,fun b x hb=>⟨(q2.fix b x hb).1,fun⟨k,o,p,hk,hp,e,iR⟩=>(q2.fix b x hb).2 ⟨k,o,p,hk,back hk hp,e,iR⟩⟩⟩,Yr,q4,fun k=>?_⟩
 ·obtain⟨p,hp,ho⟩:=q2.obj k o hk
  exact⟨p,m2 _ _ hp,OR.mono m2 rfl ho⟩
 ·exact q2.inj k k' o o' p p' hk ia iR (back hk hp) (back ia uV) he
 simp only;split;·rename_i hh;exact .inr hh
 exact .inl rfl
def ft (P:Program) (ρ:aK) (g:Nat) (args:List XV) (M:Hp) (nx:Nat) (R:ew->Prop):Prop :=
 ∀(w:World) (σ:cb) (vs:List Value),Ok ρ w σ M->(∀k,nx<=k->σ k=none)->c_ ρ σ args vs ->
  ∀(o:Oper) (a:Act) (K:Act->World->Prop) (Q:Exit->Act->World->Prop),(∀v w',(∃r,R r/\cK ρ w σ M nx r v w')->K (a.put o.dst v) w')->o.upon P a K Q ((callFunc g vs.toArray).run P w)
def ar (P:Program) (ρ:aK) (g:Nat) (args:List XV) (M:Hp) (nx:Nat) (R:ew->Prop):Prop :=
 ft P ρ g args M nx R/\(ρ.det=true->(∃r,R r)->∃r,R r/\ft P ρ g args M nx fun x=>x=r)
def bN (P:Program) (ρ:aK) (g:Nat) (args:List XV) (M:Hp) (nx:Nat) (e:bZ) (hi:Nat):Prop :=
 aE nx args=true/\pi nx M e.rd=true/\(∀k ∈ bM e.upd,k ∈ e.rd\/(nx<=k/\k<hi))/\nx<=hi/\ft P ρ g args (kR M e.rd) nx fun r=>r=(e.val,aY (kR M e.rd) e.upd,hi)
theorem cK.congr {N N':Hp} {lo hi:Nat} {val:XV} {v:Value} (h:∀k,gG N' k=gG N k) (hp:cK ρ w σ M lo (val,N,hi) v w'):cK ρ w σ M lo (val,N',hi) v w':=by
 obtain⟨σ',h1,h2,h3,h4,h5⟩:=hp;refine⟨σ',h1,h2.sub fun k o hk=>by rw[<-h];exact hk,⟨h3.os,h3.tape,h3.output,h3.size,h3.blk,fun b hb=>h3.own b ?_,h3.sig,fun b hb=>h3.held b ?_⟩,h4,h5⟩;·obtain⟨k,o,p,q,r⟩:=hb;exact⟨k,o,p,by rw[<-h];exact q,r⟩
 obtain⟨k,o,p,q,r⟩:=hb;exact⟨k,o,p,by rw[<-h];exact q,r⟩
theorem xX {k:Nat}:∀{us:List (Nat×Option bx)} {M N:Hp},k ∈ bM us->gG (aY M us) k=gG (aY N us) k
 | [],_,_,h=>by cases h
 | (j,some o)::us,M,N,h=>by
   simp only[aY];by_cases hk:k ∈ bM us;·exact xX hk
   rw[eE hk,eE hk,ap,ap];simp only[bM,aaK]at h;rcases h with rfl | h
   ·rw[if_pos rfl,if_pos rfl]
   exact(hk h).elim
 | (j,none)::us,M,N,h=>by
   simp only[aY];by_cases hk:k ∈ bM us;·exact xX hk
   rw[eE hk,eE hk,cV,cV];simp only[bM,aaK]at h;rcases h with rfl | h
   ·rw[if_pos rfl,if_pos rfl]
   exact(hk h).elim
theorem bN.run {g lo hi:Nat} {args:List XV} {e:bZ} (h:bN P ρ g args M lo e hi) (aQ:Ok ρ w σ M) (ce:∀k,lo<=k->k<hi->σ k=none) {vs:List Value} (CR:c_ ρ σ args vs)
 (K:Act->World->Prop) (Q:Exit->Act->World->Prop) (hK:∀v w',cK ρ w σ M lo (e.val,aY M e.upd,hi) v w'->K (a.put o.dst v) w'):o.upon P a K Q ((callFunc g vs.toArray).run P w):=by
 obtain⟨k1,k2,k3,k4,hF⟩:=h;refine hF w (trunc σ lo) vs (aQ.trunc k2) (fun k hk=>by simp only[trunc,if_neg (show ¬ k<lo by omega)]) (c_.trunc k1 CR) o a K Q fun v w' ⟨r,hr,hp⟩=>hK v w' ?_
 subst hr;refine cK.congr (fun k=>?_) ((cK.untrunc ce hp).whole aQ (l:=e.rd++bM e.upd) fun k hk=>abv _ hk);rw[lf];by_cases hu:k ∈ bM e.upd
 ·rw[if_pos (aci _ hu)]
  exact xX hu
 rw[eE hu];by_cases hr:k ∈ e.rd;·rw[if_pos (abv _ hr),eE hu,iK,if_pos hr]
 rw[if_neg (by simp[hr,hu])]
theorem bN.loc {g lo hi:Nat} {args:List XV} {e:bZ} (h:bN P ρ g args M lo e hi) (hN:du M N e.rd):bN P ρ g args N lo e hi:=by
 have sT:∀{l:List Nat},du M N l->pi lo N l=pi lo M l:=by
  intro l
  induction l with
  | nil=>intro _;rfl
  | cons k l ih =>
    intro h;simp only[pi,h k aaC];split<;>simp only[ih (h.of fun j hj=>aaJ _ hj)]
 obtain⟨k1,k2,k3,k4,hF⟩:=h;refine⟨k1,by rw[sT hN];exact k2,k3,k4,?_⟩;rw[uH hN];exact hF
theorem Os (hΓ:∀i op c b k,Γ i op c=some b->bj op k (ρ i) k c=some (.bool b)) (dW:i9 P ρ call) (aQ:Ok ρ w σ M) (bI:fX ρ σ env a.tmps) {lo hi:Nat} (ce:∀k,lo<=k->k<hi->σ k=none) {e:bZ} (h:Bf P Γ call env M lo o.op=some (e,hi)) :
 gv P o a w fun v w'=>cK ρ w σ M lo (e.val,aY M e.upd,hi) v w':=by
 unfold Bf at h;split at h
 ·rename_i e' he
  cases h;intro K Q hK;refine BA hΓ aQ bI (ce lo (u7 _) (aby _)) he K Q fun v w' hp=>hK v w' ?_
  obtain⟨σ',h1,h2,h3,h4⟩:=hp;exact⟨σ',h1,h2,h3,le_succ _,fun k=>(h4 k).imp id fun e=>by subst e;exact⟨u7 _,aby _⟩⟩
 split at h<;>(try (cases h;done))
 rename_i c df;split at h<;>(try (cases h;done))
 rename_i g args hc;simp only at h;split at h<;>(try (cases h;done))
 rename_i val M' nx' k1 k2 hL;cases h;generalize hks:iZ M 1000000 (m_ args []) Tr.nil []=ks at *;obtain⟨vs,h1,h2⟩:=ik (P:=P) (w:=w) bI df hc;intro K Q hK;unfold ads;rw[h2];refine dW g args _ lo _ hL w (trunc σ lo) vs (aQ.trunc k2) (fun k hk=>by simp only[trunc,if_neg (show ¬ k<lo by omega)]) (c_.trunc k1 h1) o a K Q fun v w' ⟨r,hr,hp⟩=>hK v w' ?_
 obtain rfl:=aaE.1 hr;exact(cK.untrunc ce hp).whole aQ fun k hk=>jx _ _ _ _ k hk
end
section
variable {P:Program} {w w' w0:World} {ρ:aK} {σ σ' σ0:cb} {M N M' M0:Hp} {Γ:cc} {call:fB} {env be:eX} {ds:List Deferred}
def yb:List Nat->List Nat->Bool
 | [],_=>true
 | k::ks,l=>match db l k with | true=>false | false=>yb ks l
theorem eg (l:List Nat) (n:Nat):db l n=true ↔ n ∈ l:=by
 induction l with
 | nil=>simp[db]
 | cons k l ih =>
   simp only[db];cases h:aaW k n with
   | true=>have:=aaB h;subst this;simp
   | false =>
     have:¬ n=k:=fun e=>by subst e;simp at h
     simp[this,ih]
theorem pQ:∀{k l:List Nat},yb k l=true->∀x ∈ k,x ∉ l
 | [],_,_,_,h=>by cases h
 | k::ks,l,h,x,hx=>by
   unfold yb at h;split at h<;>(try (cases h;done))
   rename_i h1;rcases aaK.1 hx with rfl | hx
   ·intro hl
    rw[(eg _ _).2 hl]at h1;cases h1
   exact pQ h x hx
abbrev jg:=List (Nat×List Nat×List Nat)
def dM (i:Nat) (e:bZ) (l:jg):jg :=
 match e.rd,e.upd with
 | [],[]=>l
 | rd,us=>(i,rd,bM us)::l
def Ag (ops:List Oper):Nat->List Nat->List Nat
 | 0,acc=>acc
 | i+1,acc=>match db acc i with
   | false=>Ag ops i acc
   | true=>Ag ops i (acc++(match ops[i]? with | some o=>(o.after.toList.filter (fun e=>Region.binds .any e)).map (·.on) | none=>[]))
def T_ (ops:List Oper) (j:Nat):List Nat:=Ag ops (j+1) [j]
def nH (ops:List Oper) (x y:Nat×List Nat×List Nat):Bool :=
 (yb x.2.2 y.2.1&&yb x.2.2 y.2.2&&yb y.2.2 x.2.1)||db (T_ ops y.1) x.1||db (T_ ops x.1) y.1
def g_ (ops:List Oper):jg->Bool
 | []=>true
 | x::l=>l.all (nH ops x)&&g_ ops l
structure iA where
 dst:Option Nat
 val:XV
 rd:List Nat
 upd:List (Nat×Option bx)
 lo:Nat
 hi:Nat
abbrev PS:=eX×Hp
def sM (env:eX):Option Nat->XV->eX
 | none,_=>env
 | some d,v=>aG env d v
theorem pY (env:eX) (d:Option Nat) (v:XV) (t:Nat):gG (sM env d v) t=if d=some t then some v else gG env t:=by
 cases d with
 | none=>rw[if_neg af];rfl
 | some d =>
   simp only[sM,ap,aat]
def iA.app (x:iA) (s:PS):PS:=(sM s.1 x.dst x.val,aY s.2 x.upd)
def cI (S:Nat->Bool):List iA->Nat->PS->PS
 | [],_,s=>s
 | x::xs,i,s=>cI S xs (i+1) (if S i then x.app s else s)
theorem lS {k:Nat}:∀{us:List (Nat×Option bx)} {M N:Hp},(k ∉ bM us->gG M k=gG N k)->gG (aY M us) k=gG (aY N us) k
 | [],_,_,h=>h (by simp[bM])
 | (j,some o)::us,M,N,h=>by
   simp only[aY];refine lS fun hk=>?_
   rw[ap,ap];by_cases e:j=k;·rw[if_pos e,if_pos e]
   rw[if_neg e,if_neg e];exact h (by simp only[bM,aaK,not_or];exact⟨fun q=>e q.symm,hk⟩)
 | (j,none)::us,M,N,h=>by
   simp only[aY];refine lS fun hk=>?_
   rw[cV,cV];by_cases e:j=k;·rw[if_pos e,if_pos e]
   rw[if_neg e,if_neg e];exact h (by simp only[bM,aaK,not_or];exact⟨fun q=>e q.symm,hk⟩)
theorem lj {S S':Nat->Bool} {t:Nat}:∀(xs:List iA) (i:Nat) (s s':PS),gG s.1 t=gG s'.1 t ->
 (∀j x,xs[j]?=some x->x.dst=some t->S (i+j)=S' (i+j))->gG (cI S xs i s).1 t=gG (cI S' xs i s').1 t
 | [],_,_,_,h,_=>h
 | x::xs,i,s,s',h,hs=>by
   simp only[cI];have h0:x.dst=some t->S i=S' i:=fun hd=>by have:=hs 0 x rfl hd;simpa using this
   refine lj xs (i+1) _ _ ?_ fun j y hj hy=>by
    have:=hs (j+1) y (by simpa using hj) hy
    rwa [show i+1+j=i+(j+1) by omega]
   by_cases hd:x.dst=some t
   ·rw[h0 hd]
    split;·simp only[iA.app,pY,h]
    exact h
   have e:∀s:PS,gG (x.app s).1 t=gG s.1 t:=fun s=>by simp only[iA.app,pY];rw[if_neg hd]
   split<;>split<;>simp only[e,h]
theorem xf {S S':Nat->Bool} {k:Nat}:∀(xs:List iA) (i:Nat) (s s':PS),gG s.2 k=gG s'.2 k ->
 (∀j x,xs[j]?=some x->k ∈ bM x.upd->S (i+j)=S' (i+j))->gG (cI S xs i s).2 k=gG (cI S' xs i s').2 k
 | [],_,_,_,h,_=>h
 | x::xs,i,s,s',h,hs=>by
   simp only[cI];have h0:k ∈ bM x.upd->S i=S' i:=fun hd=>by have:=hs 0 x rfl hd;simpa using this
   refine xf xs (i+1) _ _ ?_ fun j y hj hy=>by
    have:=hs (j+1) y (by simpa using hj) hy
    rwa [show i+1+j=i+(j+1) by omega]
   by_cases hd:k ∈ bM x.upd
   ·rw[h0 hd]
    split;·exact lS fun _=>h
    exact h
   have e:∀s:PS,gG (x.app s).2 k=gG s.2 k:=fun s=>eE hd
   split<;>split<;>simp only[e,h]
theorem jI {S S':Nat->Bool}:∀(xs:List iA) (i:Nat) (s:PS),(∀j,j<xs.length->S (i+j)=S' (i+j))->cI S xs i s=cI S' xs i s
 | [],_,_,_=>rfl
 | x::xs,i,s,h=>by
   simp only[cI];have h0:=h 0 af;simp only[aaX]at h0;rw[h0];exact jI xs (i+1) _ fun j hj=>by
    have:=h (j+1) (by simpa using hj)
    rwa [show i+1+j=i+(j+1) by omega]
theorem jC {S:Nat->Bool}:∀(xs:List iA) (i:Nat) (s:PS),(∀j,j<xs.length->S (i+j)=false)->cI S xs i s=s
 | [],_,_,_=>rfl
 | x::xs,i,s,h=>by
   simp only[cI];have h0:=h 0 af;simp only[aaX]at h0;rw[h0];exact jC xs (i+1) _ fun j hj=>by
    have:=h (j+1) (by simpa using hj)
    rwa [show i+1+j=i+(j+1) by omega]
theorem ke {S:Nat->Bool}:∀(xs ys:List iA) (i:Nat) (s:PS),cI S (xs++ys) i s=cI S ys (i+xs.length) (cI S xs i s)
 | [],_,_,_=>rfl
 | x::xs,ys,i,s=>by simp only[aa8,cI,aaw];rw[ke xs ys,show i+1+xs.length=i+(xs.length+1) by omega]
theorem wW (xs:List iA) (i:Nat) (s:PS):cI (fun _=>true) (xs.take i) 0 s=cI (fun j=>decide (j<i)) xs 0 s:=by
 conv=>rhs;rw[<-acd i xs]
 rw[ke,jC (List.drop i xs)];·exact jI _ _ _ fun j hj=>by rw[aaS]at hj;simp;omega
 intro j hj;rw[acz]at hj;rw[aaS,abF aa];simp
theorem Ax {S:Nat->Bool} {xs:List iA} {i:Nat} {x:iA} {s:PS} (hx:xs[i]?=some x) (hi:S i=false)
 (h1:∀j y,xs[j]?=some y->i<j->S j=true->∀t,x.dst=some t->y.dst≠some t) (h2:∀j y,xs[j]?=some y->i<j->S j=true->∀k ∈ bM x.upd,k ∉ bM y.upd) :
 (∀t,gG (cI (fun j=>S j||decide (j=i)) xs 0 s).1 t=gG (x.app (cI S xs 0 s)).1 t)/\∀k,gG (cI (fun j=>S j||decide (j=i)) xs 0 s).2 k=gG (x.app (cI S xs 0 s)).2 k:=by
 obtain⟨uT,hxe⟩:=aaq.1 hx;have JL:xs=xs.take i++x::xs.drop (i+1):=by rw[<-hxe,<-drop_eq_getElem_cons uT,acd]
 have ay:(xs.take i).length=i:=by rw[aaS];omega
 have D9:∀j y,(xs.drop (i+1))[j]?=some y->xs[i+1+j]?=some y:=fun j y h=>by rw[getElem?_drop]at h;exact h
 obtain⟨S',vV⟩:∃S':Nat->Bool,S'=fun j=>S j||decide (j=i):=⟨_,rfl⟩
 rw[<-vV];have e1:∀s,cI S' xs 0 s=cI S' (xs.drop (i+1)) (i+1) (x.app (cI S' (xs.take i) 0 s)):=fun s=>by
  conv=>lhs;rw[JL]
  rw[ke,ay,aaU,cI,vV];simp
 have e2:cI S' (xs.take i) 0 s=cI S (xs.take i) 0 s:=jI _ _ _ fun j hj=>by rw[ay]at hj;simp[vV];omega
 have e3:∀s,cI S xs 0 s=cI S (xs.drop (i+1)) (i+1) (cI S (xs.take i) 0 s):=fun s=>by
  conv=>lhs;rw[JL]
  rw[ke,ay,aaU,cI,hi];simp
 have e4:∀s,cI S' (xs.drop (i+1)) (i+1) s=cI S (xs.drop (i+1)) (i+1) s:=fun s=>jI _ _ _ fun j hj=>by simp[vV];omega
 rw[e1,e2,e3,e4];obtain⟨s1,R5⟩:=aap (cI S (xs.take i) 0 s);rw[<-R5];refine⟨fun t=>?_,fun k=>?_⟩
 ·by_cases hd:x.dst=some t
  ·have a1:gG (cI S (xs.drop (i+1)) (i+1) (x.app s1)).1 t=gG (x.app s1).1 t:=by
    rw[lj (S':=fun _=>false) _ _ _ (x.app s1) rfl fun j y hj hy=>?_,jC _ _ _ fun _ _=>rfl];cases hS:S (i+1+j) with
    | false=>rfl
    | true=>exact(h1 _ y (D9 j y hj) aa hS t hd hy).elim
   rw[a1];simp only[iA.app,pY,hd,if_true]
  have a2:∀s:PS,gG (x.app s).1 t=gG s.1 t:=fun s=>by simp only[iA.app,pY];rw[if_neg hd]
  rw[a2];exact lj _ _ _ _ (a2 _) fun _ _ _ _=>rfl
 by_cases hk:k ∈ bM x.upd
 ·have a1:gG (cI S (xs.drop (i+1)) (i+1) (x.app s1)).2 k=gG (x.app s1).2 k:=by
   rw[xf (S':=fun _=>false) _ _ _ (x.app s1) rfl fun j y hj hy=>?_,jC _ _ _ fun _ _=>rfl];cases hS:S (i+1+j) with
   | false=>rfl
   | true=>exact(h2 _ y (D9 j y hj) aa hS k hk hy).elim
  rw[a1];exact lS fun h=>(h hk).elim
 have a2:∀s:PS,gG (x.app s).2 k=gG s.2 k:=fun s=>eE hk
 rw[a2];exact xf _ _ _ _ (a2 _) fun _ _ _ _=>rfl
def Gv (P:Program) (ρ:aK) (Γ:cc) (call:fB) (all:List Oper) (o:Oper) (x:iA) (s:PS):Prop :=
 x.dst=o.dst /\
  ((a_ all s.1 o.guard=some true/\∃e,(Bf P Γ call s.1 s.2 x.lo o.op=some (e,x.hi)\/∃c g args,o.op = .call c/\ca s.1 c=some (g,args)/\bN P ρ g args s.2 x.lo e x.hi)/\x.val=e.val/\x.rd=e.rd/\x.upd=e.upd) \/
   (a_ all s.1 o.guard=some false/\x.val = .udf/\x.rd=[]/\x.upd=[]/\x.lo=x.hi))
def Bo (P:Program) (Γ:cc) (call:fB) (n:Nat) (all:List Oper):List Oper->Nat->XS->jg->Option (XS×jg)
 | [],_,s,log=>some (s,log)
 | o::os,i,s,log=>match a_ all s.env o.guard with
   | none=>none
   | some false=>match cu n s.env o.dst .udf with
     | some env=>Bo P Γ call n all os (i+1) ⟨env,s.M,s.nx⟩ log
     | none=>none
   | some true=>match Bf P Γ call s.env s.M s.nx o.op with
     | none=>none
     | some (e,nx')=>match cu n s.env o.dst e.val,aaP s.nx nx' with
       | some env,true=>Bo P Γ call n all os (i+1) ⟨env,aY s.M e.upd,nx'⟩ (dM i e log)
       | _,_=>none
def sI:List iA->Nat->jg->jg
 | [],_,l=>l
 | x::xs,i,l=>sI xs (i+1) (dM i ⟨.un,x.rd,x.upd⟩ l)
theorem tc {n:Nat} {env be:eX} {d:Option Nat} {v:XV} (h:cu n env d v=some be):be=sM env d v/\∀t,d=some t->t<n:=by
 cases d with
 | none=>simp only[cu,aat]at h;exact⟨h.symm,fun t h=>by cases h⟩
 | some d =>
   simp only[cu]at h;split at h<;>(try (cases h;done))
   rename_i aL;rw[abD]at aL;cases h;exact⟨rfl,fun t ht=>by cases ht;exact aL⟩
def fU:Nat->List iA->Nat->Prop
 | lo,[],hi=>lo=hi
 | lo,x::xs,hi=>x.lo=lo/\x.lo<=x.hi/\fU x.hi xs hi
theorem wB {n:Nat} {all:List Oper}:∀(os:List Oper) (i:Nat) (s:XS) (log:jg) (s':XS) (log':jg),Bo P Γ call n all os i s log=some (s',log') ->
 ∃xs,xs.length=os.length/\(s'.env,s'.M)=cI (fun _=>true) xs i (s.env,s.M)/\log'=sI xs i log/\fU s.nx xs s'.nx/\(∀x ∈ xs,∀t,x.dst=some t->t<n) /\
  ∀j o x,os[j]?=some o->xs[j]?=some x->Gv P ρ Γ call all o x (cI (fun _=>true) (xs.take j) i (s.env,s.M))
 | [],i,s,log,s',log',h=>by simp only[Bo,aat,act]at h;obtain⟨rfl,rfl⟩:=h;exact⟨[],rfl,rfl,rfl,rfl,af,fun j o x h=>by simp at h⟩
 | o::os,i,s,log,s',log',h=>by
   have mk:∀(x:iA) (s1:XS) (yS:jg),Gv P ρ Γ call all o x (s.env,s.M)->(s1.env,s1.M)=x.app (s.env,s.M)->yS=dM i ⟨.un,x.rd,x.upd⟩ log->x.lo=s.nx->x.hi=s1.nx->x.lo<=x.hi->(∀t,x.dst=some t->t<n) ->
    Bo P Γ call n all os (i+1) s1 yS=some (s',log') ->
    ∃xs,xs.length=(o::os).length/\(s'.env,s'.M)=cI (fun _=>true) xs i (s.env,s.M)/\log'=sI xs i log/\fU s.nx xs s'.nx/\(∀x ∈ xs,∀t,x.dst=some t->t<n) /\
     ∀j o' x,(o::os)[j]?=some o'->xs[j]?=some x->Gv P ρ Γ call all o' x (cI (fun _=>true) (xs.take j) i (s.env,s.M)):=by
    intro x s1 yS bw h1 h2 h3 h4 h5 h6 h7;obtain⟨xs,g2,g3,g4,g5,g6,g7⟩:=wB os (i+1) s1 yS s' log' h7;refine⟨x::xs,by simp[g2],?_,?_,⟨h3,h5,by rw[h4];exact g5⟩,fun y hy=>?_,fun j o' x' hj hx=>?_⟩;·rw[g3,h1];rfl
    ·rw[g4,h2];rfl
    ·rcases aaK.1 hy with rfl | hy
     ·exact h6
     exact g6 y hy
    cases j with
    | zero =>
      simp only[aaI,aat]at hj hx;subst hj hx;exact bw
    | succ j =>
      simp only[aa1]at hj hx;have:=g7 j o' x' hj hx;rw[h1]at this;exact this
   unfold Bo at h;split at h<;>(try (cases h;done))<;>rename_i hg
   ·split at h<;>(try (cases h;done))
    rename_i be he;obtain⟨rfl,e2⟩:=tc he;exact mk ⟨o.dst,.udf,[],[],s.nx,s.nx⟩ ⟨sM s.env o.dst .udf,s.M,s.nx⟩ log ⟨rfl,.inr ⟨hg,rfl,rfl,rfl,rfl⟩⟩ rfl rfl rfl rfl (u7 _) e2 h
   split at h<;>(try (cases h;done))
   rename_i e nx' df;split at h<;>(try (cases h;done))
   rename_i be he jT;obtain⟨rfl,e2⟩:=tc he;exact mk ⟨o.dst,e.val,e.rd,e.upd,s.nx,nx'⟩ ⟨sM s.env o.dst e.val,aY s.M e.upd,nx'⟩ (dM i e log) ⟨rfl,.inl ⟨hg,e,.inl df,rfl,rfl,rfl⟩⟩ rfl rfl rfl rfl (aaD jT) e2 h
def S1:Operand->Option Nat
 | .tmp t=>some t
 | _=>none
def ph (all:List Oper) (o:Oper):List Nat:=(tT o.op).filterMap S1++(match o.guard with | some (j,_)=>(sm all j).toList | none=>[])
theorem Ck {c:Call} {r:Nat×List XV} (h:ca env c=some r) {nx:Nat}:cY P Γ env M nx (.call c)=none:=by
 unfold ca at h;split at h<;>(try (cases h;done))
 rename_i f hf;simp only[cY,hf]
theorem LX {nx hi:Nat} {o:Op} {e:bZ} (h:Bf P Γ call env M nx o=some (e,hi)) (hN:du M N e.rd):Bf P Γ call env N nx o=some (e,hi):=by
 unfold Bf at h ⊢;split at h
 ·rename_i e' he
  cases h;simp only[LL he hN]
 split at h<;>(try (cases h;done))
 rename_i c;split at h<;>(try (cases h;done))
 rename_i g args hc;simp only at h;split at h<;>(try (cases h;done))
 rename_i v M' nx' k1 k2 hL;cases h;simp only at hN;have hr:=nY _ _ _ _ hN;have sT:∀{l:List Nat},du M N l->pi nx N l=pi nx M l:=by
  intro l
  induction l with
  | nil=>intro _;rfl
  | cons k l ih =>
    intro h;simp only[pi,h k aaC];split<;>simp only[ih (h.of fun j hj=>aaJ _ hj)]
 simp only[Ck hc,hc,hr,uH hN,sT hN,k1,k2,hL]
theorem LB {nx:Nat} {o:Op} (h:∀x ∈ tT o,cG be x=cG env x):Bf P Γ call be M nx o=Bf P Γ call env M nx o:=by
 unfold Bf;rw[LN h];split;·rfl
 cases o<;>first | rfl | skip
 rename_i c _;simp only[rP h]
theorem BT {all:List Oper} {g:Option (Nat×Bool)} (h:∀j want d,g=some (j,want)->sm all j=some d->gG be d=gG env d):a_ all be g=a_ all env g:=by
 unfold a_;split;·rfl
 rename_i j want;split;·rfl
 rename_i d hd;rw[h j want d rfl hd]
theorem Gv.move {all:List Oper} {o:Oper} {x:iA} {s s':PS} (h:Gv P ρ Γ call all o x s) (h1:∀t ∈ ph all o,gG s'.1 t=gG s.1 t) (h2:∀k ∈ x.rd,gG s'.2 k=gG s.2 k) :
 Gv P ρ Γ call all o x s':=by
 have hg:a_ all s'.1 o.guard=a_ all s.1 o.guard:=BT fun j want d q1 q2=>h1 d (by simp only[ph,abe];exact .inr (by simp[q1,q2]))
 have df:∀x ∈ tT o.op,cG s'.1 x=cG s.1 x:=fun y hy=>by
  cases y with
  | tmp t =>
    simp only[cG];rw[h1 t (by simp only[ph,abe,mem_filterMap];exact .inl ⟨.tmp t,hy,rfl⟩)]
  | const v=>rfl
  | func f=>rfl
  | global g=>rfl
 obtain⟨hd,h⟩:=h;refine⟨hd,?_⟩;rcases h with ⟨q,e,ha,e1,e2,e3⟩ | ⟨q,r⟩
 ·refine .inl ⟨by rw[hg];exact q,e,?_,e1,e2,e3⟩
  rcases ha with ha | ⟨c,g,args,hc,pw,ha⟩
  ·left
   rw[LB df];exact LX ha (by rw[<-e2];exact h2)
  right;rw[hc]at df;exact⟨c,g,args,hc,by rw[rP df];exact pw,ha.loc (by rw[<-e2];exact h2)⟩
 exact .inr ⟨by rw[hg];exact q,r⟩
def sg (o:Oper):List Nat:=(o.after.toList.filter (fun e=>Region.binds .any e)).map (·.on)
def lW (ops:List Oper) (S:Nat->Bool):Prop:=∀i o,ops[i]?=some o->S i=true->∀e ∈ sg o,S e=true
theorem lZ {ops:List Oper} {S:Nat->Bool} {j:Nat} (hc:lW ops S) (hj:∀o,ops[j]?=some o->∀e ∈ sg o,S e=true):∀(i:Nat) (acc:List Nat),(∀k ∈ acc,k=j\/S k=true)->∀k ∈ Ag ops i acc,k=j\/S k=true
 | 0,_,h,k,hk=>h k hk
 | i+1,acc,h,k,hk=>by
   unfold Ag at hk;split at hk;·exact lZ hc hj i acc h k hk
   rename_i hm;refine lZ hc hj i _ (fun k hk=>?_) k hk;rcases abe.1 hk with hk | hk
   ·exact h k hk
   split at hk
   ·rename_i o ho
    rcases h i ((eg _ _).1 hm) with rfl | hS
    ·exact .inr (hj o ho k hk)
    exact .inr (hc i o ho hS k hk)
   cases hk
theorem ea {ops:List Oper} {S:Nat->Bool} {j:Nat} (hc:lW ops S) (hj:∀o,ops[j]?=some o->∀e ∈ sg o,S e=true) {k:Nat} (hk:db (T_ ops j) k=true):k=j\/S k=true :=
 lZ hc hj (j+1) [j] (fun k hk=>.inl (aaE.1 hk)) k ((eg _ _).1 hk)
def jq (ops:List Oper):Bool:=(aa7 ops.length).all fun i=>match ops[i]? with | some o=>(sg o).all fun e=>abc e i | none=>true
theorem cg {ops:List Oper} (h:jq ops=true) {i:Nat} {o:Oper} (ho:ops[i]?=some o):∀e ∈ sg o,e<i:=by intro e he;have hi:i<ops.length:=(aaq.1 ho).1;have:=aa4.1 h i (ady.2 hi);rw[ho]at this;have:=aa4.1 this e he;rw[abc]at this;exact aaD this
def mF (all:List Oper) (x y:Oper):Bool :=
 (match x.dst with | some d=>db (ph all y) d||(match y.dst with | some d'=>aaW d d' | none=>false) | none=>false) ||
 (match y.dst with | some d=>db (ph all x) d | none=>false)
def ko (ops:List Oper):Bool:=(aa7 ops.length).all fun k=>match ops[k]? with
 | some y=>(aa7 k).all fun j=>match ops[j]? with | some x=>!mF ops x y||db (T_ ops k) j | none=>true
 | none=>true
theorem gp {ops:List Oper} (h:ko ops=true) {j k:Nat} {x y:Oper} (hx:ops[j]?=some x) (hy:ops[k]?=some y) (VD:j<k) (hc:mF ops x y=true):db (T_ ops k) j=true:=by have hk:k<ops.length:=(aaq.1 hy).1;have:=aa4.1 h k (ady.2 hk);rw[hy]at this;have:=aa4.1 this j (ady.2 VD);rw[hx]at this;simpa [hc] using this
def qM (x y:Nat×List Nat×List Nat):Prop:=(∀k ∈ x.2.2,k ∉ y.2.1/\k ∉ y.2.2)/\∀k ∈ y.2.2,k ∉ x.2.1
theorem B6 {ops:List Oper} {x y:Nat×List Nat×List Nat} (h:nH ops x y=true):qM x y\/db (T_ ops y.1) x.1=true\/db (T_ ops x.1) y.1=true:=by
 simp only[nH,ab0,aaF]at h;rcases h with (⟨⟨h1,h2⟩,h3⟩ | h) | h
 ·exact .inl ⟨fun k hk=>⟨pQ h1 k hk,pQ h2 k hk⟩,fun k hk=>pQ h3 k hk⟩
 ·exact .inr (.inl h)
 exact .inr (.inr h)
theorem Hx {ops:List Oper}:∀(xs:List iA) (i:Nat) (l:List (Nat×List Nat×List Nat)),g_ ops (sI xs i l)=true->g_ ops l=true /\
 ∀j x,xs[j]?=some x->∀p ∈ l,qM (i+j,x.rd,bM x.upd) p\/db (T_ ops p.1) (i+j)=true\/db (T_ ops (i+j)) p.1=true
 | [],_,l,h=>⟨h,fun j x h=>by simp at h⟩
 | x::xs,i,l,h=>by
   obtain⟨h1,h2⟩:=Hx xs (i+1) _ h;have hl:∀p ∈ l,p ∈ dM i ⟨.un,x.rd,x.upd⟩ l:=fun p hp=>by
    unfold dM;split;·exact hp
    exact aaJ _ hp
   have h3:g_ ops l=true/\∀p ∈ l,qM (i,x.rd,bM x.upd) p\/db (T_ ops p.1) i=true\/db (T_ ops i) p.1=true:=by
    unfold dM at h1;split at h1
    ·rename_i e1 e2
     simp only at e1 e2;exact⟨h1,fun p _=>.inl ⟨by simp[e2,bM],by simp[e1]⟩⟩
    simp only[g_,aaF]at h1;exact⟨h1.2,fun p hp=>B6 (aa4.1 h1.1 p hp)⟩
   refine⟨h3.1,fun j y hj p hp=>?_⟩;cases j with
   | zero =>
     simp only[aaI,aat]at hj;subst hj;exact h3.2 p hp
   | succ j =>
     have:=h2 j y (by simpa using hj) p (hl p hp)
     rwa [show i+1+j=i+(j+1) by omega]at this
theorem lE {ops:List Oper}:∀(xs:List iA) (i:Nat) (l:List (Nat×List Nat×List Nat)),g_ ops (sI xs i l)=true->∀j k x y,xs[j]?=some x->xs[k]?=some y->j<k ->
 qM (i+k,y.rd,bM y.upd) (i+j,x.rd,bM x.upd)\/db (T_ ops (i+j)) (i+k)=true\/db (T_ ops (i+k)) (i+j)=true
 | [],_,_,_,j,_,_,_,hj,_,_=>by simp at hj
 | x0::xs,i,l,h,j,k,x,y,hj,hk,VD=>by
   cases k with
   | zero=>omega
   | succ k =>
     simp only[aa1]at hk;cases j with
     | succ j =>
       simp only[aa1]at hj;have:=lE xs (i+1) _ h j k x y hj hk aa
       rwa [show i+1+j=i+(j+1) by omega,show i+1+k=i+(k+1) by omega]at this
     | zero =>
       simp only[aaI,aat]at hj;subst hj;obtain⟨_,h2⟩:=Hx xs (i+1) _ h;by_cases he:x0.rd=[]/\x0.upd=[];·exact .inl ⟨by simp[he.1,he.2,bM],by simp[he.2,bM]⟩
       have hm:(i,x0.rd,bM x0.upd) ∈ dM i ⟨.un,x0.rd,x0.upd⟩ l:=by
        unfold dM;split
        ·rename_i e1 e2
         exact(he ⟨e1,e2⟩).elim
        exact aaC
       have:=h2 k y hk _ hm
       rwa [show i+1+k=i+(k+1) by omega]at this
end
end
end Go.Xs
