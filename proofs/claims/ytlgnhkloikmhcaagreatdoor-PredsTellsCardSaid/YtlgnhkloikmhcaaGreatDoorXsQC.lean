/- A part: the walk. -/
import Derived.Test.YtlgnhkloikmhcaaGreatDoorXsQB
import Derived.Test.YtlgnhkloikmhcaaGreatDoorProg
set_option maxRecDepth 100000
set_option maxHeartbeats 4000000
set_option linter.all false
set_option linter.deprecated false
open Bool renaming and_eq_true->aaF,not_not->adg
open Classical renaming choose->acV,choose_spec->aa9
open Go.IntKind renaming u64->abW
open Go.Proofs.Tryz renaming func115->adV,func167->ade,func168->adc,func192->adT,func325->adS,underlying31->abJ
open List renaming getElem?_eq_some_iff->aaq,length->adJ,range->aa7,take->abP,cons_append->aa8,drop_append_of_le_length->abA,drop_drop->abi,drop_eq_getElem_cons->aaV,drop_eq_nil_of_le->aaM,drop_succ_cons->acs,drop_zero->acm,flatMap_append->abL,flatMap_cons->aaN,getElem?_append_left->aa5,getElem?_concat_length->abl,getElem?_cons_succ->aa1,getElem?_cons_zero->aaI,length_append->aau,length_cons->aaw,length_drop->acz,length_eq_zero_iff->aaG,length_nil->aaO,length_take->aaS,map_cons->aa3,mem_append->abe,mem_cons->aaK,mem_cons_of_mem->aaJ,mem_cons_self->aaC,mem_map->ab6,mem_of_getElem?->aaH,mem_of_mem_drop->acX,mem_of_mem_take->acN,mem_singleton->aaE,nil_append->abp,take_append_of_le_length->abT,take_length->aa6,take_of_length_le->aaz
open Nat renaming add_mul->abZ,add_zero->aaX,blt->abc,le_of_eq->acQ,le_refl->u7,le_trans->aaT,lt_of_lt_of_le->aax,lt_of_not_le->acG,zero_add->aaU,zero_mul->ad0,ble_eq_true_of_le->aaL,blt_eq->abD,lt_succ_self->aby,mul_le_mul_right->abg,succ_mul->ac9
open Option.some renaming injEq->aat
namespace Go.Xs
open List Nat Option
variable{H M M' N:Hp}{P:Program}{a b b' g hi i j k kb key kt lo m mn n nx sz:Nat}{c1 c2 c3 c4 pv v vend vnames vnum vrows z:XV}{caps cs rs xs:List XV}{env:eX}{p q:Nat->Prop}{ps:List (Int×Int)}{us:List (Nat×Option bx)}{Γ:cc}{α:Type}
noncomputable section
section
open Go.Proofs
noncomputable abbrev an:=Tryz.prog
abbrev Wc(t:Nat)(z:XV)(x:NT):Prop:=sa an t=some (1,false)/\cE an t=some 1/\aJ an t=some [z]/\nt an t = x
abbrev tyB(t:Nat)(z:XV)(k:IntKind):Prop:=sa an t=some (1,false)/\cE an t=some 1/\aJ an t=some [z]/\Ge an t=some k/\nt an t = .no
abbrev SP(t n b:Nat)(z:List XV):Prop:=sa an t=some (1,false)/\cE an t=some 1/\aJ an t=some [.nils]/\es an t=some n/\ez an t=some (n,b,z)/\nt an t = .sl
abbrev Uo(t n:Nat)(z:List XV)(f:List (Nat×Nat×Nat)):Prop:=sa an t=some (n,true)/\cE an t=some n/\aJ an t=some z/\fz an t=f/\mQ an t=true/\nt an t = .no
abbrev V5(t n:Nat)(z:List XV)(f:List (Nat×Nat×Nat))(s:List CK):Prop:=sa an t=some (n,true)/\cE an t=some n/\aJ an t=some z/\fz an t=f/\mQ an t=true/\u0 an 40 t=some s/\Lp an t=true/\nt an t = .no
theorem dA:tyB 3 (.int .i64 0) .i64:=⟨U,U,U,U,U⟩
theorem kH:Wc 4 (.bool false) .no:=⟨U,U,U,U⟩
theorem ty5:tyB 5 (.int .u8 0) .u8:=⟨U,U,U,U,U⟩
theorem S6:Wc 9 (.str []) .no:=⟨U,U,U,U⟩
theorem jp:SP 22 11 120 [.int .i64 0,.int .u64 0,.int .u64 0,.int .u64 0,.int .u64 0,.int .u64 0,.int .i64 0,.int .u64 0,.int .u64 0,.nils,.nils]:=⟨U,U,U,U,U,U⟩
theorem dc:Wc 25 .nilp .pt:=⟨U,U,U,U⟩
theorem ty26:tyB 26 (.int .i64 0) .i64:=⟨U,U,U,U,U⟩
theorem Lc:SP 29 9 72 [.int .i64 0,.int .i64 0,.int .i64 0,.int .u64 0,.int .u64 0,.int .u64 0,.int .u64 0,.int .u64 0,.int .i64 0]:=⟨U,U,U,U,U,U⟩
theorem cU:tyB 31 (.int .u64 0) .u64:=⟨U,U,U,U,U⟩
theorem OL:V5 33 2 [.int .u64 0,.int .u64 0] [(0,1,31),(1,1,31)] [.i .u64,.i .u64]:=⟨U,U,U,U,U,U,U,U⟩
theorem jW:V5 35 9 [.int .i64 0,.int .i64 0,.int .i64 0,.int .u64 0,.int .u64 0,.int .u64 0,.int .u64 0,.int .u64 0,.int .i64 0] [(0,1,3),(1,1,3),(2,1,3),(3,1,31),(4,2,33),(6,2,33),(8,1,3)] [.i .i64,.i .i64,.i .i64,.i .u64,.i .u64,.i .u64,.i .u64,.i .u64,.i .i64]:=⟨U,U,U,U,U,U,U,U⟩
theorem Y1:V5 39 5 [.int .u64 0,.int .i64 0,.int .i64 0,.int .i64 0,.int .i64 0] [(0,1,31),(1,1,3),(2,1,3),(3,1,3),(4,1,3)] [.i .u64,.i .i64,.i .i64,.i .i64,.i .i64]:=⟨U,U,U,U,U,U,U,U⟩
theorem gZ:SP 42 4 48 [.int .i64 0,.int .u64 0,.int .u64 0,.nils]:=⟨U,U,U,U,U,U⟩
theorem fu:Uo 44 4 [.int .i64 0,.int .u64 0,.int .u64 0,.nils] [(0,1,3),(1,1,31),(2,1,31),(3,1,42)]:=⟨U,U,U,U,U,U⟩
theorem iH:SP 45 4 32 [.int .u64 0,.int .u64 0,.int .u64 0,.bool false]:=⟨U,U,U,U,U,U⟩
theorem nQ:Uo 47 11 [.int .i64 0,.int .u64 0,.int .u64 0,.int .u64 0,.int .u64 0,.int .u64 0,.int .i64 0,.int .u64 0,.int .u64 0,.nils,.nils] [(0,1,3),(1,1,31),(2,1,31),(3,2,33),(5,1,31),(6,4,44),(10,1,45)]:=⟨U,U,U,U,U,U⟩
theorem sb:SP 48 8 56 [.int .i64 0,.int .i64 0,.int .u64 0,.int .u64 0,.int .u64 0,.int .u64 0,.bool false,.bool false]:=⟨U,U,U,U,U,U⟩
theorem wh:V5 51 8 [.int .i64 0,.int .i64 0,.int .u64 0,.int .u64 0,.int .u64 0,.int .u64 0,.bool false,.bool false] [(0,1,3),(1,1,3),(2,1,31),(3,1,31),(4,2,33),(6,1,4),(7,1,4)] [.i .i64,.i .i64,.i .u64,.i .u64,.i .u64,.i .u64,.b,.b]:=⟨U,U,U,U,U,U,U,U⟩
theorem Oy:SP 52 5 32 [.int .u64 0,.int .u64 0,.int .i64 0,.bool false,.bool false]:=⟨U,U,U,U,U,U⟩
theorem Kx:V5 55 5 [.int .u64 0,.int .u64 0,.int .i64 0,.bool false,.bool false] [(0,2,33),(2,1,3),(3,1,4),(4,1,4)] [.i .u64,.i .u64,.i .i64,.b,.b]:=⟨U,U,U,U,U,U,U,U⟩
theorem nO:SP 57 11 120 [.int .i64 0,.int .u64 0,.int .u64 0,.int .u64 0,.int .u64 0,.int .u64 0,.int .i64 0,.int .u64 0,.int .u64 0,.nils,.nils]:=⟨U,U,U,U,U,U⟩
theorem D3:SP 59 9 72 [.int .i64 0,.int .i64 0,.int .i64 0,.int .u64 0,.int .u64 0,.int .u64 0,.int .u64 0,.int .u64 0,.int .i64 0]:=⟨U,U,U,U,U,U⟩
theorem ty65:Wc 65 .nilf .fn:=⟨U,U,U,U⟩
theorem G2:V5 67 4 [.int .u64 0,.int .u64 0,.int .u64 0,.bool false] [(0,1,31),(1,2,33),(3,1,4)] [.i .u64,.i .u64,.i .u64,.b]:=⟨U,U,U,U,U,U,U,U⟩
theorem LG:SP 71 1 16 [.str []]:=⟨U,U,U,U,U,U⟩
theorem I8:sa an 76=some (1,false)/\cE an 76=some 1/\aJ an 76=some [.nilm]/\mq an 76 = .i 31 (.int .i64 0)/\nt an 76 = .mp:=⟨U,U,U,U,U⟩
theorem S9:sa an 77=some (1,false)/\cE an 77=some 1/\aJ an 77=some [.nilm]/\mq an 77 = .a 230 (.int .i64 0) 3/\nt an 77 = .mp:=⟨U,U,U,U,U⟩
theorem IT:SP 78 1 8 [.nilp]:=⟨U,U,U,U,U,U⟩
theorem kr:SP 79 1 8 [.int .u64 0]:=⟨U,U,U,U,U,U⟩
theorem yT:SP 80 8 56 [.int .i64 0,.int .u64 0,.int .u64 0,.int .u64 0,.int .u64 0,.int .u64 0,.bool false,.bool false]:=⟨U,U,U,U,U,U⟩
theorem S2:Uo 82 8 [.nils,.nils,.nilm,.nils,.nils,.nilm,.nils,.nilm] [(0,1,22),(1,1,78),(2,1,76),(3,1,79),(4,1,80),(5,1,77),(6,1,48),(7,1,76)]:=⟨U,U,U,U,U,U⟩
theorem Cq:Wc 84 .nilp .pt:=⟨U,U,U,U⟩
theorem Co:sa an 85=some (1,false)/\cE an 85=some 1/\aJ an 85=some [.nilm]/\mq an 85 = .i 31 (.nils)/\nt an 85 = .mp:=⟨U,U,U,U,U⟩
theorem Cd:Uo 87 6 [.int .u64 0,.int .i64 0,.int .i64 0,.int .i64 0,.int .i64 0,.nilm] [(0,5,39),(5,1,85)]:=⟨U,U,U,U,U,U⟩
theorem Tf:SP 88 1 8 [.int .i64 0]:=⟨U,U,U,U,U,U⟩
theorem We:V5 90 8 [.int .i64 0,.int .u64 0,.int .u64 0,.int .u64 0,.int .u64 0,.int .u64 0,.bool false,.bool false] [(0,1,3),(1,1,31),(2,1,31),(3,2,33),(5,1,31),(6,1,4),(7,1,4)] [.i .i64,.i .u64,.i .u64,.i .u64,.i .u64,.i .u64,.b,.b]:=⟨U,U,U,U,U,U,U,U⟩
theorem mH:V5 108 2 [.int .u64 0,.int .u64 0] [(0,1,31),(1,1,31)] [.i .u64,.i .u64]:=⟨U,U,U,U,U,U,U,U⟩
theorem jM:SP 109 4 48 [.int .i64 0,.int .u64 0,.int .u64 0,.nils]:=⟨U,U,U,U,U,U⟩
theorem qa:Uo 111 4 [.int .i64 0,.int .u64 0,.int .u64 0,.nils] [(0,1,3),(1,1,31),(2,1,31),(3,1,109)]:=⟨U,U,U,U,U,U⟩
theorem qi:SP 112 4 32 [.int .u64 0,.int .u64 0,.int .u64 0,.bool false]:=⟨U,U,U,U,U,U⟩
theorem oH:Uo 114 11 [.int .i64 0,.int .u64 0,.int .u64 0,.int .u64 0,.int .u64 0,.int .u64 0,.int .i64 0,.int .u64 0,.int .u64 0,.nils,.nils] [(0,1,3),(1,1,31),(2,1,31),(3,2,108),(5,1,31),(6,4,111),(10,1,112)]:=⟨U,U,U,U,U,U⟩
theorem UJ:V5 117 5 [.int .u64 0,.int .i64 0,.int .i64 0,.int .i64 0,.int .i64 0] [(0,1,31),(1,1,3),(2,1,3),(3,1,3),(4,1,3)] [.i .u64,.i .i64,.i .i64,.i .i64,.i .i64]:=⟨U,U,U,U,U,U,U,U⟩
theorem y_:V5 123 9 [.int .i64 0,.int .i64 0,.int .i64 0,.int .u64 0,.int .u64 0,.int .u64 0,.int .u64 0,.int .u64 0,.int .i64 0] [(0,1,3),(1,1,3),(2,1,3),(3,1,31),(4,2,108),(6,2,108),(8,1,3)] [.i .i64,.i .i64,.i .i64,.i .u64,.i .u64,.i .u64,.i .u64,.i .u64,.i .i64]:=⟨U,U,U,U,U,U,U,U⟩
theorem DI:tyB 132 (.int .i64 0) .i64:=⟨U,U,U,U,U⟩
theorem ol:sa an 141=some (1,false)/\cE an 141=some 1/\aJ an 141=some [.nilm]/\mq an 141 = .a 355 (.int .i64 0) 2/\nt an 141 = .mp:=⟨U,U,U,U,U⟩
theorem oC:SP 142 2 16 [.int .u64 0,.int .u64 0]:=⟨U,U,U,U,U,U⟩
theorem rI:Uo 144 2 [.nilm,.nils] [(0,1,141),(1,1,142)]:=⟨U,U,U,U,U,U⟩
theorem aam:Uo 146 2 [.nilm,.nils] [(0,2,144)]:=⟨U,U,U,U,U,U⟩
theorem zi:SP 147 1 24 [.nils]:=⟨U,U,U,U,U,U⟩
theorem Nz:Uo 149 3 [.nilm,.nils,.nils] [(0,2,146),(2,1,147)]:=⟨U,U,U,U,U,U⟩
theorem MX:sa an 150=some (1,false)/\cE an 150=some 1/\aJ an 150=some [.nilm]/\mq an 150 = .i 31 (.bool false)/\nt an 150 = .mp:=⟨U,U,U,U,U⟩
theorem LM:Uo 152 5 [.nilm,.nils,.nils,.int .i64 0,.nilm] [(0,3,149),(3,1,3),(4,1,150)]:=⟨U,U,U,U,U,U⟩
theorem YM:Uo 160 13 [.int .i64 0,.int .i64 0,.int .u64 0,.int .u64 0,.int .u64 0,.int .u64 0,.bool false,.bool false,.int .i64 0,.int .u64 0,.int .u64 0,.nils,.int .i64 0] [(0,8,51),(8,4,44),(12,1,3)]:=⟨U,U,U,U,U,U⟩
theorem ty170:Wc 170 .nilp .pt:=⟨U,U,U,U⟩
theorem wN:SP 172 2 16 [.int .u64 0,.int .u64 0]:=⟨U,U,U,U,U,U⟩
theorem C5:V5 179 4 [.int .u64 0,.int .u64 0,.int .u64 0,.bool false] [(0,1,31),(1,2,108),(3,1,4)] [.i .u64,.i .u64,.i .u64,.b]:=⟨U,U,U,U,U,U,U,U⟩
theorem X8:SP 180 8 56 [.int .i64 0,.int .u64 0,.int .u64 0,.int .u64 0,.int .u64 0,.int .u64 0,.bool false,.bool false]:=⟨U,U,U,U,U,U⟩
theorem M_:SP 182 8 56 [.int .i64 0,.int .i64 0,.int .u64 0,.int .u64 0,.int .u64 0,.int .u64 0,.bool false,.bool false]:=⟨U,U,U,U,U,U⟩
theorem DT:V5 185 8 [.int .i64 0,.int .u64 0,.int .u64 0,.int .u64 0,.int .u64 0,.int .u64 0,.bool false,.bool false] [(0,1,3),(1,1,31),(2,1,31),(3,2,108),(5,1,31),(6,1,4),(7,1,4)] [.i .i64,.i .u64,.i .u64,.i .u64,.i .u64,.i .u64,.b,.b]:=⟨U,U,U,U,U,U,U,U⟩
theorem ty187:V5 187 8 [.int .i64 0,.int .i64 0,.int .u64 0,.int .u64 0,.int .u64 0,.int .u64 0,.bool false,.bool false] [(0,1,3),(1,1,3),(2,1,31),(3,1,31),(4,2,108),(6,1,4),(7,1,4)] [.i .i64,.i .i64,.i .u64,.i .u64,.i .u64,.i .u64,.b,.b]:=⟨U,U,U,U,U,U,U,U⟩
theorem Uh:SP 188 5 40 [.int .u64 0,.int .i64 0,.int .i64 0,.int .i64 0,.int .i64 0]:=⟨U,U,U,U,U,U⟩
theorem DG:Wc 201 .nilf .fn:=⟨U,U,U,U⟩
theorem DR:Wc 202 .nilf .fn:=⟨U,U,U,U⟩
theorem Ya:Wc 203 .nilf .fn:=⟨U,U,U,U⟩
theorem DP:Wc 204 .nilf .fn:=⟨U,U,U,U⟩
theorem XJ:Uo 206 6 [.str [],.nilf,.nilf,.nilf,.nilf,.nilf] [(0,1,9),(1,1,65),(2,1,201),(3,1,202),(4,1,203),(5,1,204)]:=⟨U,U,U,U,U,U⟩
theorem ty207:sa an 207=some (48,true)/\cE an 207=some 48/\aJ an 207=some [.str [],.nilf,.nilf,.nilf,.nilf,.nilf,.str [],.nilf,.nilf,.nilf,.nilf,.nilf,.str [],.nilf,.nilf,.nilf,.nilf,.nilf,.str [],.nilf,.nilf,.nilf,.nilf,.nilf,.str [],.nilf,.nilf,.nilf,.nilf,.nilf,.str [],.nilf,.nilf,.nilf,.nilf,.nilf,.str [],.nilf,.nilf,.nilf,.nilf,.nilf,.str [],.nilf,.nilf,.nilf,.nilf,.nilf]/\PT an 207=some (8,6,206)/\mQ an 207=false/\nt an 207 = .no:=⟨U,U,U,U,U,U⟩
theorem Mr:Wc 222 .nilp .pt:=⟨U,U,U,U⟩
theorem ty223:SP 223 2 16 [.int .i64 0,.nilf]:=⟨U,U,U,U,U,U⟩
theorem R7:Wc 225 .nilf .fn:=⟨U,U,U,U⟩
theorem ty227:Uo 227 2 [.int .i64 0,.nilf] [(0,1,26),(1,1,225)]:=⟨U,U,U,U,U,U⟩
theorem ty230:V5 230 3 [.int .u64 0,.int .u64 0,.int .u64 0] [(0,1,31),(1,2,33)] [.i .u64,.i .u64,.i .u64]:=⟨U,U,U,U,U,U,U,U⟩
theorem Ii:tyB 238 (.int .u64 0) .u64:=⟨U,U,U,U,U⟩
theorem ty241:sa an 241=some (1,false)/\cE an 241=some 1/\aJ an 241=some [.nilm]/\mq an 241 = .i 31 (.nilp)/\nt an 241 = .mp:=⟨U,U,U,U,U⟩
theorem ty243:Uo 243 1 [.nilm] [(0,1,241)]:=⟨U,U,U,U,U,U⟩
theorem ty245:Wc 245 .nilp .pt:=⟨U,U,U,U⟩
theorem v9:SP 247 4 32 [.int .u64 0,.int .u64 0,.int .i64 0,.int .i64 0]:=⟨U,U,U,U,U,U⟩
theorem UO:Uo 249 1 [.nils] [(0,1,247)]:=⟨U,U,U,U,U,U⟩
theorem XG:Uo 251 1 [.nils] [(0,1,249)]:=⟨U,U,U,U,U,U⟩
theorem v5:V5 253 4 [.int .u64 0,.int .u64 0,.int .i64 0,.int .i64 0] [(0,2,33),(2,1,3),(3,1,3)] [.i .u64,.i .u64,.i .i64,.i .i64]:=⟨U,U,U,U,U,U,U,U⟩
theorem XD:Wc 260 .nilf .fn:=⟨U,U,U,U⟩
theorem Sh:V5 290 2 [.int .u64 0,.bool false] [(0,1,31),(1,1,4)] [.i .u64,.b]:=⟨U,U,U,U,U,U,U,U⟩
theorem ty294:tyB 294 (.int .i64 0) .i64:=⟨U,U,U,U,U⟩
theorem ty301:tyB 301 (.int .u32 0) .u32:=⟨U,U,U,U,U⟩
theorem G7:V5 355 2 [.int .u64 0,.int .u64 0] [(0,1,31),(1,1,31)] [.i .u64,.i .u64]:=⟨U,U,U,U,U,U,U,U⟩
theorem Ir:SP 356 2 16 [.int .u64 0,.bool false]:=⟨U,U,U,U,U,U⟩
theorem XT:tyB 357 (.int .u64 0) .u64:=⟨U,U,U,U,U⟩
theorem Xr:Uo 374 4 [.int .i64 0,.int .i64 0,.int .i64 0,.nilf] [(0,1,3),(1,1,3),(2,1,3),(3,1,260)]:=⟨U,U,U,U,U,U⟩
theorem HE:Wc 419 .nilp .pt:=⟨U,U,U,U⟩
theorem ty428:sa an 428=some (32,true)/\cE an 428=some 32/\aJ an 428=some [.int .i64 0,.int .i64 0,.int .i64 0,.nilf,.int .i64 0,.int .i64 0,.int .i64 0,.nilf,.int .i64 0,.int .i64 0,.int .i64 0,.nilf,.int .i64 0,.int .i64 0,.int .i64 0,.nilf,.int .i64 0,.int .i64 0,.int .i64 0,.nilf,.int .i64 0,.int .i64 0,.int .i64 0,.nilf,.int .i64 0,.int .i64 0,.int .i64 0,.nilf,.int .i64 0,.int .i64 0,.int .i64 0,.nilf]/\PT an 428=some (8,4,374)/\mQ an 428=false/\nt an 428 = .no:=⟨U,U,U,U,U,U⟩
theorem ty452:Wc 452 .nilf .fn:=⟨U,U,U,U⟩
def fT:=ao @dA<|ao @cU<|ao @gZ <| @fu
def oU:=ao @dA<|ao @cU<|ao @OL<|ao @gZ<|ao @fu<|ao @iH <| @nQ
def O7:=ao @dA<|ao @kH<|ao @jp<|ao @cU<|ao @OL<|ao @gZ<|ao @fu<|ao @iH <| @nQ
def gy3:=ao @dA<|ao @XD<|ao @Xr<|ao @ty428 <| @ty452
def Vd:=ao @dA<|ao @XD<|ao @Xr <| @ty428
def lK:=@dA
def EZ:=ao @dA<|ao @kH<|ao @cU<|ao @gZ <| @fu
def CA:=ao @dA<|ao @kH<|ao @cU<|ao @gZ<|ao @fu<|ao @XD <| @Xr
def U9:=ao @dA<|ao @cU<|ao @gZ<|ao @fu <| @ty452
def gy9:=ao @dA<|ao @kH<|ao @cU<|ao @gZ<|ao @fu <| @ty452
def KC:=ao @dA<|ao @cU<|ao @gZ<|ao @fu<|ao @XD <| @Xr
def Sj:=ao @cU<|ao @ol<|ao @oC<|ao @rI <| @G7
def Im:=ao @cU<|ao @ol<|ao @oC<|ao @rI<|ao @aam<|ao @G7 <| @HE
def Pt:=ao @ol<|ao @oC<|ao @rI<|ao @aam <| @HE
def Wp:=ao @dA<|ao @cU<|ao @ol<|ao @oC<|ao @rI <| @G7
def xW:=ao @dA<|ao @kH<|ao @cU<|ao @ol<|ao @oC<|ao @rI <| @G7
def Pn:=@gZ
def OC:=@iH
def OE:=@yT
def EV:=ao @dA<|ao @cU<|ao @gZ<|ao @fu<|ao @jM <| @qa
def FL:=ao @dA<|ao @kH<|ao @cU<|ao @OL<|ao @gZ<|ao @fu<|ao @iH<|ao @nQ<|ao @ol<|ao @oC<|ao @rI<|ao @aam<|ao @zi<|ao @Nz<|ao @MX <| @LM
def Kj:=ao @dA<|ao @cU<|ao @OL<|ao @gZ<|ao @fu<|ao @iH<|ao @nQ<|ao @ol<|ao @oC<|ao @rI<|ao @aam<|ao @zi<|ao @Nz<|ao @MX <| @LM
def Wx:=ao @cU<|ao @OL <| @mH
def El:=ao @ty170<|ao @ty241<|ao @ty243<|ao @ty245<|ao @v9<|ao @UO <| @XG
def HB:=ao @dA<|ao @cU<|ao @OL<|ao @v9 <| @v5
def Tt:=ao @dA<|ao @cU<|ao @OL <| @v5
def Kl:=ao @cU <| @OL
def fh:=ao @dA<|ao @cU<|ao @OL<|ao @v9 <| @UO
def P0:=ao @dA<|ao @kH<|ao @cU<|ao @OL<|ao @v9<|ao @UO<|ao @XG <| @v5
def W3:=ao @dA<|ao @cU<|ao @OL<|ao @wN<|ao @v9<|ao @UO<|ao @XG <| @v5
def Kt:=ao @dA<|ao @kH<|ao @cU<|ao @OL<|ao @iH <| @G2
def sG:=ao @dA<|ao @kH<|ao @cU<|ao @OL<|ao @gZ<|ao @fu<|ao @iH<|ao @nQ<|ao @G2<|ao @mH<|ao @jM<|ao @qa<|ao @qi<|ao @oH <| @C5
def sO:=ao @dA<|ao @jp<|ao @cU<|ao @OL<|ao @gZ<|ao @fu<|ao @iH<|ao @nQ <| @nO
def FH:=ao @kH<|ao @cU<|ao @ol<|ao @oC<|ao @rI<|ao @aam<|ao @zi<|ao @Nz<|ao @G7 <| @Ir
def sH:=ao @dA<|ao @kH<|ao @cU<|ao @OL<|ao @ol<|ao @oC<|ao @rI<|ao @aam<|ao @zi<|ao @Nz<|ao @MX<|ao @LM<|ao @Mr<|ao @Sh <| @Ir
def zk:=ao @dA<|ao @cU<|ao @mH<|ao @jM<|ao @qa<|ao @qi <| @oH
def Fs:=ao @dA<|ao @cU<|ao @nO<|ao @mH<|ao @jM<|ao @qa<|ao @qi <| @oH
def L7:=ao @dA<|ao @cU<|ao @nO<|ao @kr<|ao @mH<|ao @jM<|ao @qa<|ao @qi <| @oH
def Io:=ao @dA<|ao @cU<|ao @jM <| @qa
def BU:=ao @dA<|ao @kH<|ao @cU<|ao @jM <| @qa
def Fl:=ao @dA<|ao @kH<|ao @jp<|ao @cU<|ao @OL<|ao @sb<|ao @wh<|ao @I8<|ao @S9<|ao @IT<|ao @kr<|ao @yT <| @S2
def Ia:=ao @jp<|ao @sb<|ao @I8<|ao @S9<|ao @IT<|ao @kr<|ao @yT<|ao @S2 <| @Cq
def sJ:=ao @dA<|ao @kH<|ao @jp<|ao @cU<|ao @OL<|ao @Y1<|ao @gZ<|ao @fu<|ao @iH<|ao @nQ<|ao @sb<|ao @wh<|ao @G2<|ao @I8<|ao @S9<|ao @IT<|ao @kr<|ao @yT<|ao @S2<|ao @Co <| @Cd
def Ei:=ao @dA<|ao @kH<|ao @jp<|ao @cU<|ao @OL<|ao @Y1<|ao @gZ<|ao @fu<|ao @iH<|ao @nQ<|ao @sb<|ao @I8<|ao @S9<|ao @IT<|ao @kr<|ao @yT<|ao @S2<|ao @Co<|ao @Cd<|ao @Tf<|ao @We <| @ty230
def FI:=ao @dA<|ao @kH<|ao @jp<|ao @dc<|ao @cU<|ao @Y1<|ao @sb<|ao @I8<|ao @S9<|ao @IT<|ao @kr<|ao @yT<|ao @S2<|ao @Co <| @Cd
def Ap:=ao @jp<|ao @dc<|ao @sb<|ao @I8<|ao @S9<|ao @IT<|ao @kr<|ao @yT <| @S2
def Kn:=ao @dA<|ao @kH<|ao @jp<|ao @dc<|ao @cU<|ao @OL<|ao @sb<|ao @I8<|ao @S9<|ao @IT<|ao @kr<|ao @yT<|ao @S2<|ao @We <| @ty230
def Ed:=@kr
def EN:=ao @kH <| @I8
def Sn:=ao @kH<|ao @cU<|ao @OL<|ao @DI <| @Sh
def Wq:=ao @dA<|ao @cU<|ao @OL<|ao @ol<|ao @oC<|ao @rI<|ao @aam<|ao @zi<|ao @Nz<|ao @MX<|ao @LM<|ao @Mr <| @Ir
def gu:=ao @dA<|ao @kH<|ao @cU<|ao @OL<|ao @gZ<|ao @fu<|ao @iH <| @nQ
def k_:=ao @dA<|ao @cU <| @kr
def PC:=ao @S6<|ao @ty65<|ao @DG<|ao @DR<|ao @Ya<|ao @DP <| @XJ
def Pa:=ao @S6<|ao @ty65<|ao @DG<|ao @DR<|ao @Ya<|ao @DP<|ao @XJ <| @ty207
def gy55:=ao @dA<|ao @S6<|ao @ty65<|ao @DG<|ao @DR<|ao @Ya<|ao @DP<|ao @XJ <| @ty207
def Hw:=ao @dA<|ao @kH<|ao @S6<|ao @cU<|ao @OL<|ao @gZ<|ao @fu<|ao @iH<|ao @nQ<|ao @ty65<|ao @DG<|ao @DR<|ao @Ya<|ao @DP <| @XJ
def qg:=ao @dA<|ao @kH<|ao @cU<|ao @OL<|ao @gZ<|ao @fu<|ao @iH<|ao @nQ <| @G2
def GV:=ao @dA<|ao @kH<|ao @cU<|ao @OL<|ao @gZ<|ao @fu<|ao @DI <| @Sh
def OV:=ao @kH<|ao @cU<|ao @OL<|ao @G2 <| @Mr
def Hk:=ao @dA<|ao @kH<|ao @cU<|ao @OL<|ao @gZ<|ao @fu<|ao @iH<|ao @nQ <| @Mr
def eC:=ao @dA<|ao @kH<|ao @cU<|ao @OL<|ao @gZ<|ao @fu<|ao @iH<|ao @nQ<|ao @G2 <| @Mr
def Hv:=ao @kH<|ao @cU<|ao @OL <| @G2
def z_:=ao @dA<|ao @cU<|ao @kr<|ao @ol<|ao @oC<|ao @rI<|ao @aam<|ao @zi<|ao @Nz<|ao @MX<|ao @LM<|ao @Mr <| @G7
def Lj:=@I8
def tz:=ao @dA<|ao @kH<|ao @dc<|ao @cU<|ao @OL<|ao @Y1<|ao @yT<|ao @We<|ao @ty241<|ao @ty243<|ao @v9<|ao @UO<|ao @XG <| @v5
def vG:=@cU
def GK:=ao @kH <| @cU
def S7:=ao @dA<|ao @ty5<|ao @S6 <| @cU
def uo:=ao @Ii <| @ty301
def R3:=ao @dA <| @Ii
def Tl:=@XT
def tH:=ao @dA<|ao @kH<|ao @cU<|ao @OL<|ao @sb <| @wh
def Xz:=ao @dA<|ao @kH<|ao @cU<|ao @OL<|ao @Oy <| @Kx
def Oo:=ao @dA<|ao @Lc<|ao @cU<|ao @OL <| @jW
def oZ:=ao @dA<|ao @kH<|ao @Lc<|ao @cU<|ao @OL<|ao @Oy <| @Kx
def XM:=ao @dA<|ao @kH<|ao @cU<|ao @OL<|ao @jW<|ao @gZ<|ao @fu<|ao @wh<|ao @Kx <| @YM
def Ss:=ao @dA<|ao @kH<|ao @cU<|ao @OL <| @Kx
def LW:=ao @dA<|ao @kH<|ao @cU<|ao @OL <| @wh
def SF:=@sb
def S4:=ao @dA <| @Tf
def Xp:=ao @cU<|ao @OL <| @Tf
def Fa:=ao @dA<|ao @cU<|ao @OL<|ao @jW <| @Tf
def jV:=ao @cU <| @mH
def Kd:=ao @dA<|ao @cU<|ao @mH <| @y_
def lq:=ao @dA<|ao @jp<|ao @dc<|ao @cU<|ao @OL<|ao @gZ<|ao @fu<|ao @iH<|ao @nQ<|ao @sb<|ao @I8<|ao @S9<|ao @IT<|ao @kr<|ao @yT <| @S2
def X5:=ao @dA<|ao @kH<|ao @jp<|ao @cU<|ao @OL<|ao @gZ<|ao @fu<|ao @iH<|ao @nQ<|ao @sb<|ao @wh <| @kr
def An:=ao @dA<|ao @kH<|ao @cU<|ao @D3<|ao @mH <| @y_
def Eh:=ao @dA<|ao @kH<|ao @cU<|ao @OL<|ao @gZ<|ao @fu <| @We
def mK:=ao @dA<|ao @dc<|ao @cU<|ao @gZ <| @fu
def LR:=ao @dA<|ao @kH<|ao @cU<|ao @OL<|ao @gZ<|ao @fu<|ao @Oy <| @Kx
def uz:=ao @dA<|ao @kH<|ao @dc<|ao @cU<|ao @OL<|ao @gZ<|ao @fu<|ao @Kx <| @wN
def dj:=ao @dA<|ao @cU<|ao @OL<|ao @gZ<|ao @fu <| @Oy
def iG:=ao @dA<|ao @kH<|ao @Lc<|ao @cU<|ao @OL<|ao @gZ<|ao @fu<|ao @wh <| @YM
def vM:=ao @dA<|ao @kH<|ao @Lc<|ao @cU<|ao @OL<|ao @jW <| @ty294
def kE:=ao @dA<|ao @Lc <| @Ii
def Bj:=ao @dA<|ao @kH<|ao @jp<|ao @dc<|ao @Lc<|ao @cU<|ao @OL<|ao @gZ<|ao @fu<|ao @iH<|ao @nQ<|ao @wh <| @YM
def Jf:=ao @dA<|ao @kH<|ao @Lc<|ao @cU<|ao @OL <| @jW
def gP:=ao @dA<|ao @Lc<|ao @cU<|ao @OL<|ao @jW<|ao @Ii <| @XT
def aS:=ao @dA<|ao @kH<|ao @cU <| @kr
def so:=ao @dA<|ao @cU<|ao @kr<|ao @Ii <| @XT
def cD:=ao @dA<|ao @kH<|ao @cU<|ao @kr <| @ty294
def az:=ao @dA<|ao @kH<|ao @cU<|ao @OL<|ao @v9 <| @v5
def rX:=ao @dA<|ao @cU<|ao @OL<|ao @Ii<|ao @v9<|ao @v5 <| @XT
def cS:=ao @dA<|ao @kH<|ao @cU<|ao @OL<|ao @v9<|ao @v5 <| @ty294
def wH:=ao @dA<|ao @kr <| @Ii
def G9:=ao @dA<|ao @Ii <| @v9
def uY:=ao @dA<|ao @dc<|ao @cU<|ao @OL<|ao @gZ<|ao @fu<|ao @iH <| @nQ
def IU:=ao @dA<|ao @kH<|ao @dc<|ao @cU<|ao @OL<|ao @Y1<|ao @gZ<|ao @fu<|ao @iH<|ao @nQ<|ao @sb<|ao @wh <| @YM
def Xo:=ao @dA<|ao @cU<|ao @OL <| @jW
def NC:=ao @dA<|ao @cU<|ao @D3<|ao @mH <| @y_
def rD:=ao @dA<|ao @cU<|ao @OL<|ao @jW<|ao @mH <| @y_
def AB:=ao @dA<|ao @Lc<|ao @cU<|ao @OL<|ao @jW<|ao @D3<|ao @mH <| @y_
def X1:=ao @dA<|ao @kH<|ao @cU<|ao @ol<|ao @oC<|ao @rI<|ao @aam<|ao @zi<|ao @Nz<|ao @Sh<|ao @G7 <| @Ir
def nw:=ao @dA<|ao @kH<|ao @cU<|ao @OL<|ao @gZ<|ao @fu<|ao @iH<|ao @nQ<|ao @ol<|ao @oC<|ao @rI<|ao @aam<|ao @zi<|ao @Nz<|ao @MX<|ao @LM <| @Sh
def gy115:=ao @ty26<|ao @ty223<|ao @R7 <| @ty227
def GL:=ao @dA<|ao @kH<|ao @ty26<|ao @cU<|ao @OL<|ao @gZ<|ao @fu<|ao @iH<|ao @nQ<|ao @Mr<|ao @ty223<|ao @R7 <| @ty227
def Sa:=ao @dA<|ao @jp<|ao @ty26<|ao @cU<|ao @OL<|ao @gZ<|ao @fu<|ao @iH<|ao @nQ<|ao @ol<|ao @oC<|ao @rI<|ao @aam<|ao @zi<|ao @Nz<|ao @MX <| @LM
def oA:=ao @dA<|ao @kH<|ao @jp<|ao @ty26<|ao @cU<|ao @OL<|ao @Y1<|ao @gZ<|ao @fu<|ao @iH<|ao @nQ<|ao @sb<|ao @I8<|ao @S9<|ao @IT<|ao @kr<|ao @yT<|ao @S2<|ao @Cq<|ao @Co<|ao @Cd<|ao @Tf <| @We
def Yv:=ao @dA<|ao @S6<|ao @jp<|ao @cU<|ao @OL<|ao @gZ<|ao @fu<|ao @iH<|ao @nQ <| @LG
def Ms:=ao @dA<|ao @S6<|ao @Lc<|ao @cU<|ao @OL<|ao @jW <| @LG
def VZ:=ao @dA<|ao @kH<|ao @cU<|ao @mH<|ao @jM <| @qa
def Vp:=ao @dA<|ao @kH<|ao @cU<|ao @mH<|ao @jM<|ao @qa<|ao @qi<|ao @oH <| @C5
def v6:=ao @dA<|ao @cU<|ao @nO<|ao @mH<|ao @jM<|ao @qa<|ao @qi<|ao @oH <| @UJ
def OM:=ao @dA<|ao @cU<|ao @nO<|ao @mH<|ao @jM<|ao @qa<|ao @qi<|ao @oH <| @Uh
def Pe:=ao @dA<|ao @cU<|ao @UJ <| @Uh
def iw:=ao @dA<|ao @kH<|ao @cU<|ao @nO<|ao @D3<|ao @kr<|ao @mH<|ao @jM<|ao @qa<|ao @qi<|ao @oH<|ao @UJ <| @y_
def jk:=ao @dA<|ao @kH<|ao @cU<|ao @nO<|ao @mH<|ao @jM<|ao @qa<|ao @qi<|ao @oH<|ao @X8 <| @DT
def zb:=ao @dA<|ao @kH<|ao @cU<|ao @nO<|ao @mH<|ao @jM<|ao @qa<|ao @qi<|ao @oH<|ao @C5<|ao @M_ <| @ty187
def m9:=ao @dA<|ao @kH<|ao @cU<|ao @kr<|ao @mH<|ao @X8<|ao @M_<|ao @DT <| @ty187
def pD:=ao @dA<|ao @cU<|ao @nO<|ao @D3<|ao @kr<|ao @mH<|ao @jM<|ao @qa<|ao @qi<|ao @oH <| @UJ
def hX:=ao @dA<|ao @kH <| @ty26
theorem follows:an.follows .mixedOrders=true:=U
mutual
def dV:Ex->Nat
 | .mk _ _ _ ps=>mb ps+1
def mb:List Ex->Nat
 | []=>0
 | e::es=>dV e+mb es
end
theorem fb:∀{es:List Ex} {e:Ex},e ∈ es->dV e<=mb es
 | e'::es,e,h=>by
   simp only[mb];rcases aaK.1 h with rfl | h
   ·omega
   have:=fb h;omega
mutual
def Au:Ex->Int->Int
 | .mk _ _ _ ps,l=>za ps (l - 1)
def za:List Ex->Int->Int
 | [],l=>l
 | e::es,l=>if l<0 then l else za es (Au e l)
end
mutual
theorem NA:∀(e:Ex) (l:Int),0<=l->-1<=Au e l/\Au e l<l
 | .mk _ _ _ ps,l,h=>by simp only[Au];have:=MY ps (l - 1) aa;omega
theorem MY:∀(es:List Ex) (l:Int),-1<=l->-1<=za es l/\za es l<=l
 | [],l,h=>by simp only[za];omega
 | e::es,l,h=>by
   simp only[za];split;·omega
   have h1:=NA e l aa;have h2:=MY es (Au e l) h1.1;omega
end
theorem It {ps:List Ex} {e:Ex} (h:ps[i]?=some e) {l:Int} (hl:0<=l):za (ps.drop i) l=za (ps.drop (i+1)) (Au e l):=by obtain⟨h1,rfl⟩:=aaq.1 h;rw[aaV h1];simp only[za,if_neg (show ¬ l<0 by omega)]
theorem wrap_i64 {n:Int} (h0:-9223372036854775808<=n) (h1:n<=9223372036854775807):IntKind.i64.wrap n=n:=by rw[IntKind.wrap_i64];omega
theorem eF (i:Nat) (h:i<9223372036854775807:=by omega):IntKind.i64.wrap ((i:Int)+1)=((i+1:Nat):Int):=by rw[wrap_i64 aa aa];omega
theorem f112 (ρ:aK):∀(sz:Nat) (e:Ex) (M:Hp) (nx b:Nat) (cs:List XV) (l:Int),dV e<sz->bG M b e cs->b<=nx->0<=l->l<=60 ->
 ar an ρ 112 [.agg cs,.int .i64 l] M nx (fe nx M (.int .i64 (Au e l))):=by
 intro sz
 induction sz with
 | zero=>intro e M nx b cs l h;omega
 | succ sz ih =>
 intro e M nx b cs l cJ he hb h0 h60;obtain⟨k,x,y,ps⟩:=e;simp only[bG]at he;obtain⟨v,row,rfl,cw,jd⟩:=he;have hv:=cw.cell;have hw:IntKind.i64.wrap (l - 1)=l - 1:=wrap_i64 aa aa;refine ar.wk 27 [.tmp 4] Tryz.func112 ?_;refine jz fT hv.1 hv.2 hw ?_;refine aC (fun m s=>∃(i:Nat) (l':Int),i<=ps.length/\m=ps.length - i/\-1<=l'/\l'<=60/\za (ps.drop i) l'=za ps (l - 1)/\gG s.env 1=some (.int .i64 l')/\gG s.env 2=some (.mp nx 0)/\gG s.env 5=some (.int .i64 i) /\
  gG s.M nx=some (.row [.int .i64 k,.int .u64 x,.int .u64 y,v])/\aq nx M s.M/\nx<s.nx) ps.length ⟨0,l - 1,aa,aa,aa,aa,af,?_⟩ ?_
 ·refine dt fT ?_
  exact⟨fun k hk=>by rw[ap,if_neg aa],aa⟩
 rintro m ⟨env,M',nx'⟩ ⟨i,l',hi,hm,VF,Gn,xo,e1,e2,e5,hM,ha,hn⟩;simp only at e1 e2 e5 hM ha hn;have ay:=fun N=>cw.len (P:=an) (t:=42) gZ.2.2.2.2.2 N
 by_cases aL:(i:Int)<ps.length
 ·by_cases yN:(0:Int)<=l'
  ·have aP:i<ps.length:=aa
   obtain⟨e,gA⟩:=aao aP;obtain⟨n,o,jw,bC,aU⟩:=cw.elem (P:=an) aP (t:=42) (t':=44) gZ.2.2.2.1 fu.1;have aU:=aU M' (ha.le hb);have JH:=(jd.get gA).agr (ha.le hb);have hsz':dV e<sz:=by have h1:=fb (aaH gA);simp only[dV]at cJ;omega
   have hnb':=NA e l' yN;have bw:=It gA yN;have hz:(ps.length:Int)<=9223372036854775807:=by have:=cw.1;omega
   have bV:=eF i;refine rf fT e1 e2 e5 hM ay aL yN bC aU ?_;refine gQ (ih e M' _ b _ l' hsz' JH aa yN Gn) ?_;rintro⟨v',M'',nx''⟩ ⟨h1,h2,h3⟩;simp only at h1 h2 h3;subst h1;refine lO fT e1 e2 e5 bV ?_;exact⟨ps.length - (i+1),aa,i+1,Au e l',aa,rfl,aa,aa,by rw[<-bw,xo],rfl,rfl,by rw[h2 nx aa,hM],ha.trans (h2.le aa),aa⟩
  have hd:za (ps.drop i) l'=l':=by
   cases hdd:ps.drop i with
   | nil=>rfl
   | cons e es=>simp only[za,if_pos (show l'<0 by omega)]
  refine wT fT e1 e2 e5 hM ay aL yN @fe.eq_1 ?_;exact⟨by simp only[Au];rw[<-xo,hd],ha,aa⟩
 have hd:ps.drop i=[]:=aaM aa;refine oq fT e1 e2 e5 hM ay aL @fe.eq_1 ?_;refine⟨?_,ha,aa⟩;simp only[Au];rw[<-xo,hd];rfl
end
section
open Go.Proofs
theorem f63 (ρ:aK) {e:Ex} (he:bG M b e cs) (hb:b<=nx) :
 ar an ρ 63 [.agg cs] M nx (fe nx M (.bool (decide (0<=Au e 60)))):=by
 have sx:=he;obtain⟨k,x,y,ps⟩:=e;simp only[bG]at sx;obtain⟨v,row,rfl,cw,jd⟩:=sx;have hv:=cw.cell;refine ar.wk 6 [.tmp 2] Tryz.func63 ?_;refine gk fT hv.1 hv.2 ?_;have ha:aq nx M (aG M nx (.row [.int .i64 k,.int .u64 x,.int .u64 y,v])):=(aq.refl _ _).set (u7 _) _;refine lG (f112 ρ _ _ _ _ b _ 60 (aby _) (he.agr (ha.le hb)) aa aa aa) fun M' nx' h2 h3=>?_
 refine dt fT ?_;exact .mk (ha.trans (h2.le aa)) aa
def vE (r:aR):Bool:=decide (r.es.length<=60)&&decide (0<=Au r.p 60)
theorem Sk (ρ:aK) {r:aR} (hr:eo M b r cs) (hb:b<=nx) :
 ar an ρ 27 [.agg cs] M nx (fe nx M (.bool (vE r))):=by
 obtain⟨kind,t,x,w,n,vv,p,es⟩:=r;obtain⟨pc,ve,rfl,he,dZ⟩:=hr;have sx:=he;obtain⟨pk,pa,pb,ps⟩:=p;simp only[bG]at sx;obtain⟨v,row,rfl,cw,jd⟩:=sx;have hv:=cw.cell;have sW:=bE.cell dZ;have ay:=fun N=>bE.len (P:=an) (t:=45) dZ iH.2.2.2.2.2 N
 refine ar.wk 12 [.tmp 2] Tryz.func27 ?_;by_cases jT:(es.length:Int)<=60
 ·refine ky oU hv.1 hv.2 sW.1 sW.2 ay jT ?_
  generalize xu:aG M nx _=M1;have ha:aq nx M M1:=by rw[<-xu];exact(aq.refl _ _).set (u7 _) _
  refine lG (f63 ρ (he.agr (ha.le hb)) aa) fun M' nx' h2 h3=>?_
  refine dt oU ?_;simp only[vE,jT,fe];exact⟨ak,ha.trans (h2.le aa),aa⟩
 refine ky oU hv.1 hv.2 sW.1 sW.2 ay jT ?_;simp only[vE,fe];exact⟨ak,(aq.refl _ _).set (u7 _) _,aa⟩
def AM (l:List aR) (most:Nat):Bool:=(l.take (most+1)).all vE&&decide (l.length<=most)
theorem Iv {l:List aR} {r:aR} (h:l[i]?=some r):(l.take (i+1)).all vE=((l.take i).all vE&&vE r):=by rw[take_add_one,h];simp
theorem f7 (ρ:aK) {l:List aR} {most:Nat} (hl:cP M b v l) (hb:b<=nx) (hm:most<=1000) :
 ar an ρ 7 [v,.int .i64 most] M nx (fe nx M (.bool (AM l most))):=by
 obtain⟨row,cw,gS⟩:=hl;have ay:=fun N=>cw.len (P:=an) (t:=22) jp.2.2.2.2.2 N
 refine ar.wk 27 [.tmp 4] Tryz.func7 ?_;refine dt O7 ?_;refine aC (fun m s=>∃i:Nat,i<=l.length/\i<=most+1/\m=l.length - i/\(l.take i).all vE=true/\gG s.env 0=some v/\gG s.env 1=some (.int .i64 most)/\gG s.env 5=some (.int .i64 i)/\aq nx M s.M/\nx<=s.nx)
  l.length ⟨0,aa,aa,aa,af,?_⟩ ?_
 ·refine dt O7 ?_
  exact⟨aq.refl _ _,aa⟩
 rintro m ⟨env,M',nx'⟩ ⟨i,hi,him,ir,dy,e0,e1,e5,ha,hn⟩;simp only at e0 e1 e5 ha hn;have hz:=cw.1;by_cases aL:(i:Int)<l.length
 ·by_cases jT:(i:Int)<=most
  ·have aP:i<l.length:=aa
   obtain⟨r,hr⟩:=aao aP;obtain⟨n,o,jw,bC,aU⟩:=cw.elem (P:=an) aP (t:=22) (t':=47) jp.2.2.2.1 nQ.1;have aU:=aU M' (ha.le hb);have bV:=eF i;refine wT O7 e0 e1 e5 ay aL jT bC aU ?_;refine lG (Sk ρ ((gS i r hr).agr (ha.le hb)) aa) fun M'' nx'' h2 h3=>?_
   cases hf:vE r with
   | false =>
     refine ul O7 e0 e1 e5 hf @fe.eq_1 ?_;refine⟨?_,ha.trans (h2.le aa),aa⟩;have h1:r ∈ l.take (most+1):=aaH (i:=i) (by rw[getElem?_take,if_pos aa];exact hr);congr 1
     symm
     rw[AM,Bool.and_eq_false_iff];left;rw[List.all_eq_false];exact⟨r,h1,by simp[hf]⟩
   | true =>
     refine ul O7 e0 e1 e5 hf bV ?_;exact⟨l.length - (i+1),aa,i+1,aa,aa,rfl,by rw[Iv hr,dy,hf];rfl,rfl,ha.trans (h2.le aa),aa⟩
  refine oq O7 e0 e1 e5 ay aL jT @fe.eq_1 ?_;refine⟨?_,ha,aa⟩;congr 1;have h1:decide (l.length<=most)=false:=decide_eq_false aa;have h2:decide ((l.length:Int)<=most)=false:=decide_eq_false aa;rw[AM,h1,h2,Bool.and_false]
 refine ky O7 e0 e1 e5 ay aL @fe.eq_1 ?_;refine⟨?_,ha,aa⟩;congr 1;have hi':i=l.length:=aa;subst hi';rw[aa6]at dy;rw[AM,aaz aa,dy];simp
def np (k:Int):Int:=if k=2\/k=3 then 1 else if k=4 then 2 else 0
def qt (k:Int):Int:=if k=5 then 1 else 0
def uM (k:Int):Int:=if k=5 then 1 else if k=6\/k=7 then 32 else 0
def sp (kb:Nat) (k:Int):XV :=
 if k=1 then .fn (.func 365) [] [] else if k=2 then .fn (.func 366) [] [] else if k=3 then .fn (.func 367) [] [] else if k=4 then .fn (.func 368) [] [] else
 if k=5 then .fn (.func 369) [] [.mp kb 0] else if k=6 then .fn (.func 370) [] [.mp kb 0] else .fn (.func 371) [] [.mp kb 0]
def uZ (kb:Nat) (k:Int):List XV:=[.int .i64 (np k),.int .i64 (qt k),.int .i64 (uM k),sp kb k]
def IZ (kb:Nat):List XV:=[.int .i64 0,.int .i64 0,.int .i64 0,.nilf]++uZ kb 1++uZ kb 2++uZ kb 3++uZ kb 4++uZ kb 5++uZ kb 6++uZ kb 7
def qR (M:Hp) (kb:Nat):Prop:=gG M kb=some (.row [.fn (.func 363) [] []])
theorem f335 (ρ:aK) (M:Hp) (nx:Nat):ar an ρ 335 [] M nx fun r=>∃kb,r.1 = .agg (IZ kb)/\nx<=kb/\kb<r.2.2/\qR r.2.1 kb/\aq nx M r.2.1:=by
 refine ar.wk 13 [.cell 0 428] Tryz.func335 ?_;refine dt gy3 ?_;refine⟨nx+1,?_,aa,aa,?_,?_⟩;·simp[IZ,uZ,np,qt,uM,sp]
 ·simp only[qR,ap]
  rw[if_neg aa];simp
 exact((((aq.refl _ _).set aa _).set aa _).set aa _).set aa _
theorem f286 (ρ:aK) (M:Hp) (nx:Nat) (k:Int) (h0:1<=k) (h1:k<=7):ar an ρ 286 [.int .i64 k] M nx fun r=>∃kb,r.1 = .tup [.agg (uZ kb k),.bool true]/\nx<=kb/\kb<r.2.2/\qR r.2.1 kb/\aq nx M r.2.1:=by
 refine ar.wk 14 [.cell 2 374,.tmp 3] Tryz.func286 ?_;have c1:¬ k<1:=aa;have c2:¬ 8<=k:=aa;refine gk Vd c1 c2 ?_;refine gQ (f335 ρ _ _) ?_;rintro⟨v,M',nx'⟩ ⟨kb,h1,h2,h3,h4,h5⟩;simp only at h1 h2 h3 h4 h5;subst h1;have hk:∃j:Nat,k=j/\1<=j/\j<=7:=⟨k.toNat,aa,aa,aa⟩;obtain⟨j,rfl,j1,j2⟩:=hk;have hd:(IZ kb).drop ((j:Int).toNat*4)=uZ kb j++(IZ kb).drop ((j:Int).toNat*4+4):=by have:j=1\/j=2\/j=3\/j=4\/j=5\/j=6\/j=7:=aa;rcases this with rfl | rfl | rfl | rfl | rfl | rfl | rfl<;>rfl
 have UA:Ru (some (4,true)) ((IZ kb).drop ((j:Int).toNat*4))=some (.agg (uZ kb j)):=by rw[hd];rfl
 have gE:ax (sp kb j)=true:=by have:j=1\/j=2\/j=3\/j=4\/j=5\/j=6\/j=7:=aa;rcases this with rfl | rfl | rfl | rfl | rfl | rfl | rfl<;>rfl
 have hM:gG M' nx=some (.row [.int .i64 0,.int .i64 0,.int .i64 0,.nilf]):=by rw[h5 nx aa,ap,if_pos rfl]
 have cF:cellsOf (sp kb j)=[sp kb j]:=by have:j=1\/j=2\/j=3\/j=4\/j=5\/j=6\/j=7:=aa;rcases this with rfl | rfl | rfl | rfl | rfl | rfl | rfl<;>rfl
 refine ul Vd UA @uZ.eq_1 hM gE cF ?_;refine⟨kb,rfl,aa,aa,?_,?_⟩
 ·unfold qR at h4 ⊢
  rw[ap,if_neg aa];exact h4
 exact(((aq.refl nx M).set (u7 _) _).trans (h5.le aa)).set (u7 _) _
theorem f365 (ρ:aK) (k a b' x y:Int) (v:XV) (hv:cellsOf v=[v]/\ax v=true):ar an ρ 365 [.agg [.int .i64 k,.int .u64 a,.int .u64 b',v],.int .u64 x,.int .u64 y] M nx (fe nx M (.bool true)):=by refine ar.wk 7 [.tmp 6] Tryz.func365 ?_;refine jz fT hv.1 hv.2 @fe.eq_1 ?_;exact⟨(aq.refl _ _).set (u7 _) _,aa⟩
theorem f366 (ρ:aK) (k a b' x y:Int) (v:XV) (hv:cellsOf v=[v]/\ax v=true):ar an ρ 366 [.agg [.int .i64 k,.int .u64 a,.int .u64 b',v],.int .u64 x,.int .u64 y] M nx (fe nx M (.bool (decide (x<=a)))):=by refine ar.wk 11 [.tmp 6] Tryz.func366 ?_;refine jz fT hv.1 hv.2 @fe.eq_1 ?_;exact⟨(aq.refl _ _).set (u7 _) _,aa⟩
theorem f367 (ρ:aK) (k a b' x y:Int) (v:XV) (hv:cellsOf v=[v]/\ax v=true):ar an ρ 367 [.agg [.int .i64 k,.int .u64 a,.int .u64 b',v],.int .u64 x,.int .u64 y] M nx (fe nx M (.bool (decide (y<=a)))):=by refine ar.wk 11 [.tmp 6] Tryz.func367 ?_;refine jz fT hv.1 hv.2 @fe.eq_1 ?_;exact⟨(aq.refl _ _).set (u7 _) _,aa⟩
theorem f368 (ρ:aK) (k a b' x y:Int) (v:XV) (hv:cellsOf v=[v]/\ax v=true) (ha:a≠0):ar an ρ 368 [.agg [.int .i64 k,.int .u64 a,.int .u64 b',v],.int .u64 x,.int .u64 y] M nx (fe nx M (.bool (decide (y.tmod a=b')))):=by refine ar.wk 14 [.tmp 6] Tryz.func368 ?_;refine jz fT hv.1 hv.2 @fe.eq_1 ?_;exact⟨(aq.refl _ _).set (u7 _) _,aa⟩
def eN {α:Type} (q:α->Bool):List α->Nat->Int
 | [],_=>-1
 | e::es,i=>if q e then (i:Int) else eN q es (i+1)
theorem lr {q:α->Bool} {ps:List α} {e:α} (h:ps[i]?=some e):eN q (ps.drop i) i=if q e then (i:Int) else eN q (ps.drop (i+1)) (i+1):=by obtain⟨h1,rfl⟩:=aaq.1 h;rw[aaV h1];rfl
theorem uK {q:α->Bool} (ps:List α) (i:Nat):decide (0<=eN q ps i)=ps.any q:=by
 induction ps generalizing i with
 | nil=>rfl
 | cons e es ih =>
   by_cases h:q e=true
   ·have h1:eN q (e::es) i=i:=if_pos h
    simp[h1,h]
   have h1:eN q (e::es) i=eN q es (i+1):=if_neg h;have h':q e=false:=by simpa using h
   simp only[h1,ih,any_cons,h',Bool.false_or]
theorem f362 (ρ:aK) {ps:List Ex} {row:List XV} (cw:bE M b v 4 ps.length row) (jd:cj M b ps row) (hb:b<=nx) {first:List XV} (q:Ex->Bool)
 (hq:∀e ∈ ps,∀(M':Hp) (nx':Nat) (cs:List XV),aq nx M M'->nx<=nx'->bG M' b e cs->ar an ρ g (first++[.agg cs]++caps) M' nx' (fe nx' M' (.bool (q e)))) :
 ar an ρ 362 [v,.fn (.func g) first caps] M nx (fe nx M (.int .i64 (eN q ps 0))):=by
 have ay:=fun N=>cw.len (P:=an) (t:=42) gZ.2.2.2.2.2 N
 have hz:=cw.1;refine ar.wk 19 [.tmp 4] Tryz.func362 ?_;refine fM fT ay ?_;refine aC (fun m s=>∃i:Nat,i<=ps.length/\m=ps.length - i/\eN q (ps.drop i) i=eN q ps 0/\gG s.env 0=some v/\gG s.env 1=some (.fn (.func g) first caps)/\gG s.env 7=some (.int .i64 ps.length)/\gG s.env 8=some (.int .i64 i)/\aq nx M s.M/\nx<=s.nx)
  ps.length ⟨0,aa,aa,af,?_⟩ ?_
 ·refine dt fT ?_
  exact⟨aq.refl _ _,aa⟩
 rintro m ⟨env,M',nx'⟩ ⟨i,hi,hm,pA,e0,e1,e7,e8,ha,hn⟩;simp only at e0 e1 e7 e8 ha hn;by_cases aL:(i:Int)<ps.length
 ·have aP:i<ps.length:=aa
  obtain⟨e,gA⟩:=aao aP;obtain⟨n,o,jw,bC,aU⟩:=cw.elem (P:=an) aP (t:=42) (t':=44) gZ.2.2.2.1 fu.1;have aU:=aU M' (ha.le hb);have bV:=eF i;have bw:=lr (q:=q) gA;refine oq fT e0 e1 e7 e8 aL bC aU ?_;refine gQ (hq e (aaH gA) M' _ _ ha aa ((jd.get gA).agr (ha.le hb))) ?_;rintro⟨v',M'',nx''⟩ ⟨h1,h2,h3⟩;simp only at h1 h2 h3;subst h1;cases yR:q e with
  | true =>
    refine ky fT e0 e1 e7 e8 yR @fe.eq_1 ?_;refine⟨?_,ha.trans (h2.le aa),aa⟩;rw[<-pA,bw,yR];rfl
  | false =>
    refine ky fT e0 e1 e7 e8 yR bV ?_;exact⟨ps.length - (i+1),aa,i+1,aa,rfl,by rw[<-pA,bw,yR];rfl,rfl,ha.trans (h2.le aa),aa⟩
 have hd:ps.drop i=[]:=aaM aa;refine ky fT e0 e1 e7 e8 aL @fe.eq_1 ?_;refine⟨?_,ha,aa⟩;rw[<-pA,hd];rfl
theorem f333 (ρ:aK) {ps:List Ex} {row:List XV} (cw:bE M b v 4 ps.length row) (jd:cj M b ps row) (hb:b<=nx) {first:List XV} (q:Ex->Bool)
 (hq:∀e ∈ ps,∀(M':Hp) (nx':Nat) (cs:List XV),aq nx M M'->nx<=nx'->bG M' b e cs->ar an ρ g (first++[.agg cs]++caps) M' nx' (fe nx' M' (.bool (q e)))) :
 ar an ρ 333 [v,.fn (.func g) first caps] M nx (fe nx M (.bool (ps.any q))):=by
 refine ar.wk 9 [.tmp 4] Tryz.func333 ?_;refine dt lK ?_;refine lG (f362 ρ cw jd aa q fun e he M' nx' cs ha hn=>hq e he M' nx' cs (ha.le aa) aa) fun M'' nx'' h2 h3=>?_
 refine fM lK @fe.eq_1 ?_;exact⟨by rw[uK],h2.le aa,aa⟩
def gL (k a b:Int) (n:Nat):Bool :=
 decide (1<=k)&&decide (k<8) && !(decide ((n:Int)<qt k)) && !(decide (uM k<n)) && !(decide (np k<2)&&decide (0<b)) && !(decide (np k<1)&&decide (0<a)) && !(decide (np k=2)&&decide (a<=b))
mutual
def iE:Ex->Bool
 | .mk k a b ps=>gL k a b ps.length&&C3 ps
def C3:List Ex->Bool
 | []=>true
 | e::es=>iE e&&C3 es
end
theorem wL:∀(ps:List Ex),C3 ps = !(ps.any fun e=>!(iE e))
 | []=>rfl
 | e::es=>by simp only[C3,any_cons,wL es];cases iE e<;>simp
theorem f286n (ρ:aK) (M:Hp) (nx:Nat) (k:Int) (h:¬ (1<=k/\k<8)):ar an ρ 286 [.int .i64 k] M nx (fe nx M (.tup [.agg [.int .i64 0,.int .i64 0,.int .i64 0,.nilf],.bool false])):=by
 refine ar.wk 14 [.cell 2 374,.tmp 3] Tryz.func286 ?_;by_cases c1:k<1
 ·refine gk Vd c1 @fe.eq_1 ?_
  exact⟨((aq.refl _ _).set aa _).set aa _,aa⟩
 have c2:8<=k:=aa;refine jz Vd c1 c2 @fe.eq_1 ?_;exact⟨((aq.refl _ _).set aa _).set aa _,aa⟩
end
section
open Go.Proofs
theorem f334 (ρ:aK) {e:Ex} (he:bG M b e cs)
 (h:∀(M':Hp) (nx':Nat),aq nx M M'->nx<=nx'->ar an ρ 283 [.agg cs] M' nx' (fe nx' M' (.bool (iE e)))) :
 ar an ρ 334 [.agg cs] M nx (fe nx M (.bool (!(iE e)))):=by
 have sx:=he;obtain⟨k,x,y,ps⟩:=e;simp only[bG]at sx;obtain⟨v,row,rfl,cw,jd⟩:=sx;have hv:=cw.cell;refine ar.wk 6 [.tmp 2] Tryz.func334 ?_;refine gk EZ hv.1 hv.2 ?_;refine gQ (h _ _ ((aq.refl _ _).set (u7 _) _) aa) ?_;rintro⟨v',M',nx'⟩ ⟨h1,h2,h3⟩;simp only at h1 h2 h3;subst h1;refine fM EZ @fe.eq_1 ?_;exact⟨((aq.refl _ _).set (u7 _) _).trans (h2.le aa),aa⟩
theorem f283 (ρ:aK):∀(sz:Nat) (e:Ex) (M:Hp) (nx b:Nat) (cs:List XV),dV e<sz->bG M b e cs->b<=nx->ar an ρ 283 [.agg cs] M nx (fe nx M (.bool (iE e))):=by
 intro sz
 induction sz with
 | zero=>intro e M nx b cs h;omega
 | succ sz ih =>
 intro e M nx b cs cJ he hb;obtain⟨k,x,y,ps⟩:=e;simp only[bG]at he;obtain⟨v,row,rfl,cw,jd⟩:=he;have hv:=cw.cell;have ay:=fun N=>cw.len (P:=an) (t:=42) gZ.2.2.2.2.2 N
 have TV:∀e ∈ ps,∀(M':Hp) (nx':Nat) (cs:List XV),nx<=nx'->bG M' b e cs->ar an ρ 334 ([]++[.agg cs]++[]) M' nx' (fe nx' M' (.bool (!(iE e)))):=by
  intro e hm M' nx' cs hn D1;refine f334 ρ D1 fun M'' nx'' ha yZ=>ih e M'' nx'' b cs ?_ (D1.agr (ha.le aa)) aa
  have:=fb hm;simp only[dV]at cJ;omega
 refine ar.wk 65 [.tmp 2] Tryz.func283 ?_;by_cases hk:1<=k/\k<8
 ·refine gk CA hv.1 hv.2 ?_
  refine gQ (f286 ρ _ _ k hk.1 aa) ?_;rintro⟨v',M',nx'⟩ ⟨kb,h1,h2,h3,h4,h5⟩;simp only at h1 h2 h3 h4 h5;subst h1;have hM:gG M' nx=some (.row [.int .i64 k,.int .u64 x,.int .u64 y,v]):=by rw[h5 nx aa,ap,if_pos rfl]
  have ha:aq nx M M':=((aq.refl nx M).set (u7 _) _).trans (h5.le aa);clear h5;have gE:ax (sp kb k)=true:=by have:k=1\/k=2\/k=3\/k=4\/k=5\/k=6\/k=7:=aa;rcases this with rfl | rfl | rfl | rfl | rfl | rfl | rfl<;>rfl
  have jX:∀(o o':bx),aq nx M (aG (aG M' (nx'+3) o) (nx'+3) o'):=fun o o'=>(ha.set aa _).set aa _
  have fq:nx<=nx'+25:=aa;have no:iE (.mk k x y ps)=false->∀(M1:Hp) (n1:Nat),aq nx M M1->nx<=n1->fe nx M (.bool (iE (.mk k x y ps))) (.bool false,M1,n1):=fun h M1 n1 h1 h2=>by rw[h];exact .mk h1 h2
  have yes:gL k x y ps.length=true->iE (.mk k x y ps)=C3 ps:=fun h=>by simp only[iE,h,Bool.true_and]
  have go:∀(M1:Hp) (n1:Nat),nx<=n1->aq nx M M1->ar an ρ 333 [v,.fn (.func 334) [] []] M1 n1 (fe n1 M1 (.bool (!(C3 ps)))):=fun M1 n1 hn hA=>by
   have:=f333 ρ (nx:=n1) (cw.agr (hA.le hb)) (jd.agr (hA.le hb)) aa (g:=334) (first:=[]) (caps:=[]) (fun e=>!(iE e)) fun e he M2 n2 cs _ fq he2=>TV e he M2 n2 cs aa he2
   rw[wL,adg];exact this
  clear TV ih cJ;by_cases c1:(ps.length:Int)<qt k
  ·refine ul CA hM ay @uZ.eq_1 gE c1 ?_
   exact no (by simp[iE,gL,c1]) _ _ (jX _ _) aa
  by_cases c2:uM k<(ps.length:Int)
  ·refine ky CA hM ay @uZ.eq_1 gE c1 c2 ?_
   exact no (by simp[iE,gL,c2]) _ _ (jX _ _) aa
  have hN:np k=0\/np k=1\/np k=2:=by
   unfold np;split;·exact .inr (.inl rfl)
   split;·exact .inr (.inr rfl)
   exact .inl rfl
  rcases hN with hN | hN | hN
  ·by_cases c4:0<y
   ·refine wT CA hM ay @uZ.eq_1 gE c1 c2 hN c4 ?_
    exact no (by simp[iE,gL,hN,c4]) _ _ (jX _ _) aa
   by_cases c6:0<x
   ·refine rf CA hM ay @uZ.eq_1 gE c1 c2 hN c4 c6 ?_
    exact no (by simp[iE,gL,hN,c6]) _ _ (jX _ _) aa
   refine rf CA hM ay @uZ.eq_1 gE c1 c2 hN c4 c6 ?_;refine gQ (go _ _ aa (jX _ _)) ?_;rintro⟨v',M2,n2⟩ ⟨g1,g2,g3⟩;simp only at g1 g2 g3;subst g1;refine fM CA @fe.eq_1 ?_;exact⟨by rw[yes (by simp[gL,hk.1,hk.2,c1,c2,hN,c4,c6]),adg],(jX _ _).trans (g2.le aa),aa⟩
  ·by_cases c4:0<y
   ·refine wT CA hM ay @uZ.eq_1 gE c1 c2 hN c4 ?_
    exact no (by simp[iE,gL,hN,c4]) _ _ (jX _ _) aa
   refine wT CA hM ay @uZ.eq_1 gE c1 c2 hN c4 ?_;refine gQ (go _ _ aa (jX _ _)) ?_;rintro⟨v',M2,n2⟩ ⟨g1,g2,g3⟩;simp only at g1 g2 g3;subst g1;refine fM CA @fe.eq_1 ?_;exact⟨by rw[yes (by simp[gL,hk.1,hk.2,c1,c2,hN,c4]),adg],(jX _ _).trans (g2.le aa),aa⟩
  by_cases c8:x<=y
  ·refine wT CA hM ay @uZ.eq_1 gE c1 c2 hN c8 ?_
   exact no (by simp[iE,gL,hN,c8]) _ _ (jX _ _) aa
  refine wT CA hM ay @uZ.eq_1 gE c1 c2 hN c8 ?_;refine gQ (go _ _ aa (jX _ _)) ?_;rintro⟨v',M2,n2⟩ ⟨g1,g2,g3⟩;simp only at g1 g2 g3;subst g1;refine fM CA @fe.eq_1 ?_;exact⟨by rw[yes (by simp[gL,hk.1,hk.2,c1,c2,hN,c8]),adg],(jX _ _).trans (g2.le aa),aa⟩
 refine gk CA hv.1 hv.2 ?_;refine gQ (f286n ρ _ _ k hk) ?_;rintro⟨v',M',nx'⟩ ⟨h1,h2,h3⟩;simp only at h1 h2 h3;subst h1;refine fM CA @fe.eq_1 ?_;have:iE (.mk k x y ps)=false:=by
  simp only[iE,gL];by_cases h1:1<=k
  ·have:¬ k<8:=aa
   simp[this]
  simp[h1]
 rw[this];exact⟨rfl,((((aq.refl _ _).set (u7 _) _).trans (h2.le aa)).set aa _).set aa _,aa⟩
mutual
theorem ndE_eq:∀(e:Ex) (l:Int),0<=Au e l->Au e l=l - dV e
 | .mk _ _ _ ps,l,h=>by simp only[Au,dV]at h ⊢;have:=HK ps (l - 1) h;omega
theorem HK:∀(es:List Ex) (l:Int),0<=za es l->za es l=l - mb es
 | [],l,h=>by simp[za,mb]
 | e::es,l,h=>by
   simp only[za,mb]at h ⊢;split at h;·omega
   rename_i hl;rw[if_neg hl];have h2:=HK es _ h;have h1:0<=Au e l:=aa;have:=ndE_eq e l h1;omega
end
theorem Em {e:Ex} (h:0<=Au e 60):dV e<=60:=by have:=ndE_eq e 60 h;omega
mutual
def Ee:Ex->Nat
 | .mk _ _ _ ps=>vC ps+1
def vC:List Ex->Nat
 | []=>0
 | e::es=>max (Ee e) (vC es)
end
mutual
theorem Hz:∀(e:Ex),Ee e<=dV e
 | .mk _ _ _ ps=>by simp only[Ee,dV];have:=s7 ps;omega
theorem s7:∀(es:List Ex),vC es<=mb es
 | []=>by simp[vC]
 | e::es=>by simp only[vC,mb];have:=Hz e;have:=s7 es;omega
end
theorem ES {ps:List Ex} {e:Ex} (h:ps[i]?=some e):mb (ps.drop i)=dV e+mb (ps.drop (i+1)):=by obtain⟨h1,rfl⟩:=aaq.1 h;rw[aaV h1];rfl
theorem FR {ps:List Ex} {e:Ex} (h:ps[i]?=some e):vC (ps.drop i)=max (Ee e) (vC (ps.drop (i+1))):=by obtain⟨h1,rfl⟩:=aaq.1 h;rw[aaV h1];rfl
theorem yB (ps:List Ex) (i:Nat):mb (ps.drop i)<=mb ps:=by
 induction ps generalizing i with
 | nil=>simp
 | cons e es ih =>
   cases i with
   | zero=>exact u7 _
   | succ i=>simp only[acs,mb];have:=ih i;omega
theorem f285 (ρ:aK):∀(sz:Nat) (e:Ex) (M:Hp) (nx b:Nat) (cs:List XV),dV e<sz->bG M b e cs->b<=nx->dV e<=1000->ar an ρ 285 [.agg cs] M nx (fe nx M (.int .i64 (dV e))):=by
 intro sz
 induction sz with
 | zero=>intro e M nx b cs h;omega
 | succ sz ih =>
 intro e M nx b cs cJ he hb Zc;obtain⟨k,x,y,ps⟩:=e;simp only[bG]at he;obtain⟨v,row,rfl,cw,jd⟩:=he;have hv:=cw.cell;have ay:=fun N=>cw.len (P:=an) (t:=42) gZ.2.2.2.2.2 N
 have hz:=cw.1;simp only[dV]at Zc cJ;refine ar.wk 19 [.tmp 2] Tryz.func285 ?_;refine jz fT hv.1 hv.2 ay ?_;refine aC (fun m s=>∃(i c:Nat),i<=ps.length/\m=ps.length - i/\c+mb (ps.drop i)=mb ps+1/\gG s.env 3=some (.int .i64 c)/\gG s.env 7=some v/\gG s.env 8=some (.int .i64 ps.length)/\gG s.env 9=some (.int .i64 i)/\aq nx M s.M/\nx<=s.nx)
  ps.length ⟨0,1,aa,aa,ak,?_⟩ ?_
 ·refine dt fT ?_
  exact⟨(aq.refl _ _).set aa _,aa⟩
 rintro m ⟨env,M',nx'⟩ ⟨i,c,hi,hm,hc,e3,e7,e8,e9,ha,hn⟩;simp only at e3 e7 e8 e9 ha hn;by_cases aL:(i:Int)<ps.length
 ·have aP:i<ps.length:=aa
  obtain⟨e,gA⟩:=aao aP;obtain⟨n,o,jw,bC,aU⟩:=cw.elem (P:=an) aP (t:=42) (t':=44) gZ.2.2.2.1 fu.1;have aU:=aU M' (ha.le hb);have bV:=eF i;have Gb:=ES gA;have hdl:=yB ps i;have jT:=fb (aaH gA);have yK:=(jd.get gA).agr (ha.le hb);have F_:IntKind.i64.wrap ((c:Int)+dV e)=((c+dV e:Nat):Int):=by rw[wrap_i64 aa aa];omega
  generalize (row.drop (i*4)).take 4=ecs at aU yK;have Gk:∃a1 a2 a3 a4,ecs=[.int .i64 a1,.int .u64 a2,.int .u64 a3,a4]/\cellsOf a4=[a4]/\ax a4=true:=by obtain⟨k',x',y',ps'⟩:=e;simp only[bG]at yK;obtain⟨v',row',rfl,ox,_⟩:=yK;exact⟨_,_,_,_,rfl,ox.cell⟩
  obtain⟨a1,a2,a3,a4,rfl,p1,p2⟩:=Gk;refine oq fT e3 e7 e8 e9 aL bC aU ?_;refine gQ (ih e _ _ b _ aa (yK.agr (((aq.refl b M').set aa _).set aa _)) aa aa) ?_;rintro⟨v',M'',nx''⟩ ⟨h1,h2,h3⟩;simp only at h1 h2 h3;subst h1;refine ky fT e3 e7 e8 e9 bV F_ ?_;exact⟨ps.length - (i+1),aa,i+1,c+dV e,aa,rfl,aa,rfl,rfl,((ha.set aa _).set aa _).trans (h2.le aa),aa⟩
 have hd:ps.drop i=[]:=aaM aa;refine ky fT e3 e7 e8 e9 aL @fe.eq_1 ?_;refine⟨?_,ha,aa⟩;rw[hd]at hc;simp only[mb]at hc;simp only[dV];congr 1;omega
theorem f284 (ρ:aK):∀(sz:Nat) (e:Ex) (M:Hp) (nx b:Nat) (cs:List XV),dV e<sz->bG M b e cs->b<=nx->dV e<=1000->ar an ρ 284 [.agg cs] M nx (fe nx M (.int .i64 (Ee e))):=by
 intro sz
 induction sz with
 | zero=>intro e M nx b cs h;omega
 | succ sz ih =>
 intro e M nx b cs cJ he hb Zc;obtain⟨k,x,y,ps⟩:=e;simp only[bG]at he;obtain⟨v,row,rfl,cw,jd⟩:=he;have hv:=cw.cell;have ay:=fun N=>cw.len (P:=an) (t:=42) gZ.2.2.2.2.2 N
 have hz:=cw.1;simp only[dV]at Zc cJ;refine ar.wk 20 [.tmp 2] Tryz.func284 ?_;refine jz fT hv.1 hv.2 ay ?_;refine aC (fun m s=>∃(i c:Nat),i<=ps.length/\m=ps.length - i/\max c (vC (ps.drop i))=vC ps/\gG s.env 3=some (.int .i64 c)/\gG s.env 7=some v/\gG s.env 8=some (.int .i64 ps.length)/\gG s.env 9=some (.int .i64 i)/\aq nx M s.M/\nx<=s.nx)
  ps.length ⟨0,0,aa,aa,af,?_⟩ ?_
 ·refine dt fT ?_
  exact⟨(aq.refl _ _).set aa _,aa⟩
 rintro m ⟨env,M',nx'⟩ ⟨i,c,hi,hm,hc,e3,e7,e8,e9,ha,hn⟩;simp only at e3 e7 e8 e9 ha hn;by_cases aL:(i:Int)<ps.length
 ·have aP:i<ps.length:=aa
  obtain⟨e,gA⟩:=aao aP;obtain⟨n,o,jw,bC,aU⟩:=cw.elem (P:=an) aP (t:=42) (t':=44) gZ.2.2.2.1 fu.1;have aU:=aU M' (ha.le hb);have bV:=eF i;have Gb:=FR gA;have hdl:=Hz e;have hds:=s7 ps;have jT:=fb (aaH gA);have yK:=(jd.get gA).agr (ha.le hb);have F_:max (c:Int) (Ee e:Int)=((max c (Ee e):Nat):Int):=aa;generalize (row.drop (i*4)).take 4=ecs at aU yK;have Gk:∃a1 a2 a3 a4,ecs=[.int .i64 a1,.int .u64 a2,.int .u64 a3,a4]/\cellsOf a4=[a4]/\ax a4=true:=by obtain⟨k',x',y',ps'⟩:=e;simp only[bG]at yK;obtain⟨v',row',rfl,ox,_⟩:=yK;exact⟨_,_,_,_,rfl,ox.cell⟩
  obtain⟨a1,a2,a3,a4,rfl,p1,p2⟩:=Gk;refine oq fT e3 e7 e8 e9 aL bC aU ?_;refine gQ (ih e _ _ b _ aa (yK.agr (((aq.refl b M').set aa _).set aa _)) aa aa) ?_;rintro⟨v',M'',nx''⟩ ⟨h1,h2,h3⟩;simp only at h1 h2 h3;subst h1;refine ky fT e3 e7 e8 e9 bV F_ ?_;exact⟨ps.length - (i+1),aa,i+1,max c (Ee e),aa,rfl,aa,rfl,rfl,((ha.set aa _).set aa _).trans (h2.le aa),aa⟩
 have hd:ps.drop i=[]:=aaM aa;refine ky fT e3 e7 e8 e9 aL @fe.eq_1 ?_;refine⟨?_,ha,aa⟩;rw[hd]at hc;simp only[vC]at hc;have hds:=s7 ps;have hw4:IntKind.i64.wrap ((c:Int)+1)=(c:Int)+1:=wrap_i64 aa aa;simp only[Ee,hw4];congr 1;omega
def yw (e:Ex):Bool:=iE e&&decide (Ee e<=8)&&decide (dV e<=32)
theorem f196 (ρ:aK) {e:Ex} (he:bG M b e cs) (hb:b<=nx) (hc:dV e<=1000):ar an ρ 196 [.agg cs] M nx (fe nx M (.bool (yw e))):=by
 have sx:=he;obtain⟨k,x,y,ps⟩:=e;simp only[bG]at sx;obtain⟨v,row,rfl,cw,jd⟩:=sx;have hv:=cw.cell;refine ar.wk 15 [.tmp 2] Tryz.func196 ?_;refine gk fT hv.1 hv.2 ?_;generalize xu:aG M nx _=M1;have ha:aq nx M M1:=by rw[<-xu];exact(aq.refl _ _).set (u7 _) _
 have hg:gG M1 nx=some (.row [.int .i64 k,.int .u64 x,.int .u64 y,v]):=by rw[<-xu,ap,if_pos rfl]
 clear xu;generalize hee:Ex.mk k x y ps=e at he hc ⊢;refine lG (f283 ρ _ e _ _ b _ (aby _) (he.agr (ha.le hb)) aa) fun M2 n2 h2 h3=>?_
 have hg2:gG M2 nx=some (.row [.int .i64 k,.int .u64 x,.int .u64 y,v]):=by rw[h2 nx aa,hg]
 have jX:aq nx M M2:=ha.trans (h2.le aa);cases h0:iE e with
 | false =>
   refine gk fT h0 @fe.eq_1 ?_;exact⟨by simp[yw,h0],jX,aa⟩
 | true =>
   refine gk fT h0 hg2 ?_;refine lG (f284 ρ _ e _ _ b _ (aby _) (he.agr (jX.le hb)) aa hc) fun M3 n3 h4 h5=>?_
   have VA:gG M3 nx=some (.row [.int .i64 k,.int .u64 x,.int .u64 y,v]):=by rw[h4 nx aa,hg2]
   have oN:aq nx M M3:=jX.trans (h4.le aa);by_cases hd:(Ee e:Int)<=8
   ·refine gk fT hd VA ?_
    refine lG (f285 ρ _ e _ _ b _ (aby _) (he.agr (oN.le hb)) aa hc) fun M4 n4 h6 h7=>?_
    refine fM fT @fe.eq_1 ?_;refine⟨?_,oN.trans (h6.le aa),aa⟩;have:decide (Ee e<=8)=true:=decide_eq_true aa;rw[yw,h0,this];congr 1;simp;omega
   refine jz fT hd VA @fe.eq_1 ?_;have:decide (Ee e<=8)=false:=decide_eq_false aa;exact⟨by simp[yw,h0,this],oN,aa⟩
end
section
variable {P:Program} {ρ:aK} {w w':World} {σ σ':cb} {M N:Hp} {nx n g:Nat} {args:List XV} {R:ew->Prop}
def Cl (n:Nat) (M:Hp):Prop:=∀k o,gG M k=some o->k<n/\cp n o=true
mutual
theorem VR.klt (h:∀k,n<=k->σ k=none):∀{x:XV} {v:Value},VR ρ σ x v->aO n x=true
 | .un,_,_ | .udf,_,_ | .int ..,_,_ | .bool _,_,_ | .str _,_,_ | .si ..,_,_ | .nils,_,_ | .nilp,_,_ | .nilf,_,_ | .nilm,_,_ | .nili,_,_ | .txt _,_,_=>by simp only[aO]
 | .sl k ..,v,hv | .mp k _,v,hv | .mm k,v,hv | .yd k,v,hv=>by
   simp only[aO,abD];refine acG fun hk=>?_
   simp only[VR,h k hk]at hv;simp at hv
 | .agg cs,v,hv=>by simp only[VR]at hv;obtain⟨us,_,r⟩:=hv;simp only[aO];exact c_.klt h r
 | .tup cs,v,hv=>by simp only[VR]at hv;obtain⟨us,_,r⟩:=hv;simp only[aO];exact c_.klt h r
 | .fn f xs ys,v,hv=>by simp only[VR]at hv;obtain⟨us,us',_,r,r'⟩:=hv;unfold aO;rw[c_.klt h r];exact c_.klt h r'
 | .ifc t x,v,hv=>by simp only[VR]at hv;obtain⟨u,_,r⟩:=hv;simp only[aO];exact VR.klt h r
theorem c_.klt (h:∀k,n<=k->σ k=none):∀{xs:List XV} {us:List Value},c_ ρ σ xs us->aE n xs=true
 | [],_,_=>by simp only[aE]
 | x::xs,us,hv=>by simp only[c_]at hv;obtain⟨u,us',_,h1,h2⟩:=hv;unfold aE;rw[VR.klt h h1];exact c_.klt h h2
end
theorem eU.klt (h:∀k,n<=k->σ k=none):∀{xs:List (Nat×XV×XV)} {es:List MapEntry},eU ρ σ xs es->cp.go n xs=true
 | [],_,_=>by simp only[cp.go]
 | (b,k,v)::xs,es,hv=>by simp only[eU]at hv;obtain⟨e,es',_,_,h1,h2,h3⟩:=hv;unfold cp.go;rw[VR.klt h h1,VR.klt h h2];exact eU.klt h h3
theorem OR.klt (h:∀k,n<=k->σ k=none) {p:Nat×Nat}:∀{o:bx},OR ρ w σ p o->cp n o=true
 | .cst cs,ho=>by simp only[OR]at ho;obtain⟨us,t,fz,_,_,_,h5⟩:=ho;simp only[cp];exact c_.klt h h5
 | .row cs,ho=>by simp only[OR]at ho;obtain⟨us,t,fz,_,_,_,_,h5⟩:=ho;simp only[cp];exact c_.klt h h5
 | .map es clock,ho=>by simp only[OR]at ho;obtain⟨es',_,h2⟩:=ho;simp only[cp];exact eU.klt h h2
 | .iter none _ _ _,_=>by simp only[cp]
 | .iter (Option.some m) _ _ _,ho=>by
   simp only[cp,abD];refine acG fun hk=>?_
   simp only[OR,h m hk]at ho;simp at ho
theorem Ok.cl (aQ:Ok ρ w σ M) (h:∀k,n<=k->σ k=none):Cl n M:=fun k o hk=>by obtain⟨p,hp,ho⟩:=aQ.obj k o hk;refine⟨acG fun hn=>?_,ho.klt h⟩;rw[h k hn]at hp;cases hp
theorem ft.closed (h:Cl nx M->aE nx args=true->ft P ρ g args M nx R):ft P ρ g args M nx R :=
 fun w σ vs aQ ce aX=>h (aQ.cl ce) (c_.klt ce aX) w σ vs aQ ce aX
theorem ft.imp {R':ew->Prop} (h:ft P ρ g args M nx R) (hR:∀w σ r v w',Ok ρ w σ M->(∀k,nx<=k->σ k=none)->R r->cK ρ w σ M nx r v w'->∃r',R' r'/\cK ρ w σ M nx r' v w'):ft P ρ g args M nx R' :=
 fun w σ vs aQ ce aX o a K Q hK=>h w σ vs aQ ce aX o a K Q fun v w' ⟨r,hr,hp⟩=>hK v w' (hR w σ r v w' aQ ce hr hp)
theorem ar.closed (h:Cl nx M->aE nx args=true->ar P ρ g args M nx R):ar P ρ g args M nx R:=by
 refine⟨ft.closed fun h1 h2=>(h h1 h2).1,fun hd ⟨r0,mP⟩=>?_⟩;by_cases hc:Cl nx M/\aE nx args=true;·exact(h hc.1 hc.2).2 hd ⟨r0,mP⟩
 exact⟨r0,mP,ft.closed fun h1 h2=>(hc ⟨h1,h2⟩).elim⟩
theorem ar.mono {R':ew->Prop} (h:ar P ρ g args M nx R) (hR:∀r,R r->R' r):ar P ρ g args M nx R':=by
 refine⟨h.1.mono hR,fun hd ⟨r0,mP⟩=>?_⟩;by_cases hc:∃r,R r
 ·obtain⟨r,h1,h2⟩:=h.2 hd hc
  exact⟨r,hR r h1,h2⟩
 exact⟨r0,mP,h.1.mono fun r hr=>(hc ⟨r,hr⟩).elim⟩
theorem ft.out (h:ft P ρ g args M nx R):ft P ρ g args M nx fun r=>R r/\Cl r.2.2 r.2.1/\aO r.2.2 r.1=true:=h.imp fun w σ r v w' aQ ce hr hp=>by
 refine⟨r,⟨hr,?_⟩,hp⟩;obtain⟨σ',h1,h2,h3,h4,h5⟩:=hp;have hf:∀k,r.2.2<=k->σ' k=none:=fun k hk=>by
  rcases h5 k with e | e
  ·rw[e];exact ce k aa
  omega
 exact⟨h2.cl hf,h1.klt hf⟩
theorem ar.out (h:ar P ρ g args M nx R):ar P ρ g args M nx fun r=>R r/\Cl r.2.2 r.2.1/\aO r.2.2 r.1=true:=by
 refine⟨h.1.out,fun hd ⟨r0,mP⟩=>?_⟩;obtain⟨r,h1,h2⟩:=h.2 hd ⟨r0,mP.1⟩;by_cases hc:Cl r.2.2 r.2.1/\aO r.2.2 r.1=true;·exact⟨r,⟨h1,hc⟩,h2⟩
 exact⟨r0,mP,h2.out.mono fun x hx=>by obtain⟨rfl,hx⟩:=hx;exact(hc hx).elim⟩
theorem Cl.sub (h:Cl nx M) {ks:List Nat}:Cl nx (kR M ks):=fun k o hk=>h k o (by rw[iK]at hk;split at hk;exact hk;cases hk)
theorem Cl.set (h:Cl n M) {o:bx} (hk:k<n) (ho:cp n o=true):Cl n (aG M k o):=fun j x hj=>by
 rw[ap]at hj;split at hj;·rename_i e;subst e;cases hj;exact⟨hk,ho⟩
 exact h j x hj
mutual
theorem aO.le {m:Nat} (hm:n<=m):∀{x:XV},aO n x=true->aO m x=true
 | .un,_ | .udf,_ | .int ..,_ | .bool _,_ | .str _,_ | .si ..,_ | .nils,_ | .nilp,_ | .nilf,_ | .nilm,_ | .nili,_ | .txt _,_=>by simp only[aO]
 | .sl k ..,h | .mp k _,h | .mm k,h | .yd k,h=>by simp only[aO,abD]at h ⊢;omega
 | .agg cs,h | .tup cs,h=>by simp only[aO]at h ⊢;exact aE.le hm h
 | .fn f xs ys,h=>by
   unfold aO at h ⊢;split at h<;>(try (cases h;done))
   rename_i h0;rw[aE.le hm h0];exact aE.le hm h
 | .ifc t x,h=>by simp only[aO]at h ⊢;exact aO.le hm h
theorem aE.le {m:Nat} (hm:n<=m):∀{xs:List XV},aE n xs=true->aE m xs=true
 | [],_=>by simp only[aE]
 | x::xs,h=>by
   unfold aE at h ⊢;split at h<;>(try (cases h;done))
   rename_i h0;rw[aO.le hm h0];exact aE.le hm h
end
theorem cp.le {m:Nat} (hm:n<=m):∀{o:bx},cp n o=true->cp m o=true
 | .row cs,h | .cst cs,h=>by simp only[cp]at h ⊢;exact aE.le hm h
 | .map es _,h=>by
   simp only[cp]at h ⊢
   revert h
   induction es with
   | nil=>intro _;simp only[cp.go]
   | cons e es ih =>
     obtain⟨b,k,v⟩:=e;intro h;unfold cp.go at h ⊢;split at h<;>(try (cases h;done))
     rename_i h1 h2;rw[aO.le hm h1,aO.le hm h2];exact ih h
 | .iter none _ _ _,_=>by simp only[cp]
 | .iter (Option.some k) _ _ _,h=>by simp only[cp,abD]at h ⊢;omega
theorem Cl.le (h:Cl n M) (hm:n<=m):Cl m M:=fun k o hk=>⟨aax (h k o hk).1 hm,cp.le hm (h k o hk).2⟩
theorem xv (h:Cl n M):∀(ks:List Nat),pi n M ks=true
 | []=>rfl
 | k::ks=>by
   unfold pi;split
   ·rename_i o ho
    obtain⟨h1,h2⟩:=h k o ho;rw[<-abD]at h1;rw[h1,h2];exact xv h ks
   exact xv h ks
theorem cK.forget {u:Value} {r:ew} (cF:Cl nx M) (ce:∀k,nx<=k->σ k=none) (hv:aO nx v=true) (hr:fe nx M v r) (hp:cK ρ w σ M nx r u w'):cK ρ w σ M nx (v,M,nx) u w':=by
 obtain⟨σ',h1,h2,h3,h4,h5⟩:=hp;obtain⟨e1,e2,e3⟩:=hr;have tr:∀k,k<nx->Xs.trunc σ' nx k=σ' k:=fun k hk=>if_pos hk
 have old:∀k o,gG M k=some o->gG r.2.1 k=some o/\k<nx:=fun k o hk=>⟨(e2 k (cF k o hk).1).trans hk,(cF k o hk).1⟩
 have un:∀k p,Xs.trunc σ' nx k=some p->σ' k=some p:=fun k p h=>by
  simp only[Xs.trunc]at h;split at h;·exact h
  cases h
 refine⟨Xs.trunc σ' nx,by rw[e1]at h1;exact VR.trunc hv h1,⟨fun k o hk=>?_,fun k k' o o' p p' hk ia iR hp uV he=>?_,fun b x hb=>⟨(h2.fix b x hb).1,fun⟨k,o,p,hk,hp,q⟩=>(h2.fix b x hb).2 ⟨k,o,p,(old k o hk).1,un _ _ hp,q⟩⟩⟩,
  ⟨h3.os,h3.tape,h3.output,h3.size,h3.blk,fun b ⟨k,o,p,hk,hp,q⟩=>h3.own b ⟨k,o,p,(old k o hk).1,un _ _ hp,q⟩,fun k p hk=>?_,fun b ⟨k,o,p,hk,hp,q⟩=>h3.held b ⟨k,o,p,(old k o hk).1,un _ _ hp,q⟩⟩,u7 _,fun k=>?_⟩
 ·obtain⟨g1,g2⟩:=old k o hk
  obtain⟨p,hp,ho⟩:=h2.obj k o g1;exact⟨p,by rw[tr k g2];exact hp,OR.trunc (cF k o hk).2 ho⟩
 ·exact h2.inj k k' o o' p p' (old _ _ hk).1 (old _ _ ia).1 iR (un _ _ hp) (un _ _ uV) he
 ·rw[tr k (acG fun hn=>by rw[ce k hn]at hk;cases hk)]
  exact h3.sig k p hk
 left;by_cases hk:k<nx
 ·rw[tr k hk]
  rcases h5 k with e | e
  ·exact e
  omega
 simp only[Xs.trunc,if_neg hk];exact(ce k aa).symm
theorem ft.forget (cF:Cl nx M) (hv:aO nx v=true) (h:ft P ρ g args M nx (fe nx M v)):ft P ρ g args M nx fun r=>r=(v,M,nx) :=
 h.imp fun _ _ _ _ _ _ ce hr hp=>⟨_,rfl,hp.forget cF ce hv hr⟩
theorem yC (nx:Nat) (M:Hp):aq nx M (kR M (aa7 nx)):=fun k hk=>by rw[iK,if_pos (mem_range.2 hk)]
theorem bN.read (cF:Cl nx M) (ha:aE nx args=true) (hv:aO nx v=true) (h:∀N,aq nx M N->ar P ρ g args N nx (fe nx N v)):bN P ρ g args M nx ⟨v,aa7 nx,[]⟩ nx :=
 ⟨ha,xv cF _,(fun k hk=>by cases hk),u7 _,(h _ (yC nx M)).1.forget cF.sub hv⟩
theorem cK.less {N':Hp} {val:XV} {v:Value} (h:∀k o,gG N' k=some o->gG N k=some o) (hp:cK ρ w σ M lo (val,N,hi) v w'):cK ρ w σ M lo (val,N',hi) v w':=by
 obtain⟨σ',h1,h2,h3,h4,h5⟩:=hp;refine⟨σ',h1,h2.sub h,⟨h3.os,h3.tape,h3.output,h3.size,h3.blk,fun b hb=>h3.own b ?_,h3.sig,fun b hb=>h3.held b ?_⟩,h4,h5⟩;·obtain⟨k,o,p,q,r⟩:=hb;exact⟨k,o,p,h _ _ q,r⟩
 obtain⟨k,o,p,q,r⟩:=hb;exact⟨k,o,p,h _ _ q,r⟩
theorem PA (ρ:aK) (b:Bool):VR { ρ with det:=b } = VR ρ:=U
theorem Kk (ρ:aK) (b:Bool):c_ { ρ with det:=b } = c_ ρ:=U
theorem HR (ρ:aK) (b:Bool):OR { ρ with det:=b } = OR ρ:=U
theorem Hm (ρ:aK) (b:Bool):Ok { ρ with det:=b } w σ M ↔ Ok ρ w σ M :=
 ⟨fun h=>⟨fun k o hk=>by have:=h.obj k o hk;rwa [HR]at this,h.inj,h.fix⟩,fun h=>⟨fun k o hk=>by rw[HR];exact h.obj k o hk,h.inj,h.fix⟩⟩
theorem ft.det {b:Bool} (h:ft P { ρ with det:=b } g args M nx R):ft P ρ g args M nx R :=
 fun w σ vs aQ ce aX o a K Q hK=>h w σ vs ((Hm ρ b).2 aQ) ce (by rw[Kk];exact aX) o a K Q fun v w' ⟨r,hr,σ',h1,h2,h3,h4,h5⟩=>hK v w' ⟨r,hr,σ',by rw[PA]at h1;exact h1,(Hm ρ b).1 h2,h3,h4,h5⟩
def dH (M:Hp) (lo hi:Nat):List (Nat×Option bx):=ri M (List.range' lo (hi - lo))
theorem eI (M:Hp) (lo hi:Nat):∀k ∈ bM (dH M lo hi),lo<=k/\k<hi:=fun k hk=>by rw[dH,q_,mem_range']at hk;obtain⟨i,h1,rfl⟩:=hk;omega
theorem bW (M N:Hp) (lo hi k:Nat):gG (aY N (dH M lo hi)) k=if lo<=k/\k<hi then gG M k else gG N k:=by rw[dH,lf];congr 1;rw[mem_range',eq_iff_iff];exact⟨fun⟨i,h1,h2⟩=>aa,fun⟨h1,h2⟩=>⟨k - lo,aa,aa⟩⟩
theorem bN.made {Q:ew->Prop} (cF:Cl nx M) (ha:aE nx args=true) (h:∀N,aq nx M N->ar P { ρ with det:=true } g args N nx fun r=>Q r/\aq nx N r.2.1/\nx<=r.2.2)
 (v0:XV) (hv0:aO nx v0=true) (YX:∀N,aq nx M N->Q (v0,N,nx)) :
 ∃(v:XV) (N:Hp) (hi:Nat),bN P ρ g args M nx ⟨v,aa7 nx,dH N nx hi⟩ hi/\Q (v,N,hi)/\aq nx M N/\nx<=hi/\Cl hi N/\aO hi v=true:=by
 have hN:=yC nx M;have hD:=(h _ hN).out;obtain⟨⟨v,N,hi⟩,⟨⟨g1,g2,g3⟩,g4,g5⟩,g6⟩:=hD.2 rfl ⟨(v0,_,nx),⟨YX _ hN,aq.refl _ _,u7 _⟩,cF.sub,hv0⟩;simp only at g2 g3 g4 g5;refine⟨v,N,hi,⟨ha,xv cF _,fun k hk=>.inr (eI _ _ _ k hk),g3,?_⟩,g1,fun k hk=>(g2 k hk).trans (hN k hk),g3,g4,g5⟩;refine(ft.det g6).imp fun w σ r u w' _ _ hr hp=>⟨_,rfl,?_⟩
 subst hr;refine hp.less fun k o hk=>?_
 rw[bW]at hk;split at hk;·exact hk
 rw[<-hk];exact g2 k ((cF.sub k o hk).1)
end
section
open Go.Proofs
mutual
def jf (x v:Int):Ex->Bool
 | .mk k a b ps=>if k=1 then true else if k=2 then decide (x<=a) else if k=3 then decide (v<=a) else if k=4 then decide (v.tmod a=b) else if k=5 then ny x v false ps else if k=6 then ny x v true ps else !(ny x v false ps)
def ny (x v:Int) (is:Bool):List Ex->Bool
 | []=>true
 | e::es=>(jf x v e==is)&&ny x v is es
end
theorem wX {x v:Int} {is:Bool}:∀(ps:List Ex),ny x v is ps = !(ps.any fun e=>jf x v e != is)
 | []=>by simp[ny]
 | e::es=>by simp only[ny,any_cons,wX es];cases jf x v e<;>cases is<;>simp
mutual
def gI:Ex->Prop
 | .mk _ _ b ps=>0<=b/\o_ ps
def o_:List Ex->Prop
 | []=>True
 | e::es=>gI e/\o_ es
end
theorem uB:∀{ps:List Ex} {e:Ex},o_ ps->e ∈ ps->gI e
 | [],_,_,h=>by cases h
 | a::ps,e,h,hm=>by
   simp only[o_]at h;rcases aaK.1 hm with rfl | hm
   ·exact h.1
   exact uB h.2 hm
theorem wV:∀{ps:List Ex} {e:Ex},C3 ps=true->e ∈ ps->iE e=true
 | [],_,_,h=>by cases h
 | a::ps,e,h,hm=>by
   simp only[C3,aaF]at h;rcases aaK.1 hm with rfl | hm
   ·exact h.1
   exact wV h.2 hm
theorem rG {l:jg} (h:0<k):dM i ⟨v,aa7 k,us⟩ l=(i,aa7 k,bM us)::l:=by
 obtain⟨a,t,e⟩:∃a t,aa7 k=a::t:=by
  cases hr:aa7 k with
  | nil=>have:=congrArg adJ hr;simp at this;omega
  | cons a t=>exact⟨a,t,rfl⟩
 unfold dM;simp only[e]
theorem Th (yc a b:Bool):io an g0 4 .neq yc (.bool a) (.bool b)=some (.bool (a != b)):=by cases yc<;>cases a<;>cases b<;>kernel_rfl
theorem f364 (ρ:aK) {e:Ex} {k1 k2 k3:Nat} {x v:Int} {is:Bool} (he:bG M b e cs) (m1:gG M k1=some (.row [.int .u64 x])) (m2:gG M k2=some (.row [.int .u64 v])) (m3:gG M k3=some (.row [.bool is])) (b1:k1<nx) (b2:k2<nx) (b3:k3<nx)
 (h:∀(M':Hp) (nx':Nat),aq nx M M'->nx<=nx'->ar an ρ 197 [.agg cs,.int .u64 x,.int .u64 v] M' nx' (fe nx' M' (.bool (jf x v e)))) :
 ar an ρ 364 [.agg cs,.mp k1 0,.mp k2 0,.mp k3 0] M nx (fe nx M (.bool (jf x v e != is))):=by
 refine ar.closed fun cF ha=>?_
 have sx:=he;obtain⟨k,p,q,ps⟩:=e;simp only[bG]at sx;obtain⟨pv,row,rfl,cw,jd⟩:=sx;have hv:=cw.cell;have hk:aO nx pv=true:=by
  simp only[aE,aO]at ha;split at ha
  ·rename_i q;split at q
   ·rename_i q2;exact q2
   cases q
  cases ha
 have a1:=fun o=>(aq.refl nx M).set (u7 nx) o
 refine ar.wk 12 [.tmp 5] Tryz.func364 ?_;refine ul EZ hv.1 hv.2 m1 m2 m3 ?_;refine aT (bN.read ((cF.le aa).set aa ?_) ?_ rfl fun N hN=>h N _ ((a1 _).trans (hN.le aa)) aa) aj ?_;·simp only[cp,aE,aO];rw[aO.le aa hk]
 ·simp only[aE,aO];rw[aO.le aa hk]
 refine lO EZ m3 @Th @rG @fe.eq_1 ?_;exact⟨O,aa⟩
theorem f363 (ρ:aK) {ps:List Ex} {row:List XV} {k p q:Int} {x v:Int} {is:Bool} (cw:bE M b pv 4 ps.length row) (jd:cj M b ps row) (hb:b<=nx)
 (h:∀e ∈ ps,∀(M':Hp) (nx':Nat) (cs:List XV),aq nx M M'->nx<=nx'->bG M' b e cs->ar an ρ 197 [.agg cs,.int .u64 x,.int .u64 v] M' nx' (fe nx' M' (.bool (jf x v e)))) :
 ar an ρ 363 [.agg [.int .i64 k,.int .u64 p,.int .u64 q,pv],.int .u64 x,.int .u64 v,.bool is] M nx (fe nx M (.bool (ny x v is ps))):=by
 have hv:=cw.cell;refine ar.wk 14 [.tmp 8] Tryz.func363 ?_;refine gk EZ hv.1 hv.2 ?_;generalize xu:aG (aG (aG (aG M nx (bx.row [XV.int IntKind.i64 k,XV.int abW p,XV.int abW q,pv])) (nx+1) (bx.row [XV.int abW x])) (nx+2) (bx.row [XV.int abW v])) (nx+3) (bx.row [XV.bool is])=M1;have a1:aq nx M M1:=by rw[<-xu];exact O
 have m1:gG M1 (nx+1)=some (.row [.int .u64 x]):=by rw[<-xu];simp[ap]
 have m2:gG M1 (nx+2)=some (.row [.int .u64 v]):=by rw[<-xu];simp[ap]
 have m3:gG M1 (nx+3)=some (.row [.bool is]):=by rw[<-xu];simp[ap]
 clear xu;refine gQ (f333 ρ (cw.agr (a1.le hb)) (jd.agr (a1.le hb)) aa (fun e=>jf x v e != is) fun e hm M' nx' cs ha hn he=>?_) ?_;·exact f364 ρ he ((ha _ aa).trans m1) ((ha _ aa).trans m2) ((ha _ aa).trans m3) aa aa aa fun M2 n2 jX fq=>h e hm M2 n2 cs ((a1.trans (ha.le aa)).trans (jX.le aa)) aa (he.agr (jX.le aa))
 rintro⟨u,M2,n2⟩ ⟨g1,g2,g3⟩;simp only at g1 g2 g3;subst g1;refine fM EZ @fe.eq_1 ?_;exact⟨by rw[wX],a1.trans (g2.le aa),aa⟩
theorem f369 (ρ:aK) {ps:List Ex} {row:List XV} {k p q:Int} {x v:Int} (cw:bE M b pv 4 ps.length row) (jd:cj M b ps row) (hb:b<=nx) (hE:qR M kb) (hkb:kb<nx)
 (h:∀e ∈ ps,∀(M':Hp) (nx':Nat) (cs:List XV),aq nx M M'->nx<=nx'->bG M' b e cs->ar an ρ 197 [.agg cs,.int .u64 x,.int .u64 v] M' nx' (fe nx' M' (.bool (jf x v e)))) :
 ar an ρ 369 [.agg [.int .i64 k,.int .u64 p,.int .u64 q,pv],.int .u64 x,.int .u64 v,.mp kb 0] M nx (fe nx M (.bool (ny x v false ps))):=by
 have hv:=cw.cell;unfold qR at hE;have a1:=fun o=>(aq.refl nx M).set (u7 nx) o
 refine ar.wk 13 [.tmp 7] Tryz.func369 ?_;refine jz U9 hv.1 hv.2 hE ?_;refine lG (f363 ρ (is:=false) (cw.agr ((a1 _).le hb)) (jd.agr ((a1 _).le hb)) aa fun e hm M' nx' cs ha hn he=>h e hm M' nx' cs ((a1 _).trans (ha.le aa)) aa he) fun M2 n2 g2 g3=>?_
 refine fM U9 @fe.eq_1 ?_;exact⟨(a1 _).trans (g2.le aa),aa⟩
theorem f370 (ρ:aK) {ps:List Ex} {row:List XV} {k p q:Int} {x v:Int} (cw:bE M b pv 4 ps.length row) (jd:cj M b ps row) (hb:b<=nx) (hE:qR M kb) (hkb:kb<nx)
 (h:∀e ∈ ps,∀(M':Hp) (nx':Nat) (cs:List XV),aq nx M M'->nx<=nx'->bG M' b e cs->ar an ρ 197 [.agg cs,.int .u64 x,.int .u64 v] M' nx' (fe nx' M' (.bool (jf x v e)))) :
 ar an ρ 370 [.agg [.int .i64 k,.int .u64 p,.int .u64 q,pv],.int .u64 x,.int .u64 v,.mp kb 0] M nx (fe nx M (.bool (ny x v true ps))):=by
 have hv:=cw.cell;unfold qR at hE;have a1:=fun o=>(aq.refl nx M).set (u7 nx) o
 refine ar.wk 13 [.tmp 7] Tryz.func370 ?_;refine jz U9 hv.1 hv.2 hE ?_;refine lG (f363 ρ (is:=true) (cw.agr ((a1 _).le hb)) (jd.agr ((a1 _).le hb)) aa fun e hm M' nx' cs ha hn he=>h e hm M' nx' cs ((a1 _).trans (ha.le aa)) aa he) fun M2 n2 g2 g3=>?_
 refine fM U9 @fe.eq_1 ?_;exact⟨(a1 _).trans (g2.le aa),aa⟩
theorem f371 (ρ:aK) {ps:List Ex} {row:List XV} {k p q:Int} {x v:Int} (cw:bE M b pv 4 ps.length row) (jd:cj M b ps row) (hb:b<=nx) (hE:qR M kb) (hkb:kb<nx)
 (h:∀e ∈ ps,∀(M':Hp) (nx':Nat) (cs:List XV),aq nx M M'->nx<=nx'->bG M' b e cs->ar an ρ 197 [.agg cs,.int .u64 x,.int .u64 v] M' nx' (fe nx' M' (.bool (jf x v e)))) :
 ar an ρ 371 [.agg [.int .i64 k,.int .u64 p,.int .u64 q,pv],.int .u64 x,.int .u64 v,.mp kb 0] M nx (fe nx M (.bool (!(ny x v false ps)))):=by
 have hv:=cw.cell;unfold qR at hE;have a1:=fun o=>(aq.refl nx M).set (u7 nx) o
 refine ar.wk 14 [.tmp 7] Tryz.func371 ?_;refine jz gy9 hv.1 hv.2 hE ?_;refine lG (f363 ρ (is:=false) (cw.agr ((a1 _).le hb)) (jd.agr ((a1 _).le hb)) aa fun e hm M' nx' cs ha hn he=>h e hm M' nx' cs ((a1 _).trans (ha.le aa)) aa he) fun M2 n2 g2 g3=>?_
 refine fM gy9 @fe.eq_1 ?_;exact⟨(a1 _).trans (g2.le aa),aa⟩
theorem f197 (ρ:aK) {x v:Int}:∀(sz:Nat) (e:Ex) (M:Hp) (nx b:Nat) (cs:List XV),dV e<sz->bG M b e cs->b<=nx->iE e=true->gI e->ar an ρ 197 [.agg cs,.int .u64 x,.int .u64 v] M nx (fe nx M (.bool (jf x v e))):=by
 intro sz
 induction sz with
 | zero=>intro e M nx b cs h;omega
 | succ sz ih =>
 intro e M nx b cs cJ he hb aQ iu;obtain⟨k,p,q,ps⟩:=e;simp only[bG]at he;obtain⟨pv,row,rfl,cw,jd⟩:=he;have hv:=cw.cell;simp only[gI]at iu;simp only[iE,aaF]at aQ;obtain⟨hn,ZX⟩:=aQ;have hk:1<=k/\k<8:=by simp only[gL,aaF,decide_eq_true_eq]at hn;omega
 have hp4:k=4->p≠0:=by intro h4;subst h4;simp[gL,np]at hn;omega
 have gS:∀(M1:Hp) (n1:Nat),aq nx M M1->nx<=n1->∀e ∈ ps,∀(M':Hp) (nx':Nat) (cs:List XV),aq n1 M1 M'->n1<=nx'->bG M' b e cs->ar an ρ 197 [.agg cs,.int .u64 x,.int .u64 v] M' nx' (fe nx' M' (.bool (jf x v e))):=by intro M1 n1 Qw bT e hm M' nx' cs _ yZ he;refine ih e M' nx' b cs ?_ he aa (wV ZX hm) (uB iu.2 hm);have:=fb hm;simp only[dV]at cJ;omega
 refine ar.wk 24 [.tmp 6] Tryz.func197 ?_;refine gk KC hv.1 hv.2 ?_;refine gQ (f286 ρ _ _ k hk.1 aa) ?_;rintro⟨v',M',nx'⟩ ⟨kb,h1,h2,h3,h4,h5⟩;simp only at h1 h2 h3 h4 h5;subst h1;have hM:gG M' nx=some (.row [.int .i64 k,.int .u64 p,.int .u64 q,pv]):=by rw[h5 nx aa,ap,if_pos rfl]
 have ha:aq nx M M':=((aq.refl nx M).set (u7 _) _).trans (h5.le aa);clear h5;have gE:ax (sp kb k)=true:=by have:k=1\/k=2\/k=3\/k=4\/k=5\/k=6\/k=7:=aa;rcases this with rfl | rfl | rfl | rfl | rfl | rfl | rfl<;>rfl
 clear cJ ih hn;have hE:∀o o':bx,qR (aG (aG M' (nx'+3) o) (nx'+3) o') kb:=fun o o'=>by unfold qR at h4 ⊢;rw[ap,if_neg aa,ap,if_neg aa];exact h4
 have jX:∀(o o':bx),aq nx M (aG (aG M' (nx'+3) o) (nx'+3) o'):=fun o o'=>(ha.set aa _).set aa _
 have fin:∀(s:Bool),jf x v (.mk k p q ps)=s->∀(M1:Hp) (n1:Nat),aq nx M M1->nx<=n1->fe nx M (.bool (jf x v (.mk k p q ps))) (.bool s,M1,n1):=fun s h M1 n1 h1 h2=>by rw[h];exact .mk h1 h2
 have dW:∃g caps,sp kb k = .fn (.func g) [] caps/\∀(M1:Hp) (n1:Nat),aq nx M M1->nx<=n1->qR M1 kb->kb<n1 ->
  ar an ρ g ([.agg [.int .i64 k,.int .u64 p,.int .u64 q,pv],.int .u64 x,.int .u64 v]++caps) M1 n1 (fe n1 M1 (.bool (jf x v (.mk k p q ps)))):=by
  have:k=1\/k=2\/k=3\/k=4\/k=5\/k=6\/k=7:=aa;rcases this with rfl | rfl | rfl | rfl | rfl | rfl | rfl
  ·exact⟨365,[],rfl,fun M1 n1 h1 h2 _ _=>f365 ρ 1 p q x v pv hv⟩
  ·exact⟨366,[],rfl,fun M1 n1 h1 h2 _ _=>f366 ρ 2 p q x v pv hv⟩
  ·exact⟨367,[],rfl,fun M1 n1 h1 h2 _ _=>f367 ρ 3 p q x v pv hv⟩
  ·exact⟨368,[],rfl,fun M1 n1 h1 h2 _ _=>f368 ρ 4 p q x v pv hv (hp4 rfl)⟩
  ·exact⟨369,[.mp kb 0],rfl,fun M1 n1 h1 h2 h3 h4=>f369 ρ (cw.agr (h1.le hb)) (jd.agr (h1.le hb)) aa h3 h4 (gS M1 n1 h1 h2)⟩
  ·exact⟨370,[.mp kb 0],rfl,fun M1 n1 h1 h2 h3 h4=>f370 ρ (cw.agr (h1.le hb)) (jd.agr (h1.le hb)) aa h3 h4 (gS M1 n1 h1 h2)⟩
  exact⟨371,[.mp kb 0],rfl,fun M1 n1 h1 h2 h3 h4=>f371 ρ (cw.agr (h1.le hb)) (jd.agr (h1.le hb)) aa h3 h4 (gS M1 n1 h1 h2)⟩
 obtain⟨g,caps,hg,hF⟩:=dW;refine jz KC hM @uZ.eq_1 gE ?_;rw[hg];refine dt KC ?_;have:=hF (aG (aG M' (nx'+3) (.row [.int .i64 0,.int .i64 0,.int .i64 0,.nilf])) (nx'+3) (.row [.int .i64 (np k),.int .i64 (qt k),.int .i64 (uM k),.fn (.func g) [] caps])) (nx'+13) (jX _ _) aa (hE _ _) aa;refine gQ this ?_;rintro⟨u,M2,n2⟩ ⟨g1,g2,g3⟩;simp only at g1 g2 g3;subst g1;refine fM KC @fe.eq_1 ?_;exact⟨(jX _ _).trans (g2.le aa),aa⟩
def xS (e:Ex) (x v:Int):Bool:=yw e&&jf x v e
theorem X2 (ρ:aK) {e:Ex} (he:bG M b e cs) (hb:b<=nx) (hc:dV e<=1000) (iu:gI e) (x v:Int):ar an ρ 133 [.agg cs,.int .u64 x,.int .u64 v] M nx (fe nx M (.bool (xS e x v))):=by
 have sx:=he;obtain⟨k,p,q,ps⟩:=e;simp only[bG]at sx;obtain⟨pv,row,rfl,cw,jd⟩:=sx;have hv:=cw.cell;have a1:=fun o=>(aq.refl nx M).set (u7 nx) o
 refine ar.wk 15 [.tmp 6] Tryz.func133 ?_;refine gk fT hv.1 hv.2 ?_;refine lG (f196 ρ (he.agr ((a1 _).le hb)) aa hc) fun M2 n2 g2 g3=>?_
 have a2:=(a1 (.row [.int .i64 k,.int .u64 p,.int .u64 q,pv])).trans (g2.le aa);have y:=g2 nx aa;rw[ap,if_pos rfl]at y;cases hr:yw (.mk k p q ps) with
 | false =>
   refine jz fT y hr @fe.eq_1 ?_;exact⟨by simp[xS,hr],a2,aa⟩
 | true =>
   have aQ:iE (.mk k p q ps)=true:=by simp only[yw,aaF]at hr;exact hr.1.1
   refine gk fT y hr ?_;refine lG (f197 ρ (x:=x) (v:=v) _ (.mk k p q ps) M2 _ b _ (aby _) (he.agr (a2.le hb)) aa aQ iu) fun M3 n3 k2 k3=>?_
   refine fM fT @fe.eq_1 ?_;exact⟨by simp[xS,hr],a2.trans (k2.le aa),aa⟩
end
section
open Go.Proofs
section
variable {P:Program} {M:Hp} {b n:Nat} {t:TypeId} {xs:List XV}
theorem jK.int {k:IntKind} (hu:P.underlying t=some (.int k)) (h:jK P M b n t xs):∃i,xs=[.int k i]/\(Lit.int k i).wf=true:=by
 cases n with
 | zero=>exact h.elim
 | succ n=>simp only[jK,hu]at h;exact h
theorem jK.bool (hu:P.underlying t=some .bool) (h:jK P M b n t xs):∃v,xs=[.bool v]:=by
 cases n with
 | zero=>exact h.elim
 | succ n=>simp only[jK,hu]at h;exact h
theorem jK.slice {e:TypeId} (hu:P.underlying t=some (.slice e)) (h:jK P M b n t xs) :
 ∃(m:Nat) (v:XV) (xss:List (List XV)),n=m+1/\xs=[v]/\bE M b v (P.cellsOf e) xss.length xss.flatten/\∀ys ∈ xss,ys.length=P.cellsOf e/\jK P M b m e ys:=by
 cases n with
 | zero=>exact h.elim
 | succ n =>
   simp only[jK,hu]at h;obtain⟨v,len,row,xss,h1,h2,rfl,rfl,h5⟩:=h;exact⟨n,v,xss,rfl,h1,h2,h5⟩
theorem jK.struct {fs:Array Field} (hu:P.underlying t=some (.struct fs)) (h:jK P M b n t xs):∃m,n=m+1/\UW (jK P M b m) P fs.toList xs:=by
 cases n with
 | zero=>exact h.elim
 | succ n=>simp only[jK,hu]at h;exact⟨n,rfl,h⟩
theorem chunk {sz:Nat}:∀{xss:List (List XV)} {i:Nat} {ys:List XV},(∀ys ∈ xss,ys.length=sz)->xss[i]?=some ys->(xss.flatten.drop (i*sz)).take sz=ys
 | [],_,_,_,h=>by simp at h
 | x::xss,0,ys,hl,h=>by simp only[aaI,aat]at h;subst h;rw[ad0,acm,flatten_cons,take_left' (hl _ aaC)]
 | x::xss,i+1,ys,hl,h=>by simp only[aa1]at h;have hx:=hl x aaC;rw[flatten_cons,ac9,Nat.add_comm,<-abi,drop_left' hx];exact chunk (fun ys hy=>hl ys (aaJ _ hy)) h
theorem SE {α β:Type} {p:α->β->Prop}:∀{l:List α},(∀a ∈ l,∃b,p a b)->∃bs:List β,bs.length=l.length/\∀(i:Nat) a b,l[i]?=some a->bs[i]?=some b->p a b
 | [],_=>⟨[],rfl,fun i a b h=>by simp at h⟩
 | a::l,h=>by
   obtain⟨b,hb⟩:=h a aaC;obtain⟨bs,h1,h2⟩:=SE fun x hx=>h x (aaJ _ hx)
   refine⟨b::bs,by simp[h1],fun i x y hx hy=>?_⟩;cases i with
   | zero =>
     simp only[aaI,aat]at hx hy;subst hx;subst hy;exact hb
   | succ i=>exact h2 i x y (by simpa using hx) (by simpa using hy)
end
section
variable {M:Hp} {b n:Nat} {xs:List XV}
theorem ver_of (h:jK an M b n 33 xs):∃w v:Int,xs=[.int .u64 w,.int .u64 v]:=by obtain⟨m,rfl,h⟩:=h.struct Tryz.underlying33;obtain⟨y0,z0,rfl,_,h0,y1,z1,rfl,_,h1,rfl⟩:=h;obtain⟨w,rfl,_⟩:=h0.int abJ;obtain⟨v,rfl,_⟩:=h1.int abJ;exact⟨w,v,rfl⟩
theorem en_of (h:jK an M b n 67 xs):∃e,xs=gq e:=by obtain⟨m,rfl,h⟩:=h.struct Tryz.underlying67;obtain⟨y0,z0,rfl,_,h0,y1,z1,rfl,_,h1,y2,z2,rfl,_,h2,rfl⟩:=h;obtain⟨x,rfl,_⟩:=h0.int abJ;obtain⟨w,v,rfl⟩:=ver_of h1;obtain⟨m,rfl⟩:=h2.bool Tryz.underlying4;exact⟨⟨x,w,v,m⟩,rfl⟩
def BG:List TypeId:=[3,4,22,31,33,42,44,45,47,67]
theorem Un:∀t ∈ BG,tyOk an BG t=true :=
 List.all_eq_true.1 (show (BG.all fun t=>tyOk an BG t)=true by kernel_rfl)
end
end
structure Md where
 v:Int
 dead:Bool
def gn (r:aR):Bool:=decide (r.kind=3)||decide (r.kind=4)
def oI (t x:Int) (r:aR):Bool:=gn r&&(decide (r.t=t)&&decide (r.x=x))
def nv (r:aR):Md:=if r.kind=3 then ⟨r.v,false⟩ else ⟨0,true⟩
def bd (l:List aR) (t x:Int):List Md:=(l.filter (oI t x)).map nv
def de (t:Int) (o:Option Bool) (r:aR):Option Bool:=if r.t=t then (if r.kind=1 then some false else if r.kind=6\/r.kind=7 then some true else o) else o
def bH (l:List aR) (t:Int):Option Bool:=l.foldl (de t) none
theorem o9 (l:List aR) (r:aR) (t x:Int):bd (l++[r]) t x=if oI t x r=true then bd l t x++[nv r] else bd l t x:=by
 unfold bd;rw[filter_append,map_append];by_cases h:oI t x r=true;·simp[h]
 simp[h]
theorem bL (l:List aR) (r:aR) (t:Int):bH (l++[r]) t=de t (bH l t) r:=by unfold bH;rw[foldl_append];rfl
def rV (l:List aR) (x w n:Int):Option Md:=if 1<=n/\n<=(bd l w x).length then (bd l w x)[(n - 1).toNat]? else none
def lV (l:List aR) (x w n:Int):Bool:=(decide (w=0)&&decide (n=0))||(rV l x w n).isSome
def CT (l:List aR) (r:aR):Bool:=!(decide (r.kind=2))||lV l r.x r.w r.n
def FB (l:List aR) (r:aR):Bool:=!(decide (r.kind=2))||(decide ((bd l r.t r.x).length=0)||(decide (r.w=r.t)&&decide (r.n=(bd l r.t r.x).length)))
def tN (l:List aR) (r:aR):Bool:=r.es.all fun e=>lV l e.x e.w e.n
def P_ (l:List aR) (t:Int):List Int:=(l.filter fun r=>gn r&&decide (r.t=t)).map (·.x)
def rM (l:List aR) (r:aR):Bool:=!(decide (r.kind=5))||(P_ l r.t).all fun x=>r.es.any fun e=>decide (e.x=x)&&(decide (e.w=r.t)&&decide (e.n=(bd l r.t x).length))
section
variable {τ:Type} {M M':Hp} {lo hi hi':Nat} {tag tag':Nat->τ}
def bS (M:Hp) (lo hi:Nat) (tag:Nat->τ) (tg:τ) (v:XV) (sz len:Nat) (cs:List XV):Prop :=
 len<=9223372036854775807/\cs.length=len*sz/\((v = .nils/\len=0)\/0<len/\∃k,v = .sl k sz 0 len len/\lo<=k/\k<hi/\tag k=tg/\gG M k=some (.row cs))
theorem bS.sl {tg:τ} {len:Nat} (h:bS M lo hi tag tg v sz len cs):bE M hi v sz len cs:=by
 obtain⟨h1,h2,⟨rfl,rfl⟩ | ⟨_,k,rfl,h3,h4,h5,h6⟩⟩:=h;·exact⟨h1,.inl ⟨rfl,rfl,aaG.1 aa⟩⟩
 refine⟨h1,.inr ⟨k,0,len,cs,rfl,h4,by unfold vR;rw[h6],aa,?_⟩⟩;rw[acm,<-h2,aa6]
theorem bE.fldG {len:Nat} {row:List XV} (h:bE M b v sz len row) (hi:i<len) {t:Nat} (ht:es P t=some sz) :
 ∃n o,n<b/\(∀k,br P t v (.int k (i:Int))=some (.mp n o))/\∀(j:Nat) (x:XV),j<sz->((row.drop (i*sz)).take sz)[j]?=some x->∀(t' m:Nat),sa P t'=some (m,false)->∀N,aq b M N->b_ P N t' (.mp n (o+j))=some ⟨x,[n],[]⟩:=by
 obtain⟨n,o,h1,h2,cs,h3,h4,h5⟩:=h.at hi ht;refine⟨n,o,h1,h2,fun j x hj hx t' m oe N hN=>?_⟩;refine dB (lR h3 hN h1) oe ?_;rw[h4,getElem?_take,if_pos hj,getElem?_drop]at hx;exact hx
theorem aZ {x y:τ} (h1:tag a=x) (h2:tag b=y) (h:x≠y):a≠b:=fun e=>h (by rw[<-h1,<-h2,e])
theorem bS.keep {tg:τ} {len:Nat} (h:bS M lo hi tag tg v sz len cs) (hk:∀k,k<hi->tag k=tg->gG M' k=gG M k/\tag' k=tg) (hh:hi<=hi'):bS M' lo hi' tag' tg v sz len cs:=by
 obtain⟨h1,h2,h3 | ⟨h0,k,rfl,h3,h4,h5,h6⟩⟩:=h;·exact⟨h1,h2,.inl h3⟩
 obtain⟨q1,q2⟩:=hk k h4 h5;exact⟨h1,h2,.inr ⟨h0,k,rfl,h3,aa,q2,by rw[q1];exact h6⟩⟩
inductive Tg where
 | none | mach | num | names | rows | row (i:Nat) | ended
def fj (p:Int×Int):List XV:=[.int .u64 p.1,.int .u64 p.2]
def et (d:Md):List XV:=[.int .u64 d.v,.bool d.dead]
def fW (p:Int×Int):List (Int×Int)->Nat->Option Int
 | [],_=>none
 | q::ps,i=>if q=p then some i else fW p ps (i+1)
def ou (ps:List (Int×Int)) (p:Int×Int):Option Int:=fW p ps 0
def tC (M:Hp) (lo hi:Nat) (tag:Nat->Tg) (v:XV) (ps:List (Int×Int)):Prop :=
 (v = .nilm/\ps=[])\/ps≠[]/\∃k c lv,v = .mm k/\lo<=k/\k<hi/\tag k = .num/\gG M k=some (.map (eY (vI .i64) lv) c)/\jL 2 lv/\(∀e ∈ lv,e.1<c)/\∀a b,aH lv [a,b]=ou ps (a,b)
def uD (M:Hp) (lo hi:Nat) (tag:Nat->Tg) (v:XV) (le:List (Nat×Int×Bool)):Prop :=
 (v = .nilm/\le=[])\/∃k c,v = .mm k/\lo<=k/\k<hi/\tag k = .ended/\gG M k=some (.map (cx vB le) c)
structure kI (M:Hp) (lo hi m mn:Nat) (l:List aR) (tag:Nat->Tg) (ps:List (Int×Int)) (vnum vnames vrows vend:XV) (rs:List XV) (le:List (Nat×Int×Bool)):Prop where
 lo_m:lo<=m
 m_hi:m<hi
 tg:tag m = .mach
 row:gG M m=some (.row [vnum,vnames,vrows,.int .i64 mn,vend])
 num:tC M lo hi tag vnum ps
 names:bS M lo hi tag .names vnames 2 ps.length (ps.flatMap fj)
 rows:bS M lo hi tag .rows vrows 1 ps.length rs
 all:∀(i:Nat) (t x:Int),ps[i]?=some (t,x)->bd l t x≠[]/\∃v,rs[i]?=some v/\bS M lo hi tag (.row i) v 2 (bd l t x).length ((bd l t x).flatMap et)
 whole:∀t x,bd l t x≠[]->(t,x) ∈ ps
 nodup:ps.Nodup
 ends:uD M lo hi tag vend le
 ended:∀t,aH le t=bH l t
 few:ps.length<=l.length
def cZ (M:Hp) (lo hi m:Nat) (l:List aR):Prop:=∃tag ps vnum vnames vrows vend rs le,kI M lo hi m l.length l tag ps vnum vnames vrows vend rs le
theorem tC.agr {tag:Nat->Tg} (h:tC M lo hi tag v ps) (ha:aq hi M M') (hh:hi<=hi'):tC M' lo hi' tag v ps:=by
 rcases h with h | ⟨h0,k,c,lv,h1,h2,h3,h4,h5,h6⟩
 ·exact .inl h
 exact .inr ⟨h0,k,c,lv,h1,h2,aa,h4,by rw[ha k h3];exact h5,h6⟩
theorem uD.agr {tag:Nat->Tg} {le:List (Nat×Int×Bool)} (h:uD M lo hi tag v le) (ha:aq hi M M') (hh:hi<=hi'):uD M' lo hi' tag v le:=by
 rcases h with h | ⟨k,c,h1,h2,h3,h4,h5⟩
 ·exact .inl h
 exact .inr ⟨k,c,h1,h2,aa,h4,by rw[ha k h3];exact h5⟩
theorem bS.agr {tg:τ} {len:Nat} (h:bS M lo hi tag tg v sz len cs) (ha:aq hi M M') (hh:hi<=hi'):bS M' lo hi' tag tg v sz len cs:=h.keep (fun k hk hg=>⟨ha k hk,hg⟩) hh
theorem cZ.agr {l:List aR} (h:cZ M lo hi m l) (ha:aq hi M M') (hh:hi<=hi'):cZ M' lo hi' m l:=by obtain⟨tag,ps,vnum,vnames,vrows,vend,rs,le,h⟩:=h;exact⟨tag,ps,vnum,vnames,vrows,vend,rs,le,h.lo_m,aax h.m_hi hh,h.tg,by rw[ha m h.m_hi];exact h.row,h.num.agr ha hh,h.names.agr ha hh,h.rows.agr ha hh,fun i t x hi=>by obtain⟨q1,v,q2,q3⟩:=h.all i t x hi;exact⟨q1,v,q2,q3.agr ha hh⟩,h.whole,h.nodup,h.ends.agr ha hh,h.ended,h.few⟩
theorem rK {p:Int×Int}:∀{ps:List (Int×Int)} {i:Nat} {n:Int},fW p ps i=some n->∃j:Nat,n=((i+j:Nat):Int)/\ps[j]?=some p
 | [],_,_,h=>by cases h
 | q::ps,i,n,h=>by
   unfold fW at h;split at h
   ·rename_i e
    cases h;exact⟨0,rfl,by rw[<-e];rfl⟩
   obtain⟨j,h1,h2⟩:=rK h;exact⟨j+1,by rw[h1];omega,by simpa using h2⟩
theorem xi {p:Int×Int} {n:Int} (h:ou ps p=some n):∃j:Nat,n=(j:Int)/\ps[j]?=some p:=by obtain⟨j,h1,h2⟩:=rK h;exact⟨j,by rw[h1];omega,h2⟩
theorem sf {p:Int×Int}:∀{ps:List (Int×Int)} {i:Nat},fW p ps i=none ↔ p ∉ ps
 | [],_=>by simp[fW]
 | q::ps,i=>by
   unfold fW;split;·rename_i e;subst e;simp
   rename_i e;rw[sf];simp only[aaK,not_or];exact⟨fun h=>⟨fun q=>e q.symm,h⟩,fun h=>h.2⟩
theorem qN {p:Int×Int}:ou ps p=none ↔ p ∉ ps:=sf
theorem sj {p q:Int×Int}:∀{ps:List (Int×Int)} {i:Nat},fW p (ps++[q]) i=match fW p ps i with | some n=>some n | none=>if q=p then some ((i+ps.length:Nat):Int) else none
 | [],i=>by simp[fW]
 | r::ps,i=>by
   simp only[aa8,fW];split;·rfl
   rw[sj];simp only[aaw];rw[show i+1+ps.length=i+(ps.length+1) by omega]
theorem qZ (ps:List (Int×Int)) (p q:Int×Int):ou (ps++[q]) p=match ou ps p with | some n=>some n | none=>if q=p then some (ps.length:Int) else none:=by have:=sj (p:=p) (q:=q) (ps:=ps) (i:=0);simpa [ou] using this
end
section
variable {P:Program} {M:Hp} {β:Type}
theorem Tw {t:Nat} (h:mq P t = .a kt z m):∃el,P.underlying t=some (.map kt el)/\wI P el=some z:=by
 unfold mq at h;split at h
 ·rename_i kt' el hu
  split at h;·cases h
  ·rename_i z' fs hz hk
   split at h
   ·split at h
    ·cases h;exact⟨el,hu,hz⟩
    cases h
   cases h
  cases h
 cases h
theorem Nd {t:Nat} (hq:mq P t = .a kt z m) (h1:xR xs=true) (h2:xs.length=m) (M:Hp) (ok:Bool):cT P M t .nilm (.agg xs) ok=some ⟨tF ok z none,[],[]⟩:=by obtain⟨el,hu,hz⟩:=Tw hq;unfold cT;simp only[hu,hz,pJ hq h1 h2,i6];cases ok<;>rfl
theorem EI {κ:Type} [DecidableEq κ] {l:List (Nat×κ×β)} {k:κ} (h:aH l k=none) (i:Nat):nI l k i=none:=by
 have:=jD l k i;rw[h]at this;cases hx:nI l k i with
 | none=>rfl
 | some r=>rw[hx]at this;cases this
theorem Lt {vf:β->XV} {t c:Nat} {z:β} {l:List (Nat×List Int×β)} (hq:mq P t = .a kt (vf z) m) (hM:gG M n=some (.map (eY vf l) c)) (h1:xR xs=true) (h2:xs.length=m) (h3:jL m l) (hn:aH l (ov xs)=none) :
 ee P M t (.mm n) (.agg xs)=some ⟨.tup [vf z,.int .i64 (c:Nat)],[n],[(n,some (.map (eY vf (l++[(c,ov xs,z)])) (c+1)))]⟩:=by
 obtain⟨el,hu,hz⟩:=Tw hq;unfold ee;simp only[hu,hM,hz,pJ hq h1 h2,te hq h1 h2 (eY vf l) 0 (Dq h3),nV,EI hn,map_none];have e:=pZ h1;simp only[eY,map_append,aa3,map_nil,ry];rw[<-e]
theorem xg {vf:β->XV} {c:Nat} {ks:List Int} {z:β}:∀{l:List (Nat×List Int×β)} (i:Nat),(∀e ∈ l,e.1<c)->r_ c (eY vf (l++[(c,ks,z)])) i=some (i+l.length)
 | [],i,_=>by simp[eY,r_]
 | (b,k,v)::l,i,h=>by
   have hb:Nat.beq b c=false:=by
    have:b<c:=h (b,k,v) aaC;cases hb:Nat.beq b c with
    | false=>rfl
    | true=>have:=eq_of_beq_eq_true hb;omega
   have:=xg (vf:=vf) (c:=c) (ks:=ks) (z:=z) (l:=l) (i+1) fun e he=>h e (aaJ _ he)
   simp only[eY,aa8,aa3,r_,hb]at this ⊢;rw[this];simp only[aaw];congr 1;omega
theorem GS {vf:β->XV} {c:Nat} {ks:List Int} {z v:β}:∀{l:List (Nat×List Int×β)},gJ (vf v) (eY vf (l++[(c,ks,z)])) l.length=eY vf (l++[(c,ks,v)])
 | []=>rfl
 | (b,k,u)::l=>by have:=GS (vf:=vf) (c:=c) (ks:=ks) (z:=z) (v:=v) (l:=l);simp only[eY,aa8,aa3,aaw,gJ]at this ⊢;rw[this]
theorem PF {vf:β->XV} {c c':Nat} {kk:IntKind} {ks:List Int} {z v:β} {l:List (Nat×List Int×β)} (hM:gG M n=some (.map (eY vf (l++[(c,ks,z)])) c')) (hl:∀e ∈ l,e.1<c) :
 fY M (.mm n) (.int kk (c:Nat)) (vf v)=some ⟨.udf,[n],[(n,some (.map (eY vf (l++[(c,ks,v)])) c'))]⟩:=by
 unfold fY;simp only[Int.ofNat_eq_natCast];show (match gG M n with | some (.map es clock)=>_ | _=>_)=_;simp only[hM,xg 0 hl,aaU,GS]
theorem tp (t:Nat) (m k:Operand):cY P Γ env M key (.mapEntry t m k)=ee P M t (cG env m) (cG env k):=rfl
theorem qm (t:Nat) (m s x:Operand):cY P Γ env M key (.entryStore t m s x)=fY M (cG env m) (cG env s) (cG env x):=rfl
def WG (P:Program) (M:Hp) (t n:Nat) (xs:List XV):Option bx->Option bZ
 | some (.map es c)=>ee P (aG .nil n (.map es c)) t (.mm n) (.agg xs)
 | _=>ee P M t (.mm n) (.agg xs)
theorem Ow (t n:Nat) (xs:List XV) (h:gG N n=gG M n):ee P M t (.mm n) (.agg xs)=ee P N t (.mm n) (.agg xs):=by
 unfold ee;generalize P.underlying t=u;cases u with
 | none=>rfl
 | some d=>cases d<;>first | rfl | (dsimp only;rw[h])
theorem Ny (t n:Nat) (xs:List XV):ee P M t (.mm n) (.agg xs)=WG P M t n xs (gG M n):=by
 unfold WG;split
 ·rename_i es c h
  exact Ow t n xs (by rw[ap,if_pos rfl,h])
 rfl
theorem C_ {vf:β->XV} {t c:Nat} {z:β} {l:List (Nat×List Int×β)} (hq:mq P t = .a kt (vf z) m) (h1:xR xs=true) (h2:xs.length=m) (h3:jL m l) (hn:aH l (ov xs)=none) (M:Hp) :
 WG P M t n xs (some (.map (eY vf l) c))=some ⟨.tup [vf z,.int .i64 (c:Nat)],[n],[(n,some (.map (eY vf (l++[(c,ov xs,z)])) (c+1)))]⟩ :=
 Lt hq (by rw[ap,if_pos rfl]) h1 h2 h3 hn
def W2 (M:Hp) (n:Nat) (st v:XV):Option bx->Option bZ
 | some (.map es c)=>fY (aG .nil n (.map es c)) (.mm n) st v
 | _=>fY M (.mm n) st v
theorem Pg (n:Nat) (st v:XV) (h:gG N n=gG M n):fY M (.mm n) st v=fY N (.mm n) st v:=by
 unfold fY;cases st with
 | int k i =>
   cases i with
   | ofNat b=>dsimp only;rw[h]
   | negSucc b=>rfl
 | _=>rfl
theorem Nm (n:Nat) (st v:XV):fY M (.mm n) st v=W2 M n st v (gG M n):=by
 unfold W2;split
 ·rename_i es c h
  exact Pg n st v (by rw[ap,if_pos rfl,h])
 rfl
theorem DA {vf:β->XV} {c c':Nat} {kk:IntKind} {ks:List Int} {z v:β} {l:List (Nat×List Int×β)} (hl:∀e ∈ l,e.1<c) (M:Hp) :
 W2 M n (.int kk (c:Nat)) (vf v) (some (.map (eY vf (l++[(c,ks,z)])) c'))=some ⟨.udf,[n],[(n,some (.map (eY vf (l++[(c,ks,v)])) c'))]⟩ :=
 PF (kk:=kk) (by rw[ap,if_pos rfl]) hl
end
section
open Go.Proofs
theorem f380 (ρ:aK) {tag:Nat->Tg} (hM:gG M m=some (.row [v,c1,c2,c3,c4])) (hm:m<nx) (h:tC M lo hi tag v ps) (hh:hi<=nx) (a c:Int):ar an ρ 380 [.mp m 0,.agg [.int .u64 a,.int .u64 c]] M nx (fe nx M (.tup [.int .i64 ((ou ps (a,c)).getD 0),.bool (ou ps (a,c)).isSome])):=by
 rcases h with ⟨rfl,rfl⟩ | ⟨_,k,cl,lv,rfl,h1,h2,h3,h4,h5,h6,h7⟩
 ·have hn:=fun M ok=>Nd (P:=an) (t:=141) (xs:=[.int .u64 a,.int .u64 c]) ol.2.2.2.1 rfl rfl M ok
  refine ar.wk 19 [.tmp 4,.tmp 5] Tryz.func380 ?_;refine jz Sj hM hn @fe.eq_1 ?_;exact⟨rfl,(aq.refl _ _).set (u7 _) _,aa⟩
 refine ar.wk 19 [.tmp 4,.tmp 5] Tryz.func380 ?_;refine lO Sj hM h4 h7 @fe.eq_1 ?_;exact⟨(aq.refl _ _).set (u7 _) _,aa⟩
theorem f358 (ρ:aK) {tag:Nat->Tg} (hM:gG M m=some (.row [v,c1,c2,c3,c4])) (hm:m<nx) (h:tC M lo hi tag v ps) (hh:hi<=nx) (a c:Int):ar an ρ 358 [.mp m 0,.agg [.int .u64 a,.int .u64 c]] M nx (fe nx M (.tup [.int .i64 ((ou ps (a,c)).getD 0),.bool (ou ps (a,c)).isSome])):=by
 refine ar.wk 15 [.tmp 4,.tmp 5] Tryz.func358 ?_;refine dt Im ?_;have a1:=fun o=>(aq.refl nx M).set (u7 nx) o
 refine lL (f380 ρ ((a1 _ m hm).trans hM) aa (h.agr ((a1 _).le hh) (u7 _)) aa a c) aj ?_ ?_;·refine dt Im ?_;try exact⟨⟩
 rintro⟨u,M2,n2⟩ ⟨g1,g2,g3⟩;simp only at g1 g2 g3;subst g1;refine fM Im @fe.eq_1 ?_;exact⟨(a1 _).trans (g2.le aa),aa⟩
theorem Xc (ρ:aK) {tag:Nat->Tg} (hM:gG M m=some (.row [c1,v,c2,c3,c4])) (hm:m<nx) (h:bS M lo hi tag .names v 2 ps.length (ps.flatMap fj)):ar an ρ 323 [.mp m 0] M nx (fe nx M (.int .i64 ps.length)):=by
 have ay:=fun N=>h.sl.len (P:=an) (t:=142) oC.2.2.2.2.2 N
 refine ar.wk 11 [.tmp 2] Tryz.func323 ?_;refine jz Pt hM ay @fe.eq_1 ?_;exact⟨aq.refl _ _,aa⟩
theorem HM:∀(ps:List (Int×Int)) (i:Nat) (p:Int×Int),ps[i]?=some p->((ps.flatMap fj).drop (i*2)).take 2=fj p
 | [],_,_,h=>by simp at h
 | a::ps,0,p,h=>by simp only[aaI,aat]at h;subst h;simp[fj]
 | a::ps,i+1,p,h=>by simp only[aa1]at h;have:=HM ps i p h;rw[<-this,aaN,show (i+1)*2=(fj a).length+i*2 by simp[fj];omega,<-abi];simp
theorem f359 (ρ:aK) {tag:Nat->Tg} (hM:gG M m=some (.row [c1,v,c2,c3,c4])) (hm:m<nx) (h:bS M lo hi tag .names v 2 ps.length (ps.flatMap fj)) (hh:hi<=nx) {p:Int×Int} (hi:ps[i]?=some p) :
 ar an ρ 359 [.mp m 0,.int .i64 (i:Nat)] M nx (fe nx M (.tup [.agg (fj p),.int .i64 0])):=by
 have ay:=fun N=>h.sl.len (P:=an) (t:=142) oC.2.2.2.2.2 N
 have aL:i<ps.length:=(aaq.1 hi).1;have c0:¬ (i:Int)<0:=aa;have c1':¬ (ps.length:Int)<=i:=aa;obtain⟨n,o,jw,bC,aU⟩:=h.sl.elem (P:=an) aL (t:=142) (t':=355) oC.2.2.2.1 G7.1;rw[HM ps i p hi]at aU;have a1:=fun o=>(aq.refl nx M).set (u7 nx) o
 have g1:=fun q=>aU (aG M nx q) ((a1 q).le hh)
 simp only[fj]at g1 ⊢;clear aU;refine ar.wk 25 [.cell 4 355,.tmp 5] Tryz.func359 ?_;refine oq Wp hM ay c0 c1' bC g1 @fe.eq_1 ?_;exact⟨((a1 _).set (u7 _) _),aa⟩
theorem WC (ρ:aK) {tag:Nat->Tg} (hM:gG M m=some (.row [c1,v,c2,c3,c4])) (hm:m<nx) (h:bS M lo hi tag .names v 2 ps.length (ps.flatMap fj)) (hh:hi<=nx) {p:Int×Int} (hi:ps[i]?=some p) :
 ar an ρ 324 [.mp m 0,.int .i64 (i:Nat)] M nx (fe nx M (.tup [.agg (fj p),.int .i64 0])):=by
 refine ar.wk 16 [.cell 4 355,.tmp 5] Tryz.func324 ?_;refine dt Im ?_;have a1:=fun o=>(aq.refl nx M).set (u7 nx) o
 refine gQ (f359 ρ ((a1 _ m hm).trans hM) aa (h.agr ((a1 _).le hh) (u7 _)) aa hi) ?_;rintro⟨u,M2,n2⟩ ⟨g1,g2,g3⟩;simp only[fj]at g1 g2 g3;subst g1;have z:∀o,(aG M nx o)=(aG M nx o):=fun _=>rfl
 have y:=g2 nx aa;rw[ap,if_pos rfl]at y;refine jz Im y @fe.eq_1 @fj.eq_1 ?_;exact⟨((a1 _).trans (g2.le aa)).set (u7 _) _,aa⟩
def fH (ps:List (Int×Int)) (p:Int×Int):List (Int×Int):=if p ∈ ps then ps else ps++[p]
def kh (M:Hp) (nx lo m:Nat) (tag:Nat->Tg) (ps:List (Int×Int)) (p:Int×Int) (c2 c3 c4:XV) (r:ew):Prop :=
 ∃(i:Nat) (tag':Nat->Tg) (v0 v1:XV),r.1 = .int .i64 (i:Nat)/\(fH ps p)[i]?=some p/\ou (fH ps p) p=some (i:Int)/\gG r.2.1 m=some (.row [v0,v1,c2,c3,c4])/\tC r.2.1 lo r.2.2 tag' v0 (fH ps p) /\
  bS r.2.1 lo r.2.2 tag' .names v1 2 (fH ps p).length ((fH ps p).flatMap fj)/\(∀k,k<nx->tag' k=tag k)/\(∀k,k<nx->k≠m->tag k ≠ .num->tag k ≠ .names->gG r.2.1 k=gG M k)/\aq lo M r.2.1/\nx<=r.2.2
theorem uh {β:Type} {c:Nat} {k:List Int} {v:β}:∀{l:List (Nat×List Int×β)} (j:List Int),aH (l++[(c,k,v)]) j=match aH l j with | some u=>some u | none=>if j=k then some v else none
 | [],j=>by simp[aH]
 | (b,k',u)::l,j=>by
   simp only[aa8,aH];split;·rfl
   exact uh j
theorem kh.le {n1 n2:Nat} {tag:Nat->Tg} {p:Int×Int} (h:kh M nx lo m tag ps p c2 c3 c4 (v,M',n1)) (hn:n1<=n2):kh M nx lo m tag ps p c2 c3 c4 (v,M',n2):=by obtain⟨i,tag',v0,v1,h1,h2,h3,h4,h5,h6,h7,h8,h9,Gf⟩:=h;exact⟨i,tag',v0,v1,h1,h2,h3,h4,h5.agr (aq.refl _ _) hn,h6.agr (aq.refl _ _) hn,h7,h8,h9,aaT Gf hn⟩
theorem XF (ρ:aK) {tag:Nat->Tg} {v0 v1:XV} (mo:lo<=m) (hmh:m<hi) (ht:tag m = .mach) (hM:gG M m=some (.row [v0,v1,c2,c3,c4])) (h0:tC M lo hi tag v0 ps) (h1:bS M lo hi tag .names v1 2 ps.length (ps.flatMap fj)) (hh:hi<=nx)
 (few:ps.length<=1000) (a c:Int) (hk:gG M k=some (.row [.int .u64 a,.int .u64 c])) (QP:k<nx) (hkm:hi<=k) :
 ar an ρ 325 [.mp m 0,.sl k 2 0 1 1] M nx (kh M nx lo m tag ps (a,c) c2 c3 c4):=by
 rcases h0 with ⟨rfl,rfl⟩ | ⟨cf,nk,cl,lv,rfl,q1,q2,q3,q4,q5,q6,q7⟩
 ·have hn:=fun M ok=>Nd (P:=an) (t:=141) (xs:=[.int .u64 a,.int .u64 c]) ol.2.2.2.1 rfl rfl M ok
  obtain⟨_,dI,⟨rfl,_⟩ | ⟨hl,_⟩⟩:=h1
  rotate_right
  ·simp at hl
  refine ar.wk 62 [.tmp 4] adS ?_;refine dt xW ?_;refine aC (fun m' s=>(m'=1/\s=⟨aG (aG (aG (aG (aG (aG (aG .nil 0 (.mp m 0)) 1 (.sl k 2 0 1 1)) 4 (.int .i64 0)) 5 (.int .i64 (-1))) 10 (.sl k 2 0 1 1)) 11 (.int .i64 1)) 12 (.int .i64 0),M,nx+5⟩)\/(m'=0/\gG s.env 11=some (.int .i64 1)/\gG s.env 12=some (.int .i64 1)/\gG s.env 5=some (.int .i64 0)/\kh M nx lo m tag [] (a,c) c2 c3 c4 (.int .i64 0,s.M,s.nx))) 1 (.inl ⟨rfl,?_⟩) ?_;·rfl
  rintro m' ⟨env,M',nx'⟩ (⟨rfl,hs⟩ | ⟨rfl,kW,vS,e5,hp⟩)
  ·cases hs
   have hE:=fun M n=>C_ (P:=an) (vf:=vI .i64) (t:=141) (n:=n) (c:=0) (z:=(0:Int)) (xs:=[.int .u64 a,.int .u64 c]) (l:=[]) ol.2.2.2.1 rfl rfl (fun _ h=>by cases h) rfl M
   have hS:=fun M n=>DA (vf:=vI .i64) (n:=n) (c:=0) (c':=1) (kk:=.i64) (ks:=[a,c]) (z:=(0:Int)) (v:=(0:Int)) (l:=[]) (fun _ h=>by cases h) M
   simp only[eY,map_nil,vI,abp,aa3,ov,Int.ofNat_eq_natCast,Int.cast_ofNat_Int]at hE hS;refine rf xW hM hk hn @tp @Ny hE @qm @Nm hS ?_;refine⟨?_,0,aa,.inr ⟨rfl,rfl,?_⟩⟩;·(repeat' apply ao)<;>exact yj
   refine⟨0,fun k=>if k=nx+35 then .num else if k=nx+52 then .names else tag k,.mm (nx+35),.sl (nx+52) 2 0 1 1,rfl,by simp[fH],by simp[fH,ou,fW],J,?_,?_,fun k hk=>?_,fun k hk h1 h2 h3=>J,fun k hk=>J,am⟩
   ·refine .inr ⟨by simp[fH],nx+35,1,[(0,[a,c],0)],rfl,aa,am,af,J,fun e he=>by simp only[aaE]at he;subst he;rfl,fun e he=>by simp only[aaE]at he;subst he;omega,fun a' b'=>?_⟩
    simp only[aH,fH,ou,fW];by_cases h:a'=a/\b'=c
    ·obtain⟨rfl,rfl⟩:=h
     simp[fW]
    have h2:¬ ((a,c):Int×Int)=(a',b'):=fun e=>h (by cases e;exact⟨rfl,rfl⟩)
    have h3:¬ ([a',b']=[a,c]):=fun e=>h (by cases e;exact⟨rfl,rfl⟩)
    simp[h2,h3,fW]
   ·exact⟨by simp[fH],by simp[fH,fj],.inr ⟨by simp[fH],nx+52,by simp[fH],aa,am,af,J⟩⟩
   simp only;rw[if_neg aa,if_neg aa]
  simp only at kW vS e5 hp;refine jz xW kW vS e5 ?_;exact hp.le aa
 obtain⟨_,dI,⟨rfl,hl⟩ | ⟨hl,sk,rfl,s1,s2,s3,s4⟩⟩:=h1;·exact(cf (aaG.1 hl)).elim
 have n1:=aZ ht q3 af;have n2:=aZ ht s3 af;have n3:=aZ q3 s3 af;have hd:aw m nk=False/\aw nk m=False/\aw m sk=False/\aw sk m=False/\aw nk sk=False/\aw sk nk=False:=by simp only[aw,eq_iff_iff,iff_false];exact⟨n1,n1.symm,n2,n2.symm,n3,n3.symm⟩
 have mD:=q7 a c;cases hp:ou ps (a,c) with
 | some j =>
   rw[hp]at mD;obtain⟨i,rfl,hi⟩:=xi hp;have pB:=aaH hi;clear n1 n2 n3;refine ar.wk 62 [.tmp 4] adS ?_;refine dt xW ?_;refine aC (fun m' s=>(m'=1/\s=⟨aG (aG (aG (aG (aG (aG (aG .nil 0 (.mp m 0)) 1 (.sl k 2 0 1 1)) 4 (.int .i64 0)) 5 (.int .i64 (-1))) 10 (.sl k 2 0 1 1)) 11 (.int .i64 1)) 12 (.int .i64 0),M,nx+5⟩)\/(m'=0/\gG s.env 11=some (.int .i64 1)/\gG s.env 12=some (.int .i64 1)/\gG s.env 5=some (.int .i64 (i:Nat))/\kh M nx lo m tag ps (a,c) c2 c3 c4 (.int .i64 (i:Nat),s.M,s.nx))) 1 (.inl ⟨rfl,?_⟩) ?_;·rfl
   rintro m' ⟨env,M',nx'⟩ (⟨rfl,hs⟩ | ⟨rfl,kW,vS,e5,hq⟩)
   ·cases hs
    refine ul xW hM hk q4 mD hd ?_;refine⟨0,aa,.inr ⟨rfl,rfl,?_⟩⟩;have a1:aq nx M (aG (aG M (nx+8) (.row [.int .u64 0,.int .u64 0])) (nx+8) (.row [.int .u64 a,.int .u64 c])):=O;have hA:fH ps (a,c)=ps:=by simp[fH,pB]
    refine⟨i,tag,.mm nk,.sl sk 2 0 ps.length ps.length,rfl,by rw[hA];exact hi,by rw[hA];exact hp,(a1 m aa).trans hM,?_,?_,fun k hk=>rfl,fun k hk _ _ _=>a1 k hk,a1.le aa,am⟩
    ·rw[hA]
     exact .inr ⟨cf,nk,cl,lv,rfl,q1,am,q3,(a1 nk aa).trans q4,q5,q6,q7⟩
    rw[hA];exact⟨aa,dI,.inr ⟨hl,sk,rfl,s1,am,s3,(a1 sk aa).trans s4⟩⟩
   simp only at kW vS e5 hq;refine jz xW kW vS e5 ?_;exact hq.le aa
 | none =>
   rw[hp]at mD;have hE:=fun M n=>C_ (P:=an) (vf:=vI .i64) (t:=141) (n:=n) (c:=cl) (z:=(0:Int)) (xs:=[.int .u64 a,.int .u64 c]) (l:=lv) ol.2.2.2.1 rfl rfl q5 mD M
   have hS:=fun M n=>DA (vf:=vI .i64) (n:=n) (c:=cl) (c':=cl+1) (kk:=.i64) (ks:=[a,c]) (z:=(0:Int)) (v:=(ps.length:Int)) (l:=lv) q6 M
   simp only[vI,ov]at hE hS;refine ar.wk 62 [.tmp 4] adS ?_;refine dt xW ?_;refine aC (fun m' s=>(m'=1/\s=⟨aG (aG (aG (aG (aG (aG (aG .nil 0 (.mp m 0)) 1 (.sl k 2 0 1 1)) 4 (.int .i64 0)) 5 (.int .i64 (-1))) 10 (.sl k 2 0 1 1)) 11 (.int .i64 1)) 12 (.int .i64 0),M,nx+5⟩)\/(m'=0/\gG s.env 11=some (.int .i64 1)/\gG s.env 12=some (.int .i64 1)/\gG s.env 5=some (.int .i64 ps.length)/\kh M nx lo m tag ps (a,c) c2 c3 c4 (.int .i64 ps.length,s.M,s.nx))) 1 (.inl ⟨rfl,?_⟩) ?_;·rfl
   rintro m' ⟨env,M',nx'⟩ (⟨rfl,hs⟩ | ⟨rfl,kW,vS,e5,hq⟩)
   ·cases hs
    refine yq xW hM hk q4 mD hd s4 dI @tp @Ny hE (aI @qm (aI @Nm hS)) ?_;refine⟨?_,0,aa,.inr ⟨rfl,rfl,?_⟩⟩;·(repeat' apply ao)<;>exact yj
    have hA:fH ps (a,c)=ps++[(a,c)]:=if_neg (qN.1 hp);have kB:abP (ps.length*2) (ps.flatMap fj)=ps.flatMap fj:=by rw[<-dI,aa6]
    refine⟨ps.length,fun k=>if k=nx+47 then .names else tag k,.mm nk,.sl (nx+47) 2 0 (ps.length+1) (ps.length+1),rfl,by rw[hA];simp,by rw[hA,qZ,hp];simp,J,?_,?_,fun k hk=>?_,fun k hk h1 h2 h3=>?_,fun k hk=>J,am⟩
    ·refine .inr ⟨by rw[hA];simp,nk,cl+1,lv++[(cl,[a,c],(ps.length:Int))],rfl,q1,am,by simp only;rw[if_neg aa];exact q3,J,fun e he=>?_,fun e he=>?_,fun a' b'=>?_⟩
     ·rcases abe.1 he with he | he
      ·exact q5 e he
      simp only[aaE]at he;subst he;rfl
     ·rcases abe.1 he with he | he
      ·have:=q6 e he;omega
      simp only[aaE]at he;subst he;simp only;omega
     rw[uh,q7,hA,qZ];cases ou ps (a',b') with
     | some n=>rfl
     | none =>
       simp only;by_cases h:a'=a/\b'=c
       ·obtain⟨rfl,rfl⟩:=h
        simp
       have h2:¬ ((a,c):Int×Int)=(a',b'):=fun e=>h (by cases e;exact⟨rfl,rfl⟩)
       have h3:¬ ([a',b']=[a,c]):=fun e=>h (by cases e;exact⟨rfl,rfl⟩)
       rw[if_neg h2,if_neg h3]
    ·refine⟨by rw[hA];simp;omega,by rw[hA,abL,aau,dI];simp[fj];omega,.inr ⟨by rw[hA];simp,nx+47,by rw[hA];simp,aa,am,af,?_⟩⟩
     rw[hA,abL]
     conv=>rhs;rw[<-kB]
     exact J
    ·simp only
     rw[if_neg aa]
    have e1:k≠nk:=fun e=>h2 (by rw[e];exact q3)
    have e2:k≠sk:=fun e=>h3 (by rw[e];exact s3)
    exact J
   simp only at kW vS e5 hq;refine jz xW kW vS e5 ?_;exact hq.le aa
theorem E9 {l:List α} (h:l.Nodup) {a:α} (hi:l[i]?=some a) (hj:l[j]?=some a):i=j:=by obtain⟨h1,e1⟩:=aaq.1 hi;obtain⟨h2,e2⟩:=aaq.1 hj;exact(getElem_inj h).1 (e1.trans e2.symm)
theorem tM {p:Int×Int} (h:ps.Nodup):(fH ps p).Nodup:=by
 unfold fH;split;·exact h
 rename_i hp;rw[nodup_append];exact⟨h,af,fun a ha b hb=>by simp only[aaE]at hb;subst hb;exact fun e=>hp (e ▸ ha)⟩
theorem IH {p:Int×Int} (hj:j<ps.length):(fH ps p)[j]?=ps[j]?:=by
 unfold fH;split;·rfl
 rw[aa5 hj]
theorem Ha {r:aR} (h:gn r=true):r.kind=3\/r.kind=4:=by simp only[gn,Bool.or_eq_true,decide_eq_true_eq]at h;exact h
theorem Ch {l:List aR} {r:aR} (hr:gn r=true):bd (l++[r]) r.t r.x=bd l r.t r.x++[nv r]:=by rw[o9,if_pos];simp[oI,hr]
theorem rR {l:List aR} {r:aR} {t x:Int} (h:(t,x)≠(r.t,r.x)):bd (l++[r]) t x=bd l t x:=by rw[o9,if_neg];intro hm;simp only[oI,aaF,decide_eq_true_eq]at hm;exact h (by rw[hm.2.1,hm.2.2])
theorem ss {l:List aR} {r:aR} {t x:Int} (h:gn r=false):bd (l++[r]) t x=bd l t x:=by rw[o9,if_neg];simp[oI,h]
theorem tC.keep {hi':Nat} {tag tag':Nat->Tg} (h:tC M lo hi tag v ps) (hk:∀k,k<hi->tag k = .num->gG M' k=gG M k/\tag' k = .num) (hh:hi<=hi'):tC M' lo hi' tag' v ps:=by
 rcases h with q | ⟨h0,k,c,lv,q1,q2,q3,q4,q5,q6⟩
 ·exact .inl q
 obtain⟨e1,e2⟩:=hk k q3 q4;exact .inr ⟨h0,k,c,lv,q1,q2,aa,e2,by rw[e1];exact q5,q6⟩
theorem kI.put {M3:Hp} {n3:Nat} {l:List aR} {tag tag3:Nat->Tg} {v0 v1 vrows':XV} {rs':List XV} {le:List (Nat×Int×Bool)} {r:aR} (h:kI M lo hi m mn l tag ps vnum vnames vrows vend rs le) (hr:gn r=true)
 (cH:∀k,k<hi->tag3 k=tag k) (row3:gG M3 m=some (.row [v0,v1,vrows',.int .i64 mn,vend])) (num:tC M3 lo n3 tag3 v0 (fH ps (r.t,r.x))) (names:bS M3 lo n3 tag3 .names v1 2 (fH ps (r.t,r.x)).length ((fH ps (r.t,r.x)).flatMap fj))
 (rows:bS M3 lo n3 tag3 .rows vrows' 1 (fH ps (r.t,r.x)).length rs') (hi':(fH ps (r.t,r.x))[i]?=some (r.t,r.x))
 (new:∃v,rs'[i]?=some v/\bS M3 lo n3 tag3 (.row i) v 2 (bd l r.t r.x++[nv r]).length ((bd l r.t r.x++[nv r]).flatMap et))
 (oth:∀j,j<ps.length->j≠i->rs'[j]?=rs[j]?) (keep:∀k j,k<hi->tag k = .row j->j≠i->gG M3 k=gG M k) (keepE:∀k,k<hi->tag k = .ended->gG M3 k=gG M k) (hn:hi<=n3) :
 kI M3 lo n3 m mn (l++[r]) tag3 (fH ps (r.t,r.x)) v0 v1 vrows' vend rs' le:=by
 refine⟨h.lo_m,aax h.m_hi hn,by rw[cH m h.m_hi];exact h.tg,row3,num,names,rows,fun j t x hj=>?_,fun t x cf=>?_,tM h.nodup,?_,fun t=>?_,?_⟩
 ·by_cases kX:j=i
  ·subst kX
   rw[hi']at hj;cases hj;rw[Ch hr];exact⟨af,new⟩
  have cf:((t,x):Int×Int)≠(r.t,r.x):=fun e=>kX (E9 (tM h.nodup) hj (by rw[e];exact hi'))
  have yY:j<ps.length:=by
   have yY:=(aaq.1 hj).1;unfold fH at yY hj;split at yY;·exact yY
   rename_i hp;rw[if_neg hp]at hj;simp only[aau,aaw,aaO]at yY;rcases Nat.lt_or_ge j ps.length with q | q
   ·exact q
   have:j=ps.length:=aa;subst this;simp only[abl,aat]at hj;exact(cf hj.symm).elim
  rw[IH yY]at hj;obtain⟨q1,v,q2,q3⟩:=h.all j t x hj;rw[rR cf];exact⟨q1,v,by rw[oth j yY kX];exact q2,q3.keep (fun k hk hg=>⟨keep k j hk hg kX,by rw[cH k hk];exact hg⟩) hn⟩
 ·by_cases he:((t,x):Int×Int)=(r.t,r.x)
  ·rw[he]
   exact aaH hi'
  rw[rR he]at cf;have:=h.whole t x cf;unfold fH;split;·exact this
  exact mem_append_left _ this
 ·rcases h.ends with q | ⟨k,c,q1,q2,q3,q4,q5⟩
  ·exact .inl q
  exact .inr ⟨k,c,q1,q2,aa,by rw[cH k q3];exact q4,by rw[keepE k q3 q4];exact q5⟩
 ·rw[h.ended,bL]
  unfold de;rcases Ha hr with e | e<;>simp[e]
 have:=h.few;unfold fH;split<;>simp<;>omega
theorem X_ {v:XV}:∀(rs:List XV) (i:Nat),i<rs.length->bp rs i [v]=rs.set i v
 | [],_,h=>by simp at h
 | a::rs,0,_=>by cases rs<;>rfl
 | a::rs,i+1,h=>by simp only[aaw]at h;simp only[bp,set_cons_succ];rw[X_ rs i aa]
theorem uJ {a v:XV}:∀(rs:List XV),bp (rs++[a]) rs.length [v]=rs++[v]
 | []=>rfl
 | b::rs=>by simp only[aa8,aaw,bp];rw[uJ rs]
theorem kI.norm {l:List aR} {tag:Nat->Tg} {le:List (Nat×Int×Bool)} (h:kI M lo hi m mn l tag ps vnum vnames vrows vend rs le) :
 kI M lo hi m mn l (fun k=>if k<hi then tag k else .none) ps vnum vnames vrows vend rs le:=by
 have hk:∀(k:Nat) (tg:Tg),k<hi->tag k=tg->(if k<hi then tag k else Tg.none)=tg:=fun k tg h1 h2=>by rw[if_pos h1,h2]
 refine⟨h.lo_m,h.m_hi,hk _ _ h.m_hi h.tg,h.row,?_,h.names.keep (fun k h1 h2=>⟨rfl,hk _ _ h1 h2⟩) (u7 _),h.rows.keep (fun k h1 h2=>⟨rfl,hk _ _ h1 h2⟩) (u7 _),fun i t x hi=>?_,h.whole,h.nodup,?_,h.ended,h.few⟩
 ·rcases h.num with q | ⟨h0,k,c,lv,q1,q2,q3,q4,q5⟩
  ·exact .inl q
  exact .inr ⟨h0,k,c,lv,q1,q2,q3,hk _ _ q3 q4,q5⟩
 ·obtain⟨q1,v,q2,q3⟩:=h.all i t x hi
  exact⟨q1,v,q2,q3.keep (fun k h1 h2=>⟨rfl,hk _ _ h1 h2⟩) (u7 _)⟩
 rcases h.ends with q | ⟨k,c,q1,q2,q3,q4,q5⟩
 ·exact .inl q
 exact .inr ⟨k,c,q1,q2,q3,hk _ _ q3 q4,q5⟩
end
theorem kI.upd {hi' mn':Nat} {l l':List aR} {tag tag':Nat->Tg} {vend':XV} {le le':List (Nat×Int×Bool)} (h:kI M lo hi m mn l tag ps vnum vnames vrows vend rs le)
 (row':gG M' m=some (.row [vnum,vnames,vrows,.int .i64 mn',vend'])) (keep:∀k,k<hi->k≠m->tag k ≠ .ended->gG M' k=gG M k) (cH:∀k,k<hi->tag' k=tag k) (hh:hi<=hi') (same:∀t x,bd l' t x=bd l t x)
 (ends:uD M' lo hi' tag' vend' le') (ended:∀t,aH le' t=bH l' t) (few:l.length<=l'.length):kI M' lo hi' m mn' l' tag' ps vnum vnames vrows vend' rs le':=by
 have kk:∀(tg:Tg),tg ≠ .ended->tg ≠ .mach->∀k,k<hi->tag k=tg->gG M' k=gG M k/\tag' k=tg:=fun tg h1 h2 k hk hg =>
  ⟨keep k hk (fun e=>h2 (by rw[<-hg,e];exact h.tg)) (by rw[hg];exact h1),by rw[cH k hk];exact hg⟩
 refine⟨h.lo_m,aax h.m_hi hh,by rw[cH m h.m_hi];exact h.tg,row',h.num.keep (kk _ af af) hh,h.names.keep (kk _ af af) hh,h.rows.keep (kk _ af af) hh,fun i t x hi=>?_,fun t x cf=>h.whole t x (by rw[<-same];exact cf),h.nodup,ends,ended,aaT h.few few⟩;obtain⟨q1,v,q2,q3⟩:=h.all i t x hi;rw[same];exact⟨q1,v,q2,q3.keep (kk _ af af) hh⟩
theorem kI.doEnd {n' mn' E c':Nat} {l l':List aR} {tag:Nat->Tg} {le le':List (Nat×Int×Bool)} (h:kI M lo hi m mn l tag ps vnum vnames vrows vend rs le)
 (hE:(lo<=E/\E<hi/\tag E = .ended)\/hi<=E) (YD:E<n') (row:gG M' m=some (.row [vnum,vnames,vrows,.int .i64 mn',.mm E])) (map:gG M' E=some (.map (cx vB le') c')) (keep:∀k,k<hi->k≠m->k≠E->gG M' k=gG M k) (hn:hi<=n')
 (same:∀t x,bd l' t x=bd l t x) (ended:∀t,aH le' t=bH l' t) (few:l.length<=l'.length):∃tag',kI M' lo n' m mn' l' tag' ps vnum vnames vrows (.mm E) rs le':=by
 have hm:=h.m_hi;have mo:=h.lo_m;refine⟨fun k=>if k=E then .ended else tag k,h.upd row (fun k h1 h2 h3=>keep k h1 h2 fun e=>?_) (fun k hk=>?_) hn same (.inr ⟨E,c',rfl,aa,YD,if_pos rfl,map⟩) ended few⟩
 ·rcases hE with ⟨_,_,q⟩ | q
  ·exact h3 (by rw[e];exact q)
  omega
 split
 ·rename_i e
  rcases hE with ⟨_,_,q⟩ | q
  ·rw[e];exact q.symm
  omega
 rfl
theorem kI.many {n' mn':Nat} {l:List aR} {tag:Nat->Tg} {le:List (Nat×Int×Bool)} (h:kI M lo hi m mn l tag ps vnum vnames vrows vend rs le)
 (row:gG M' m=some (.row [vnum,vnames,vrows,.int .i64 mn',vend])) (keep:∀k,k<hi->k≠m->gG M' k=gG M k) (hn:hi<=n'):kI M' lo n' m mn' l tag ps vnum vnames vrows vend rs le:=by
 refine h.upd row (fun k h1 h2 _=>keep k h1 h2) (fun _ _=>rfl) hn (fun _ _=>rfl) ?_ h.ended (u7 _);rcases h.ends with q | ⟨k,c,q1,q2,q3,q4,q5⟩
 ·exact .inl q
 exact .inr ⟨k,c,q1,q2,aa,q4,by rw[keep k q3 (fun e=>by rw[e,h.tg]at q4;cases q4)];exact q5⟩
theorem tI {l:List aR} {r:aR} (h1:r.kind≠1) (h6:r.kind≠6) (h7:r.kind≠7) (t:Int):bH (l++[r]) t=bH l t:=by rw[bL];unfold de;simp[h1,h6,h7]
theorem rU {l:List aR} {r:aR} (h1:r.kind=1) (t:Int):bH (l++[r]) t=if t=r.t then some false else bH l t:=by
 rw[bL];unfold de;by_cases e:r.t=t;·rw[if_pos e,if_pos h1,if_pos e.symm]
 rw[if_neg e,if_neg fun q=>e q.symm]
theorem n_ {l:List aR} {r:aR} (h1:r.kind=6\/r.kind=7) (t:Int):bH (l++[r]) t=if t=r.t then some true else bH l t:=by
 rw[bL];unfold de;by_cases e:r.t=t;·rw[if_pos e,if_neg aa,if_pos h1,if_pos e.symm]
 rw[if_neg e,if_neg fun q=>e q.symm]
theorem rL {r:aR} (h3:r.kind≠3) (h4:r.kind≠4):gn r=false:=by simp[gn,h3,h4]
theorem bE.wk {len:Nat} {row:List XV} (h:bE M b v sz len row) (hb:b<=b'):bE M b' v sz len row:=by
 refine⟨h.1,?_⟩;rcases h.2 with h | ⟨n,off,cap,cs,h1,h2,h3⟩
 ·exact .inl h
 exact .inr ⟨n,off,cap,cs,h1,aa,h3⟩
mutual
theorem bG.wk {M:Hp} {b b':Nat} (hb:b<=b'):∀{e:Ex} {cs:List XV},bG M b e cs->bG M b' e cs
 | .mk k x y ps,cs,h=>by simp only[bG]at h ⊢;obtain⟨v,row,h1,h2,h3⟩:=h;exact⟨v,row,h1,h2.wk hb,cj.wk hb h3⟩
theorem cj.wk {M:Hp} {b b':Nat} (hb:b<=b'):∀{es:List Ex} {row:List XV},cj M b es row->cj M b' es row
 | [],_,_=>by simp only[cj]
 | e::es,row,h=>by simp only[cj]at h ⊢;exact⟨bG.wk hb h.1,cj.wk hb h.2⟩
end
theorem eo.wk {r:aR} (h:eo M b r cs) (hb:b<=b'):eo M b' r cs:=by obtain⟨pc,ve,h1,h2,h3⟩:=h;exact⟨pc,ve,h1,h2.wk hb,bE.wk h3 hb⟩
section
variable {M M':Hp} {p q:Nat->Prop}
def dN (M:Hp) (p:Nat->Prop) (v:XV) (sz len:Nat) (row:List XV):Prop :=
 len<=9223372036854775807/\((v = .nils/\len=0/\row=[])\/∃n off cap cs,v = .sl n sz off len cap/\p n/\vR M n=some cs/\off+len*sz<=cs.length/\row=(cs.drop off).take (len*sz))
mutual
def dm (M:Hp) (p:Nat->Prop):Ex->List XV->Prop
 | .mk k x y ps,cs=>∃v row,cs=[.int .i64 k,.int .u64 x,.int .u64 y,v]/\dN M p v 4 ps.length row/\bP M p ps row
def bP (M:Hp) (p:Nat->Prop):List Ex->List XV->Prop
 | [],_=>True
 | e::es,row=>dm M p e (row.take 4)/\bP M p es (row.drop 4)
end
theorem dN.keep {len:Nat} {row:List XV} (h:dN M p v sz len row) (hk:∀k,p k->gG M' k=gG M k/\q k):dN M' q v sz len row:=by
 refine⟨h.1,?_⟩;rcases h.2 with h | ⟨n,off,cap,cs,h1,h2,h3,h4⟩
 ·exact .inl h
 obtain⟨e1,e2⟩:=hk n h2;exact .inr ⟨n,off,cap,cs,h1,e2,by unfold vR at h3 ⊢;rw[e1];exact h3,h4⟩
theorem bE.pp {len:Nat} {row:List XV} (h:bE M b v sz len row):dN M (· < b) v sz len row:=h
theorem dN.lt {len:Nat} {row:List XV} (h:dN M (· < b) v sz len row):bE M b v sz len row:=h
mutual
theorem dm.keep (hk:∀k,p k->gG M' k=gG M k/\q k):∀{e:Ex} {cs:List XV},dm M p e cs->dm M' q e cs
 | .mk k x y ps,cs,h=>by simp only[dm]at h ⊢;obtain⟨v,row,h1,h2,h3⟩:=h;exact⟨v,row,h1,h2.keep hk,bP.keep hk h3⟩
theorem bP.keep (hk:∀k,p k->gG M' k=gG M k/\q k):∀{es:List Ex} {row:List XV},bP M p es row->bP M' q es row
 | [],_,_=>by simp only[bP]
 | e::es,row,h=>by simp only[bP]at h ⊢;exact⟨dm.keep hk h.1,bP.keep hk h.2⟩
end
mutual
theorem bG.pp {b:Nat}:∀{e:Ex} {cs:List XV},bG M b e cs ↔ dm M (· < b) e cs
 | .mk k x y ps,cs=>by simp only[bG,dm];exact⟨fun⟨v,row,h1,h2,h3⟩=>⟨v,row,h1,h2,cj.pp.1 h3⟩,fun⟨v,row,h1,h2,h3⟩=>⟨v,row,h1,h2,cj.pp.2 h3⟩⟩
theorem cj.pp {b:Nat}:∀{es:List Ex} {row:List XV},cj M b es row ↔ bP M (· < b) es row
 | [],_=>by simp only[cj,bP]
 | e::es,row=>by simp only[cj,bP];exact and_congr bG.pp cj.pp
end
theorem bP.get:∀{es:List Ex} {row:List XV} {i:Nat} {e:Ex},bP M p es row->es[i]?=some e->dm M p e ((row.drop (i*4)).take 4)
 | [],_,_,_,_,h=>by simp at h
 | e::es,row,0,e',h,he=>by simp only[bP]at h;simp only[aaI,aat]at he;subst he;simpa using h.1
 | e::es,row,i+1,e',h,he=>by simp only[bP]at h;simp only[aa1]at he;have:=bP.get h.2 he;rw[abi]at this;rw[show (i+1)*4=4+i*4 by omega];exact this
theorem bP.of:∀{es:List Ex} {row:List XV},(∀i e,es[i]?=some e->dm M p e ((row.drop (i*4)).take 4))->bP M p es row
 | [],_,_=>by simp only[bP]
 | e::es,row,h=>by simp only[bP];refine⟨by simpa using h 0 e rfl,bP.of fun i e' he=>?_⟩;have:=h (i+1) e' (by simpa using he);rw[abi,show 4+i*4=(i+1)*4 by omega];exact this
theorem dN.cell {len:Nat} {row:List XV} (h:dN M p v sz len row):cellsOf v=[v]/\ax v=true:=by rcases h.2 with ⟨rfl,_⟩ | ⟨n,off,cap,cs,rfl,_⟩<;>exact⟨rfl,rfl⟩
theorem dm.plain {e:Ex} (h:dm M p e cs):cs.length=4/\cs.all ax=true:=by obtain⟨k,x,y,ps⟩:=e;simp only[dm]at h;obtain⟨v,row,rfl,h2,_⟩:=h;have:=h2.cell.2;exact⟨rfl,by rw[all_cons,all_cons,all_cons,all_cons,this];rfl⟩
theorem bP.plain:∀{es:List Ex} {row:List XV},bP M p es row->row.length=es.length*4->row.all ax=true
 | [],row,_,h=>by have:row=[]:=aaG.1 (by simpa using h);subst this;rfl
 | e::es,row,h,hl=>by simp only[bP]at h;rw[<-take_append_drop 4 row,all_append,h.1.plain.2,bP.plain h.2 (by simp only[aaw]at hl;rw[acz];omega)];rfl
theorem Db:∀(cs vs:List XV),vs.length<=cs.length->bp.over cs vs=vs++cs.drop vs.length
 | cs,[],_=>by simp[bp.over]
 | [],v::vs,h=>by simp at h
 | c::cs,v::vs,h=>by simp only[aaw]at h;simp only[bp.over,aaw,acs,aa8];rw[Db cs vs aa]
theorem fa:∀(cs:List XV) (n:Nat) (vs:List XV),n+vs.length<=cs.length->bp cs n vs=cs.take n++(vs++cs.drop (n+vs.length))
 | cs,0,vs,h=>by rw[take_zero,abp,aaU,<-Db cs vs aa];cases cs<;>rfl
 | [],n+1,vs,h=>by simp at h
 | c::cs,n+1,vs,h=>by simp only[aaw]at h;simp only[bp,take_succ_cons,aa8];rw[fa cs n vs aa,show n+1+vs.length=(n+vs.length)+1 by omega,acs]
theorem ib (cs:List XV) (n:Nat) (vs:List XV) (h:n+vs.length<=cs.length):(bp cs n vs).length=cs.length:=by rw[fa cs n vs h];simp;omega
theorem Fc (cs:List XV) (sz i j L:Nat) (vs:List XV) (hv:vs.length=sz) (hc:cs.length=L*sz) (hi:i<L) (hj:j<L):((bp cs (i*sz) vs).drop (j*sz)).take sz=if j=i then vs else (cs.drop (j*sz)).take sz:=by
 have h1:(i+1)*sz<=L*sz:=abg _ hi;have h2:(j+1)*sz<=L*sz:=abg _ hj;rw[abZ,Nat.one_mul]at h1 h2;rw[fa cs _ vs aa];rcases Nat.lt_trichotomy j i with h | h | h
 ·have h3:(j+1)*sz<=i*sz:=abg _ h
  rw[abZ,Nat.one_mul]at h3;rw[if_neg aa,abA (by rw[aaS];omega),abT (by rw[acz,aaS];omega),List.drop_take,take_take];congr 1;omega
 ·subst h
  have e:(abP (j*sz) cs).length=j*sz:=by rw[aaS];omega
  rw[if_pos rfl,drop_append,e,Nat.sub_self,acm,aaM aa,abp,abT aa,aaz aa]
 have h3:(i+1)*sz<=j*sz:=abg _ h;rw[abZ,Nat.one_mul]at h3;rw[if_neg aa];have e:(abP (i*sz) cs).length=i*sz:=by rw[aaS];omega
 rw[drop_append,e,aaM aa,abp,drop_append,hv,aaM aa,abp,abi];congr 2;omega
theorem bE.el2 {len:Nat} {row:List XV} (h:bE M b v sz len row):∃rds:List Nat,(∀k ∈ rds,k<b)/\∀N,aq b M N->Go.Xs.el2 N v (some sz)=some (row,len,rds):=by
 rcases h.2 with ⟨rfl,rfl,rfl⟩ | ⟨n,off,cap,cs,rfl,h2,h3,h4,rfl⟩
 ·exact⟨[],af,fun N _=>GF sz⟩
 refine⟨[n],by simp[h2],fun N hN=>?_⟩;rw[Ih,hN n h2];unfold vR at h3;split at h3;·rename_i cs' e;cases h3;rw[e];exact Dl _ _ _ _ _ h4
 ·rename_i cs' e;cases h3;rw[e];exact LS _ _ _ _ _ h4
 cases h3
theorem uj (t sz eb k:Nat) (zs:List XV) (r:List Nat) (x:XV) (h1:eb<=128) (h2:1<=sz) (h3:zs.length=sz) (hk:gG M k=some (.row [])):FS P M key t (.sl k sz 0 0 0) x (some (sz,eb,zs)) (some ([],0,r))=some ⟨.sl k sz 0 0 0,k::r,[(k,some (.row []))]⟩:=by simp only[FS,aaL h1,aaL h2,h3,beq_refl,bA,hk,all_nil,ad0,aaX,aaU];rfl
theorem xz (t sz eb k n:Nat) (zs ys:List XV) (r:List Nat) (x:XV) (h1:eb<=128) (h2:1<=sz) (h3:zs.length=sz) (h4:1<=n) (h6:n<=fE) (h5:ys.all ax=true) (hk:gG M k=some (.row [])) (hr:k ∉ r) :
 FS P M key t (.sl k sz 0 0 0) x (some (sz,eb,zs)) (some (ys,n,r))=some ⟨.sl key sz 0 n n,k::r,[(k,none),(key,some (.row ys))]⟩:=by
 have hl:db r k=false:=by
  cases hh:db r k with
  | false=>rfl
  | true=>exact(hr ((eg _ _).1 hh)).elim
 rw[p0 t sz eb k 0 n zs ys r x h1 h2 h3 h4 aa h5,hk];simp[Pk,hl,aaL]
end
section
open Go.Proofs
def iT (M:Hp) (nx:Nat) (v:XV) (sz len:Nat) (row:List XV) (r:ew):Prop :=
 aq nx M r.2.1/\nx<=r.2.2/\((v = .nils/\r.1 = .nils)\/v ≠ .nils/\∃K,r.1 = .sl K sz 0 len len/\nx<=K/\K<r.2.2/\gG r.2.1 K=some (.row row))
theorem f115 (ρ:aK) {len:Nat} {row:List XV} (h:bE M b v 4 len row) (hb:b<=nx) (few:len<=100000) (gE:row.all ax=true):ar an ρ 115 [v] M nx fun r=>iT M nx v 4 len row r:=by
 obtain⟨rds,mr,F8⟩:=h.el2;have je:=h.row_len;have hv:v = .nils\/∃n off cap,v = .sl n 4 off len cap:=by
  rcases h.2 with ⟨e,_⟩ | ⟨n,off,cap,_,e,_⟩
  ·exact .inl e
  exact .inr ⟨n,off,cap,e⟩
 rcases hv with rfl | ⟨n,off,cap,hv⟩
 ·refine ar.wk 8 [.tmp 2] adV ?_
  refine fM Pn @iT.eq_1 ?_;exact⟨aq.refl _ _,af⟩
 have fF:∀k o,el2 (aG M (nx+k) o) v (some 4)=some (row,len,rds):=fun k o=>F8 _ (((aq.refl nx M).set aa o).le hb)
 have cf:∀yc,io an g0 42 .eql yc v .nils=some (.bool false):=fun yc=>by rw[hv,Cy,gZ.2.2.2.2.2];rfl
 have F7:v ≠ .nils:=by rw[hv];simp
 clear hv;have vR:∀k,nx+k ∉ rds:=fun k hk=>by have:=mr _ hk;omega
 by_cases h0:len=0
 ·subst h0
  have:row=[]:=aaG.1 aa;subst this;have dX:∀key k,FS an (aG M (nx+k) (.row [])) key 42 (.sl (nx+k) 4 0 0 0) v (some (4,48,[.int .i64 0,.int .u64 0,.int .u64 0,.nils])) (some ([],0,rds))=some ⟨.sl (nx+k) 4 0 0 0,(nx+k)::rds,[(nx+k,some (.row []))]⟩:=fun key k=>uj _ _ _ _ _ _ _ aa aa rfl (by rw[ap,if_pos rfl])
  refine ar.wk 8 [.tmp 2] adV ?_;refine lO Pn cf fF dX @iT.eq_1 ?_;exact⟨O,aa,.inr ⟨F7,_,rfl,aa,aa,if_pos (show aw _ _ from rfl)⟩⟩
 have dX:∀key k,FS an (aG M (nx+k) (.row [])) key 42 (.sl (nx+k) 4 0 0 0) v (some (4,48,[.int .i64 0,.int .u64 0,.int .u64 0,.nils])) (some (row,len,rds))=some ⟨.sl key 4 0 len len,(nx+k)::rds,[(nx+k,none),(key,some (.row row))]⟩:=fun key k=>xz _ _ _ _ _ _ _ _ _ aa aa rfl aa (by simp only[fE];omega) gE (by rw[ap,if_pos rfl]) (vR k)
 refine ar.wk 8 [.tmp 2] adV ?_;refine lO Pn cf fF dX @iT.eq_1 ?_;exact⟨fun j hj=>J,aa,.inr ⟨F7,_,rfl,aa,aa,if_pos (show aw _ _ from rfl)⟩⟩
theorem f66 (ρ:aK) {len:Nat} {row:List XV} (h:bE M b v 4 len row) (hb:b<=nx) (few:len<=100000) (gE:row.all ax=true):ar an ρ 66 [v] M nx fun r=>iT M nx v 4 len row r:=by
 obtain⟨rds,mr,F8⟩:=h.el2;have je:=h.row_len;have hv:v = .nils\/∃n off cap,v = .sl n 4 off len cap:=by
  rcases h.2 with ⟨e,_⟩ | ⟨n,off,cap,_,e,_⟩
  ·exact .inl e
  exact .inr ⟨n,off,cap,e⟩
 rcases hv with rfl | ⟨n,off,cap,hv⟩
 ·refine ar.wk 8 [.tmp 2] Tryz.func66 ?_
  refine fM OC @iT.eq_1 ?_;exact⟨aq.refl _ _,af⟩
 have fF:∀k o,el2 (aG M (nx+k) o) v (some 4)=some (row,len,rds):=fun k o=>F8 _ (((aq.refl nx M).set aa o).le hb)
 have cf:∀yc,io an g0 45 .eql yc v .nils=some (.bool false):=fun yc=>by rw[hv,Cy,iH.2.2.2.2.2];rfl
 have F7:v ≠ .nils:=by rw[hv];simp
 clear hv;have vR:∀k,nx+k ∉ rds:=fun k hk=>by have:=mr _ hk;omega
 by_cases h0:len=0
 ·subst h0
  have:row=[]:=aaG.1 aa;subst this;have dX:∀key k,FS an (aG M (nx+k) (.row [])) key 45 (.sl (nx+k) 4 0 0 0) v (some (4,32,[.int .u64 0,.int .u64 0,.int .u64 0,.bool false])) (some ([],0,rds))=some ⟨.sl (nx+k) 4 0 0 0,(nx+k)::rds,[(nx+k,some (.row []))]⟩:=fun key k=>uj _ _ _ _ _ _ _ aa aa rfl (by rw[ap,if_pos rfl])
  refine ar.wk 8 [.tmp 2] Tryz.func66 ?_;refine lO OC cf fF dX @iT.eq_1 ?_;exact⟨O,aa,.inr ⟨F7,_,rfl,aa,aa,if_pos (show aw _ _ from rfl)⟩⟩
 have dX:∀key k,FS an (aG M (nx+k) (.row [])) key 45 (.sl (nx+k) 4 0 0 0) v (some (4,32,[.int .u64 0,.int .u64 0,.int .u64 0,.bool false])) (some (row,len,rds))=some ⟨.sl key 4 0 len len,(nx+k)::rds,[(nx+k,none),(key,some (.row row))]⟩:=fun key k=>xz _ _ _ _ _ _ _ _ _ aa aa rfl aa (by simp only[fE];omega) gE (by rw[ap,if_pos rfl]) (vR k)
 refine ar.wk 8 [.tmp 2] Tryz.func66 ?_;refine lO OC cf fF dX @iT.eq_1 ?_;exact⟨fun j hj=>J,aa,.inr ⟨F7,_,rfl,aa,aa,if_pos (show aw _ _ from rfl)⟩⟩
theorem f192 (ρ:aK) {len:Nat} {row:List XV} (h:bE M b v 8 len row) (hb:b<=nx) (few:len<=100000) (gE:row.all ax=true):ar an ρ 192 [v] M nx fun r=>iT M nx v 8 len row r:=by
 obtain⟨rds,mr,F8⟩:=h.el2;have je:=h.row_len;have hv:v = .nils\/∃n off cap,v = .sl n 8 off len cap:=by
  rcases h.2 with ⟨e,_⟩ | ⟨n,off,cap,_,e,_⟩
  ·exact .inl e
  exact .inr ⟨n,off,cap,e⟩
 rcases hv with rfl | ⟨n,off,cap,hv⟩
 ·refine ar.wk 8 [.tmp 2] adT ?_
  refine fM OE @iT.eq_1 ?_;exact⟨aq.refl _ _,af⟩
 have fF:∀k o,el2 (aG M (nx+k) o) v (some 8)=some (row,len,rds):=fun k o=>F8 _ (((aq.refl nx M).set aa o).le hb)
 have cf:∀yc,io an g0 80 .eql yc v .nils=some (.bool false):=fun yc=>by rw[hv,Cy,yT.2.2.2.2.2];rfl
 have F7:v ≠ .nils:=by rw[hv];simp
 clear hv;have vR:∀k,nx+k ∉ rds:=fun k hk=>by have:=mr _ hk;omega
 by_cases h0:len=0
 ·subst h0
  have:row=[]:=aaG.1 aa;subst this;have dX:∀key k,FS an (aG M (nx+k) (.row [])) key 80 (.sl (nx+k) 8 0 0 0) v (some (8,56,[.int .i64 0,.int .u64 0,.int .u64 0,.int .u64 0,.int .u64 0,.int .u64 0,.bool false,.bool false])) (some ([],0,rds))=some ⟨.sl (nx+k) 8 0 0 0,(nx+k)::rds,[(nx+k,some (.row []))]⟩:=fun key k=>uj _ _ _ _ _ _ _ aa aa rfl (by rw[ap,if_pos rfl])
  refine ar.wk 8 [.tmp 2] adT ?_;refine lO OE cf fF dX @iT.eq_1 ?_;exact⟨O,aa,.inr ⟨F7,_,rfl,aa,aa,if_pos (show aw _ _ from rfl)⟩⟩
 have dX:∀key k,FS an (aG M (nx+k) (.row [])) key 80 (.sl (nx+k) 8 0 0 0) v (some (8,56,[.int .i64 0,.int .u64 0,.int .u64 0,.int .u64 0,.int .u64 0,.int .u64 0,.bool false,.bool false])) (some (row,len,rds))=some ⟨.sl key 8 0 len len,(nx+k)::rds,[(nx+k,none),(key,some (.row row))]⟩:=fun key k=>xz _ _ _ _ _ _ _ _ _ aa aa rfl aa (by simp only[fE];omega) gE (by rw[ap,if_pos rfl]) (vR k)
 refine ar.wk 8 [.tmp 2] adT ?_;refine lO OE cf fF dX @iT.eq_1 ?_;exact⟨fun j hj=>J,aa,.inr ⟨F7,_,rfl,aa,aa,if_pos (show aw _ _ from rfl)⟩⟩
def PK (b nx n':Nat):Nat->Prop:=fun k=>(k<b\/nx<=k)/\k<n'
theorem cq {n:Nat}:∀{cs:List XV} {x:XV},aE n cs=true->x ∈ cs->aO n x=true
 | [],_,_,h=>by cases h
 | c::cs,x,h,hx=>by
   unfold aE at h;split at h<;>(try (cases h;done))
   rename_i h0;rcases aaK.1 hx with rfl | hx
   ·exact h0
   exact cq h hx
theorem mU {n:Nat}:∀{cs:List XV},(∀x ∈ cs,aO n x=true)->aE n cs=true
 | [],_=>by simp only[aE]
 | c::cs,h=>by unfold aE;rw[h c aaC];exact mU fun x hx=>h x (aaJ _ hx)
def Cc (b nx:Nat) (e:Ex) (r:ew):Prop:=∃cs,r.1 = .agg cs/\dm r.2.1 (PK b nx r.2.2) e cs
theorem aA {l:jg} (h:0<k):dM i ⟨v,aa7 k,us⟩ l=(i,aa7 k,bM us)::l:=by
 obtain⟨a,t,e⟩:∃a t,aa7 k=a::t:=by
  cases hr:aa7 k with
  | nil=>have:=congrArg adJ hr;simp at this;omega
  | cons a t=>exact⟨a,t,rfl⟩
 unfold dM;simp only[e]
theorem lz:∀(ps:List Ex),ps.length<=mb ps
 | []=>by simp[mb]
 | e::es=>by have:=lz es;obtain⟨k,x,y,ps⟩:=e;simp only[mb,dV,aaw];omega
theorem f65:∀(sz:Nat) (ρ:aK) (e:Ex) (M:Hp) (nx b:Nat) (cs:List XV),dV e<sz->bG M b e cs->b<=nx->dV e<=100000->ar an ρ 65 [.agg cs] M nx fun r=>Cc b nx e r/\aq nx M r.2.1/\nx<=r.2.2:=by
 intro sz
 induction sz with
 | zero=>intro ρ e M nx b cs h;omega
 | succ sz ih =>
 intro ρ e M nx b cs cJ he hb ip;refine ar.closed fun cF aX=>?_
 obtain⟨k,x,y,ps⟩:=e;simp only[bG]at he;obtain⟨v,row,rfl,cw,jd⟩:=he;have hv:=cw.cell;have Us:aO nx v=true:=by
  simp only[aE,aO]at aX;split at aX
  ·rename_i q;split at q
   ·rename_i q2;exact q2
   cases q
  cases aX
 have gE:row.all ax=true:=bP.plain (cj.pp.1 jd) cw.row_len;have D5:ps.length<=100000:=by have:=lz ps;simp only[dV]at ip;omega
 have ay:=fun N=>cw.len (P:=an) (t:=42) gZ.2.2.2.2.2 N
 refine ar.wk 25 [.cell 2 44] Tryz.func65 ?_;refine gk fT hv.1 hv.2 ?_;generalize xu:aG (aG M _ _) _ _=M1;have a1:aq nx M M1:=by rw[<-xu];exact O
 have m1:gG M1 nx=some (.row [.int .i64 k,.int .u64 x,.int .u64 y,v]):=by rw[<-xu];exact J
 have m2:gG M1 (nx+1)=some (.row [.int .i64 0,.int .u64 0,.int .u64 0,.nils]):=by rw[<-xu];exact J
 clear xu;refine gQ (f115 ρ (cw.agr (a1.le hb)) aa D5 gE).out ?_;rintro⟨u,M2,n2⟩ ⟨⟨g1,g2,g3⟩,g4,g5⟩;simp only at g1 g2 g3 g4 g5;have y1:=(g1 nx aa).trans m1;have y2:=(g1 (nx+1) aa).trans m2;have a2:aq nx M M2:=a1.trans (g1.le aa);rcases g3 with ⟨rfl,rfl⟩ | ⟨Q6,K,rfl,K1,K2,K3⟩
 ·have pG:ps.length=0:=by
   rcases cw.2 with ⟨_,q,_⟩ | ⟨_,_,_,_,q,_⟩
   ·exact q
   cases q
  have sV:ps=[]:=aaG.1 pG;refine gk fT y1 y2 ?_;refine aC (fun m' s=>gG s.env 1=some (.mp nx 0)/\gG s.env 2=some (.mp (nx+1) 0)/\gG s.env 11=some (.int .i64 0)/\gG s.env 12=some (.int .i64 0)/\gG s.M nx=some (.row [.int .i64 k,.int .u64 x,.int .u64 y,.nils])/\gG s.M (nx+1)=some (.row [.int .i64 0,.int .u64 0,.int .u64 0,.nils])/\aq nx M s.M/\n2<=s.nx) 0 ?_ ?_
  ·refine gk fT y1 y2 ?_
   exact⟨(by(repeat (refine aq.set ?_ aa _));exact a2),aa⟩
  rintro m' ⟨env,M',nx'⟩ ⟨e1,e2,kW,vS,z1,z2,ha,hn⟩;simp only at e1 e2 kW vS z1 z2 ha hn;refine ky fT e1 e2 kW vS z1 z2 ?_;refine⟨⟨_,rfl,?_⟩,(by(repeat (refine aq.set ?_ aa _));exact ha),aa⟩;simp only[dm,sV,bP];exact⟨_,[],rfl,⟨af,.inl ⟨rfl,rfl,rfl⟩⟩,trivial⟩
 have Oe:=cw.row_len;refine gk fT y1 y2 ?_;refine aC (fun m' s=>∃(i:Nat) (rw:List XV),i<=ps.length/\m'=ps.length - i/\gG s.env 1=some (.mp nx 0)/\gG s.env 2=some (.mp (nx+1) 0)/\gG s.env 10=some (.sl K 4 0 ps.length ps.length)/\gG s.env 11=some (.int .i64 ps.length)/\gG s.env 12=some (.int .i64 i) /\
  gG s.M nx=some (.row [.int .i64 k,.int .u64 x,.int .u64 y,.sl K 4 0 ps.length ps.length])/\gG s.M (nx+1)=some (.row [.int .i64 0,.int .u64 0,.int .u64 0,.nils])/\gG s.M K=some (.row rw)/\rw.length=ps.length*4 /\
  (∀j e,ps[j]?=some e->dm s.M (fun q=>(q<b\/(K<q/\j<i))/\q<s.nx) e ((rw.drop (j*4)).take 4))/\aq nx M s.M/\n2<=s.nx/\Cl s.nx s.M)
  ps.length ⟨0,row,aa,aa,?_⟩ ?_
 ·refine jz fT y1 y2 K3 ?_
  refine⟨Oe,fun j e he=>?_,(by(repeat (refine aq.set ?_ aa _));exact a2),aa,?_⟩
  ·have:=bP.get (cj.pp.1 (jd.agr (a2.le hb))) he
   exact this.keep fun q hq=>⟨J,.inl hq,aa⟩
  refine(g4.le aa).set aa ?_;have xj:∀c,abc K (n2+c)=true:=fun c=>by rw[abD];omega
  simp only[cp,aE,aO,xj]
 rintro m' ⟨env,M',nx'⟩ ⟨i,rw',hi,ir,e1,e2,dx,kW,vS,z1,z2,z3,je,fF,ha,hn,jZ⟩;simp only at e1 e2 dx kW vS z1 z2 z3 fF ha hn jZ;by_cases aL:(i:Int)<ps.length
 ·have aP:i<ps.length:=aa
  obtain⟨c,hc⟩:=aao aP;have bV:=eF i;have hE:=fF i c hc;have NL:=hE;obtain⟨k',x',y',ps'⟩:=c;simp only[dm]at NL;obtain⟨v',row',dI,ox,_⟩:=NL;have oP:=ox.cell;have bC:∀kk,br an 42 (.sl K 4 0 ps.length ps.length) (.int kk (i:Int))=some (.mp K (i*4)):=fun kk=>by rw[cy,gZ.2.2.2.1,ev _ _ _ _ _ aa aa];simp
  have rC:(i+1)*4<=ps.length*4:=abg _ aP;have aU:b_ an M' 44 (.mp K (i*4))=some ⟨.agg [.int .i64 k',.int .u64 x',.int .u64 y',v'],[K],[]⟩:=by rw[fG (by unfold vR;rw[z3]) fu.1 aa,dI]
  have hEb:bG M' b (.mk k' x' y' ps') [.int .i64 k',.int .u64 x',.int .u64 y',v']:=by rw[dI]at hE;exact bG.pp.2 (hE.keep fun q hq=>⟨rfl,by rcases hq.1 with h | h;exact h;omega⟩)
  have CI:aO nx' v'=true:=by have h1:=(jZ K _ z3).2;simp only[cp]at h1;exact cq h1 (acX (acN (show v' ∈ abP 4 (List.drop (i*4) rw') by rw[dI];simp)))
  have Bh:dV (.mk k' x' y' ps')<sz/\dV (.mk k' x' y' ps')<=100000:=by have:=fb (aaH hc);simp only[dV]at cJ ip this ⊢;omega
  refine yq fT e1 e2 dx kW vS aL bC aU oP.1 oP.2 z1 ?_;generalize oM:aG (aG M' _ _) _ _=M3;have a3:aq nx' M' M3:=by rw[<-oM];exact O
  have yG:Cl (nx'+11) M3:=by rw[<-oM];refine((jZ.le aa).set aa rfl).set aa ?_;simp only[cp,aE,aO];rw[aO.le aa CI]
  clear oM;obtain⟨v1,N,bD,hC,⟨TR,qx,sP⟩,Mj,jT,lH,mN⟩:=bN.made (P:=an) (ρ:=ρ) (g:=65) (args:=[.agg [.int .i64 k',.int .u64 x',.int .u64 y',v']]) (M:=M3) (nx:=nx'+11) (Q:=Cc b (nx'+11) (.mk k' x' y' ps')) yG
   (by simp only[aE,aO];rw[aO.le aa CI]) (fun N hN=>ih { ρ with det:=true } _ N (nx'+11) b _ Bh.1 (hEb.agr ((a3.trans (hN.le aa)).le aa)) aa Bh.2)
   (.agg [.int .i64 k',.int .u64 x',.int .u64 y',v']) (by simp only[aO,aE];rw[aO.le aa CI])
   (fun N hN=>⟨_,rfl,(bG.pp.1 (hEb.agr ((a3.trans (hN.le aa)).le aa))).keep fun q hq=>⟨rfl,show (q<b\/nx'+11<=q)/\q<nx'+11 from ⟨.inl hq,by have:q<b:=hq;omega⟩⟩⟩)
  simp only at qx sP;subst qx;have CC:=sP;simp only[dm]at CC;obtain⟨w',oQ,hw',hw2',_⟩:=CC;subst hw';have hwc:=hw2'.cell;have dz:∀q,q<nx'->gG (aY M3 (dH N (nx'+11) bD)) q=gG M' q:=fun q hq=>by rw[bW,if_neg aa];exact a3 q hq
  have hK:=(dz K aa).trans z3;have iO:=eI N (nx'+11) bD;refine aT hC aj ?_;refine yq fT bC hK hwc.1 hwc.2 @aA bV e1 e2 dx kW vS ?_;have NY:i*4+[XV.int IntKind.i64 k',XV.int abW x',XV.int abW y',w'].length<=rw'.length:=by simp only[aaw,aaO];omega
  have hkw:aO bD w'=true:=by
   simp only[aO,aE]at mN;cases hq:aO bD w' with
   | true=>rfl
   | false=>rw[hq]at mN;cases mN
  refine⟨bn _ _ _ _ _ _ (fun q hq=>by have:=iO q hq;simp only[aaE];omega) (fun q hq=>af) (fun q hq=>by simp at hq),ps.length - (i+1),aa,i+1,_,aa,rfl,rfl,(dz nx aa).trans z1,(dz (nx+1) aa).trans z2,rfl,by rw[ib _ _ _ NY];exact je,fun j e hj=>?_,fun q hq=>?_,aa,?_⟩
  ·have yY:j<ps.length:=(aaq.1 hj).1
   rw[Fc rw' 4 i j ps.length _ rfl je aP yY];split
   ·rename_i kX
    subst kX;rw[hc]at hj;cases hj;refine sP.keep fun q hq=>?_
    obtain⟨q1,q2⟩:(q<b\/nx'+11<=q)/\q<bD:=hq;refine⟨?_,?_,aa⟩
    ·rw[ap,if_neg aa,bW]
     split;·rfl
     exact(Mj q aa).symm
    rcases q1 with h | h
    ·exact .inl h
    exact .inr ⟨aa,aa⟩
   refine(fF j e hj).keep fun q hq=>?_
   obtain⟨q1,q2⟩:=hq;refine⟨?_,?_,aa⟩
   ·rw[ap,if_neg aa]
    exact dz q q2
   rcases q1 with h | ⟨h,h'⟩
   ·exact .inl h
   exact .inr ⟨h,aa⟩
  ·rw[ap,if_neg aa,dz q aa]
   exact ha q hq
  have hcH:Cl bD (aY M3 (dH N (nx'+11) bD)):=fun q o ho=>by
   rw[bW]at ho;split at ho;·exact lH q o ho
   exact yG.le jT q o ho
  refine(hcH.le aa).set aa ?_;simp only[cp];refine mU fun z hz=>?_
  rw[fa _ _ _ NY]at hz;have h1:=(jZ K _ z3).2;simp only[cp]at h1;rcases abe.1 hz with hz | hz
  ·exact aO.le aa (cq h1 (acN hz))
  rcases abe.1 hz with hz | hz
  ·simp only[aaK,not_mem_nil,or_false]at hz
   rcases hz with rfl | rfl | rfl | rfl
   ·rfl
   ·rfl
   ·rfl
   exact aO.le aa hkw
  exact aO.le aa (cq h1 (acX hz))
 have gB:i=ps.length:=aa;refine wT fT e1 e2 dx kW vS aL z1 z2 ?_;refine⟨⟨_,rfl,?_⟩,(by(repeat (refine aq.set ?_ aa _));exact ha),aa⟩;simp only[dm];refine⟨_,rw',rfl,⟨aa,.inr ⟨K,0,ps.length,rw',rfl,⟨.inr aa,aa⟩,by unfold vR;rw[ap,if_neg aa,z3],aa,by rw[acm,aaz aa]⟩⟩,bP.of fun j c hc=>?_⟩;exact(fF j c hc).keep fun q hq=>by
  have:=hq.2;refine⟨?_,?_,aa⟩;·rw[ap,if_neg aa]
  rcases hq.1 with h | h
  ·exact .inl h
  exact .inr aa
end
section
variable {P:Program} {ρ:aK} {w w':World} {σ σ':cb} {M N M' N':Hp} {nx n g:Nat} {args:List XV} {R:ew->Prop}
theorem zX {α:Type} (f:Nat->Option α):∀(n:Nat),∃t:Tr α,∀k,gG t k=if k<n then f k else none
 | 0=>⟨.nil,fun k=>by rw[if_neg aa];rfl⟩
 | n+1=>by
   obtain⟨t,ht⟩:=zX f n;cases hf:f n with
   | none =>
     refine⟨t,fun k=>?_⟩;rw[ht];by_cases hk:k=n;·subst hk;rw[if_neg aa,if_pos aa,hf]
     by_cases h:k<n;·rw[if_pos h,if_pos aa]
     rw[if_neg h,if_neg aa]
   | some v =>
     refine⟨aG t n v,fun k=>?_⟩;rw[ap,ht];by_cases hk:k=n;·subst hk;rw[if_pos rfl,if_pos aa,hf]
     rw[if_neg (fun e=>hk e.symm)];by_cases h:k<n;·rw[if_pos h,if_pos aa]
     rw[if_neg h,if_neg aa]
theorem qc {α:Type}:∀(t:Tr α),∃n,∀k,n<=k->gG t k=none
 | .nil=>⟨0,fun _ _=>rfl⟩
 | .node v l r=>by
   obtain⟨a,ha⟩:=qc l;obtain⟨b,hb⟩:=qc r;refine⟨2*a+2*b+3,fun k hk=>?_⟩;rcases mW k with rfl | ⟨q,rfl⟩ | ⟨q,rfl⟩
   ·omega
   ·rw[eH];exact ha q aa
   rw[dE];exact hb q aa
theorem H9 (nx:Nat) (N M N':Hp):∃t:Hp,∀k,gG t k=if k<nx/\gG N k=none/\(gG M k).isSome=true then gG M k else gG N' k:=by
 obtain⟨b,hb⟩:=qc N';obtain⟨t,ht⟩:=zX (fun k=>if k<nx/\gG N k=none/\(gG M k).isSome=true then gG M k else gG N' k) (nx+b);refine⟨t,fun k=>?_⟩;rw[ht];by_cases h:k<nx+b;·rw[if_pos h]
 rw[if_neg h,if_neg aa,hb k aa]
def K_ (nx:Nat) (N M N':Hp):Hp:=acV (H9 nx N M N')
theorem od (nx:Nat) (N M N':Hp) (k:Nat):gG (K_ nx N M N') k=if k<nx/\gG N k=none/\(gG M k).isSome=true then gG M k else gG N' k:=aa9 (H9 nx N M N') k
def Pi (N M:Hp):Prop:=∀k o,gG N k=some o->gG M k=some o
structure Nv (nx:Nat) (N M N' M':Hp):Prop where
 sub:∀k y,gG N' k=some y->kF y=true->gG M' k=some y
 new:(∀k o,gG M k=some o->k<nx)->∀k,nx<=k->gG M' k=gG N' k
 own:∀k x,gG N k=some x->gG M' k=gG N' k
 old:∀k x,k<nx->gG N k=none->gG M k=some x->gG M' k=some x
 apart:∀k x,k<nx->gG N k=none->gG M k=some x->∀y,gG N' k=some y->kF y=false
 mid:∀k,k<nx->gG N k=none->gG N' k=none->gG M' k=gG M k
theorem cK.frame (aQ:Ok ρ w σ M) (ce:∀k,nx<=k->σ k=none) (hN:Pi N M) {r:ew} {v:Value} (h:cK ρ w σ N nx r v w') :
 cK ρ w σ M nx (r.1,K_ nx N M r.2.1,r.2.2) v w'/\Nv nx N M r.2.1 (K_ nx N M r.2.1):=by
 obtain⟨σ',h1,h2,h3,h4,h5⟩:=h;have get:∀k o,gG (K_ nx N M r.2.1) k=some o->(gG r.2.1 k=some o)\/(k<nx/\gG N k=none/\gG M k=some o):=fun k o hk=>by
  rw[od]at hk;split at hk;·rename_i hc;exact .inr ⟨hc.1,hc.2.1,hk⟩
  exact .inl hk
 have apart:∀k o p b,gG N k=none->gG M k=some o->σ k=some p->p.1=b->¬ eB σ N b:=by rintro k o p b hk hm hp hb ⟨j,x,q,hj,hq,he,iR⟩;have:=aQ.inj j k x o q p (hN _ _ hj) hm iR hq hp (by rw[hb,he]);subst this;rw[hk]at hj;cases hj
 have side:∀k o,gG N k=none->gG M k=some o->∃p,σ k=some p/\OR ρ w σ p o/\w'.heap[p.1]?=w.heap[p.1]?:=fun k o hk hm=>by obtain⟨p,hp,ho⟩:=aQ.obj k o hm;exact⟨p,hp,ho,h3.blk p.1 ho.lt (apart k o p p.1 hk hm hp rfl)⟩
 have mm:∀k x,gG N k=none->gG M k=some x->∀y,gG r.2.1 k=some y->kF y=false:=fun k x hk hm y hy=>by
  cases iR:kF y with
  | false=>rfl
  | true =>
    exfalso;obtain⟨q,hq,ho,_⟩:=side k x hk hm;rcases h3.own q.1 ⟨k,y,q,hy,h3.sig _ _ hq,rfl,iR⟩ with g | g
    ·exact apart k x q q.1 hk hm hq rfl g
    have:=ho.lt;omega
 have ext:zN w σ M w' σ' (K_ nx N M r.2.1):=by
  refine⟨h3.os,h3.tape,h3.output,h3.size,fun b hb hn=>h3.blk b hb fun ho=>hn (ho.sub hN),fun b hb=>?_,h3.sig,fun b hb=>?_⟩
  ·obtain⟨k,o,p,hk,hp,rfl,iR⟩:=hb
   rcases get k o hk with hk | ⟨_,hn,hk⟩
   ·exact(h3.own p.1 ⟨k,o,p,hk,hp,rfl,iR⟩).imp (fun g=>g.sub hN) id
   obtain⟨q,hq,_⟩:=side k o hn hk;rw[h3.sig _ _ hq]at hp;cases hp;exact .inl ⟨k,o,p,hk,hq,rfl,iR⟩
  obtain⟨k,o,p,hk,hp,rfl⟩:=hb;rcases get k o hk with hk | ⟨_,hn,hk⟩
  ·exact(h3.held p.1 ⟨k,o,p,hk,hp,rfl⟩).imp (fun⟨j,x,q,g1,g2⟩=>⟨j,x,q,hN _ _ g1,g2⟩) id
  obtain⟨q,hq,_⟩:=side k o hn hk;rw[h3.sig _ _ hq]at hp;cases hp;exact .inl ⟨k,o,p,hk,hq,rfl⟩
 refine⟨⟨σ',h1,⟨fun k o hk=>?_,fun k k' o o' p p' hk ia iR hp uV he=>?_,ext.fix aQ⟩,ext,h4,h5⟩,⟨fun k y hy iR=>?_,fun hM k hk=>?_,fun k x hx=>?_,fun k x hk hn hm=>?_,fun k x _ hn hm=>mm k x hn hm,fun k hk hn yZ=>?_⟩⟩
 ·rcases get k o hk with hk | ⟨_,hn,hk⟩
  ·exact h2.obj k o hk
  obtain⟨p,hp,ho,hb⟩:=side k o hn hk;exact⟨p,h3.sig _ _ hp,OR.mono h3.sig hb ho⟩
 ·rcases get k o hk with hk | ⟨_,hn,hk⟩<;>rcases get k' o' ia with ia | ⟨_,yZ,ia⟩
  ·exact h2.inj k k' o o' p p' hk ia iR hp uV he
  ·exfalso
   obtain⟨q,hq,ho,_⟩:=side k' o' yZ ia;rw[h3.sig _ _ hq]at uV;cases uV;rcases h3.own p.1 ⟨k,o,p,hk,hp,rfl,iR⟩ with g | g
   ·exact apart k' o' p' p.1 yZ ia hq he.symm g
   have:=ho.lt;omega
  ·exfalso
   obtain⟨q,hq,ho,_⟩:=side k o hn hk;rw[h3.sig _ _ hq]at hp;cases hp;rcases h3.held p'.1 ⟨k',o',p',ia,uV,rfl⟩ with ⟨j,x,q',hj,nP,D1⟩ | g
   ·have mS:=hN _ _ hj
    have:=aQ.inj k j o x p q' hk mS iR hq nP (he.trans D1.symm);subst this;rw[hn]at hj;cases hj
   have:=ho.lt;omega
  obtain⟨q,hq,_⟩:=side k o hn hk;obtain⟨q',nP,_⟩:=side k' o' yZ ia;rw[h3.sig _ _ hq]at hp;rw[h3.sig _ _ nP]at uV;cases hp;cases uV;exact aQ.inj k k' o o' p p' hk ia iR hq nP he
 ·rw[od]
  split
  ·rename_i hc
   obtain⟨x,hx⟩:=isSome_iff_exists.1 hc.2.2;rw[mm k x hc.2.1 hx y hy]at iR;cases iR
  exact hy
 ·rw[od,if_neg aa]
 ·rw[od,if_neg (fun h=>by rw[hx]at h;cases h.2.1)]
 ·rw[od,if_pos ⟨hk,hn,by rw[hm];rfl⟩,hm]
 rw[od];split;·rfl
 rename_i hc;rw[yZ];cases hm:gG M k with
 | none=>rfl
 | some x=>exact(hc ⟨hk,hn,by rw[hm];rfl⟩).elim
theorem ft.frame (hN:Pi N M) (h:ft P ρ g args N nx R):ft P ρ g args M nx fun o=>∃N',R (o.1,N',o.2.2)/\o.2.1=K_ nx N M N'/\Nv nx N M N' o.2.1:=by
 intro w σ vs aQ ce aX o a K Q hK;refine h w σ vs (aQ.sub hN) ce aX o a K Q fun v w' ⟨r,hr,hp⟩=>?_
 obtain⟨q1,q2⟩:=hp.frame aQ ce hN;exact hK v w' ⟨(r.1,K_ nx N M r.2.1,r.2.2),⟨r.2.1,hr,rfl,q2⟩,q1⟩
theorem ar.frame (hN:Pi N M) (h:ar P ρ g args N nx R):ar P ρ g args M nx fun o=>∃N',R (o.1,N',o.2.2)/\Nv nx N M N' o.2.1:=by
 refine⟨(h.1.frame hN).mono fun o ⟨N',h1,h2,h3⟩=>⟨N',h1,h3⟩,fun hd ⟨r0,mP⟩=>?_⟩;obtain⟨N0,q1,q2⟩:=mP;obtain⟨r,g1,g2⟩:=h.2 hd ⟨_,q1⟩;by_cases hc:Nv nx N M r.2.1 (K_ nx N M r.2.1)
 ·refine⟨(r.1,K_ nx N M r.2.1,r.2.2),⟨r.2.1,g1,hc⟩,(g2.frame hN).mono fun o ⟨N',h1,h2,h3⟩=>?_⟩
  obtain⟨o1,o2,o3⟩:=o;simp only at h1 h2;rw[<-h1];simp only;rw[h2]
 exact⟨r0,⟨N0,q1,q2⟩,(g2.frame hN).mono fun o ⟨N',h1,h2,h3⟩=>by obtain⟨o1,o2,o3⟩:=o;simp only at h1 h2 h3;refine(hc ?_).elim;rw[<-h1];simp only;rw[<-h2];exact h3⟩
def Mu (N M:Hp):Prop:=∀k o,gG N k=some o->gG M k=some o/\kF o=true
theorem Nn (N:Hp):∃t:Hp,∀k,gG t k=(gG N k).filter kF:=by
 obtain⟨b,hb⟩:=qc N;obtain⟨t,ht⟩:=zX (fun k=>(gG N k).filter kF) b;refine⟨t,fun k=>?_⟩;rw[ht];by_cases h:k<b;·rw[if_pos h]
 rw[if_neg h,hb k aa];rfl
def Rt (N:Hp):Hp:=acV (Nn N)
theorem KU (N:Hp) (k:Nat):gG (Rt N) k=(gG N k).filter kF:=aa9 (Nn N) k
theorem pI {o:bx}:gG (Rt N) k=some o ↔ gG N k=some o/\kF o=true:=by
 rw[KU];cases h:gG N k with
 | none=>simp
 | some x =>
   simp only[filter_some,aat];constructor
   ·intro h
    split at h
    ·rename_i hm
     cases h;exact⟨rfl,hm⟩
    cases h
   rintro⟨rfl,hm⟩;rw[if_pos hm]
def gM (nx:Nat) (N M N' M':Hp):Prop:=∀k x,k<nx->gG N k=none->gG M k=some x->gG M' k=some x/\gG N' k=none
theorem gM.trans {MP:Nat} {N1 M1 N2 M2:Hp} (h:gM nx N M N1 M1) (h':gM MP N1 M1 N2 M2) (hn:nx<=MP):gM nx N M N2 M2:=fun k x h1 h2 h3 =>
 let ⟨a,b⟩:=h k x h1 h2 h3;h' k x aa b a
theorem Nv.mu (h:Nv nx N M N' M'):Mu (Rt N') M'/\gM nx N M (Rt N') M':=by
 refine⟨fun k o hk=>?_,fun k x h1 h2 h3=>⟨h.old k x h1 h2 h3,?_⟩⟩
 ·obtain⟨q1,q2⟩:=pI.1 hk
  exact⟨h.sub k o q1 q2,q2⟩
 cases hk:gG (Rt N') k with
 | none=>rfl
 | some y =>
   obtain⟨q1,q2⟩:=pI.1 hk;rw[h.apart k x h1 h2 h3 y q1]at q2;cases q2
theorem Mu.sub (h:Mu N M):Pi N M:=fun k o hk=>(h k o hk).1
end
structure ku where
 t:Int
 b:Int
 e:Int
 s:Int
 n:Int
structure fS where
 pos:Int
 t:Int
 x:Int
 w:Int
 n:Int
 v:Int
 dead:Bool
 fin:Bool
structure my where
 pos:Int
 place:Int
 t:Int
 x:Int
 w:Int
 n:Int
 pred:Bool
 m:Bool
structure HS where
 nrec:Nat
 crec:List XV
 txs:List ku
 places:Nat->Int->List Int
 num:Int->Option Int
 com:List Int
 mods:List fS
 ver:Int->Int->Int->Option Int
 looks:List my
 obj:Int->Option Int
def d_ (a:ku):List XV:=[.int .u64 a.t,.int .i64 a.b,.int .i64 a.e,.int .i64 a.s,.int .i64 a.n]
def cO (a:fS):List XV:=[.int .i64 a.pos,.int .u64 a.t,.int .u64 a.x,.int .u64 a.w,.int .u64 a.n,.int .u64 a.v,.bool a.dead,.bool a.fin]
def cX (a:my):List XV:=[.int .i64 a.pos,.int .i64 a.place,.int .u64 a.t,.int .u64 a.x,.int .u64 a.w,.int .u64 a.n,.bool a.pred,.bool a.m]
inductive Hg where
 | none | hist | recs | txs | num | com | mods | ver | looks | obj | known (i:Nat) | kmap (i:Nat) | slot (i:Nat) (x:Int)
structure kD {κ β:Type} (l:List (Nat×κ×β)) (c:Nat):Prop where
 lt:∀e ∈ l,e.1<c
 nd:(l.map (·.1)).Nodup
 kd:(l.map (·.2.1)).Nodup
theorem AH {κ β:Type} (c:Nat):kD ([]:List (Nat×κ×β)) c:=⟨af,af,af⟩
theorem rS {κ β:Type} [DecidableEq κ]:∀(l:List (Nat×κ×β)) (c:Nat) (k:κ) (v:β),(dD l c k v).map (·.1)=if (aH l k).isSome then l.map (·.1) else l.map (·.1)++[c]
 | [],c,k,v=>rfl
 | (b,k',u)::l,c,k,v=>by
   simp only[dD,aH];split;·simp
   rw[aa3,rS l c k v];split<;>simp
theorem wa {κ β:Type} [DecidableEq κ]:∀(l:List (Nat×κ×β)) (c:Nat) (k:κ) (v:β),(dD l c k v).map (·.2.1)=if (aH l k).isSome then l.map (·.2.1) else l.map (·.2.1)++[k]
 | [],c,k,v=>rfl
 | (b,k',u)::l,c,k,v=>by
   simp only[dD,aH];split;·simp
   rw[aa3,wa l c k v];split<;>simp
theorem tA {κ β:Type} [DecidableEq κ]:∀{l:List (Nat×κ×β)} {k:κ},aH l k=none->k ∉ l.map (·.2.1)
 | [],k,_=>af
 | (b,k',u)::l,k,h=>by
   simp only[aH]at h;split at h;·cases h
   rename_i e;have:=tA h;rw[aa3,aaK,not_or];exact⟨e,this⟩
theorem gH {κ β:Type} [DecidableEq κ]:∀{l:List (Nat×κ×β)},(l.map (·.2.1)).Nodup->∀e ∈ l,aH l e.2.1=some e.2.2
 | [],_,e,he=>by cases he
 | (b,k',u)::l,hn,e,he=>by
   simp only[aH];rw[aa3,nodup_cons]at hn;rcases aaK.1 he with rfl | he
   ·rw[if_pos rfl]
   rw[if_neg fun q=>hn.1 (ab6.2 ⟨e,he,q⟩)];exact gH hn.2 e he
theorem ju {κ β:Type} [DecidableEq κ]:∀{l:List (Nat×κ×β)} {k:κ} {v:β},aH l k=some v->∃b,(b,k,v) ∈ l
 | [],k,v,h=>by cases h
 | (b,k',u)::l,k,v,h=>by
   simp only[aH]at h;split at h;·rename_i e;subst e;cases h;exact⟨b,aaC⟩
   obtain⟨b',h'⟩:=ju h;exact⟨b',aaJ _ h'⟩
theorem zV {κ β:Type} [DecidableEq κ] {l:List (Nat×κ×β)} {c:Nat} {k:κ} {v:β} (h:kD l c):kD (dD l c k v) (vc l c k):=by
 have hb:=rS l c k v;have hk:=wa l c k v;have lt:∀b ∈ l.map (·.1),b<c:=fun b hb=>by obtain⟨e,he,rfl⟩:=ab6.1 hb;exact h.lt e he
 unfold vc;by_cases hs:(aH l k).isSome
 ·rw[if_pos hs]at hb hk ⊢
  exact⟨fun e he=>lt _ (by rw[<-hb];exact ab6.2 ⟨e,he,rfl⟩),by rw[hb];exact h.nd,by rw[hk];exact h.kd⟩
 rw[if_neg hs]at hb hk ⊢;refine⟨fun e he=>?_,?_,?_⟩
 ·have:e.1 ∈ l.map (·.1)++[c]:=by rw[<-hb];exact ab6.2 ⟨e,he,rfl⟩
  rcases abe.1 this with q | q
  ·have:=lt _ q;omega
  rw[aaE]at q;omega
 ·rw[hb,nodup_append]
  refine⟨h.nd,af,fun a ha b rA=>?_⟩;rw[aaE]at rA;have:=lt a ha;omega
 rw[hk,nodup_append];refine⟨h.kd,af,fun a ha b rA=>?_⟩;rw[aaE]at rA;subst rA;intro e;subst e;exact tA (by simpa using hs) ha
def iB (M:Hp) (lo hi:Nat) (tag:Nat->Hg) (i:Nat) (a:ku) (pl:Int->List Int) (v:XV):Prop :=
 ∃rk mk c lm,v = .mp rk 0/\lo<=rk/\rk<hi/\tag rk = .known i/\gG M rk=some (.row (d_ a++[.mm mk]))/\lo<=mk/\mk<hi/\tag mk = .kmap i/\gG M mk=some (.map (cx vX lm) c) /\
  (kD lm c/\∀x,aH lm x=none->pl x=[])/\∀x v,aH lm x=some v->pl x≠[]/\bS M lo hi tag (.slot i x) v 1 (pl x).length ((pl x).map (XV.int .i64))
structure eM (M:Hp) (lo hi h:Nat) (S:HS) (tag:Nat->Hg) (vrec vtxs vcom vmods vlook:XV) (nk vk ok cn cv co:Nat) (ptrs:List XV) (lnum:List (Nat×Int×Int)) (lver:List (Nat×List Int×Int)) (lobj:List (Nat×Int×Int)):Prop where
 lo_h:lo<=h
 h_hi:h<hi
 tg:tag h = .hist
 row:gG M h=some (.row [vrec,vtxs,.mm nk,vcom,vmods,.mm vk,vlook,.mm ok])
 recs:bS M lo hi tag .recs vrec 11 S.nrec S.crec
 txs:bS M lo hi tag .txs vtxs 1 S.txs.length ptrs
 known:∀i a,S.txs[i]?=some a->∃v,ptrs[i]?=some v/\iB M lo hi tag i a (S.places i) v
 nlo:lo<=nk
 nhi:nk<hi
 ntg:tag nk = .num
 num:gG M nk=some (.map (cx (vI .i64) lnum) cn)
 numS:∀t,aH lnum t=S.num t
 com:bS M lo hi tag .com vcom 1 S.com.length (S.com.map (XV.int .u64))
 mods:bS M lo hi tag .mods vmods 8 S.mods.length (S.mods.flatMap cO)
 vlo:lo<=vk
 vhi:vk<hi
 vtg:tag vk = .ver
 ver:gG M vk=some (.map (eY (vI .i64) lver) cv)
 vrow:jL 3 lver
 verS:∀x w n,aH lver [x,w,n]=S.ver x w n
 looks:bS M lo hi tag .looks vlook 8 S.looks.length (S.looks.flatMap cX)
 olo:lo<=ok
 ohi:ok<hi
 otg:tag ok = .obj
 obj:gG M ok=some (.map (cx (vI .i64) lobj) co)
 objS:kD lobj co/\∀x,aH lobj x=S.obj x
def bX (M:Hp) (lo hi h:Nat) (S:HS):Prop:=∃tag vrec vtxs vcom vmods vlook nk vk ok cn cv co ptrs lnum lver lobj,eM M lo hi h S tag vrec vtxs vcom vmods vlook nk vk ok cn cv co ptrs lnum lver lobj
theorem iB.keep {hi':Nat} {tag tag':Nat->Hg} {a:ku} {pl:Int->List Int} (h:iB M lo hi tag i a pl v)
 (hk:∀k,k<hi->(tag k = .known i\/tag k = .kmap i\/∃x,tag k = .slot i x)->gG M' k=gG M k/\tag' k=tag k) (hh:hi<=hi'):iB M' lo hi' tag' i a pl v:=by
 obtain⟨rk,mk,c,lm,h1,h2,h3,h4,h5,h6,h7,h8,h9,Gf,RJ⟩:=h;obtain⟨e1,e2⟩:=hk rk h3 (.inl h4);obtain⟨e3,e4⟩:=hk mk h7 (.inr (.inl h8));refine⟨rk,mk,c,lm,h1,h2,aa,by rw[e2];exact h4,by rw[e1];exact h5,h6,aa,by rw[e4];exact h8,by rw[e3];exact h9,Gf,fun x v hx=>?_⟩;obtain⟨g1,g2⟩:=RJ x v hx;exact⟨g1,g2.keep (fun k ia hg=>by obtain⟨e5,e6⟩:=hk k ia (.inr (.inr ⟨x,hg⟩));exact⟨e5,by rw[e6];exact hg⟩) hh⟩
def HS.look (S:HS) (a:my):HS:={ S with looks:=S.looks++[a],obj:=fun x=>if x=a.x then some ((S.obj a.x).getD 0+1) else S.obj x }
section
variable {M M':Hp} {lo hi hi' h:Nat} {S S':HS} {tag tag':Nat->Hg} {vrec vtxs vcom vmods vlook:XV} {nk vk ok cn cv co:Nat} {ptrs:List XV} {lnum:List (Nat×Int×Int)} {lver:List (Nat×List Int×Int)} {lobj:List (Nat×Int×Int)}
theorem zf {C:Hg->Prop} (keep:∀k,k<hi->¬ C (tag k)->gG M' k=gG M k) (cH:∀k,k<hi->tag' k=tag k) (tg:Hg) (hc:¬ C tg):∀k,k<hi->tag k=tg->gG M' k=gG M k/\tag' k=tg :=
 fun k hk hg=>⟨keep k hk (by rw[hg];exact hc),by rw[cH k hk];exact hg⟩
theorem eM.look {vlook':XV} {co':Nat} {lobj':List (Nat×Int×Int)} {a:my} (H:eM M lo hi h S tag vrec vtxs vcom vmods vlook nk vk ok cn cv co ptrs lnum lver lobj)
 (keep:∀k,k<hi->¬ (fun g=>g=Hg.hist\/g = .looks\/g = .obj) (tag k)->gG M' k=gG M k) (cH:∀k,k<hi->tag' k=tag k) (hh:hi<=hi')
 (row:gG M' h=some (.row [vrec,vtxs,.mm nk,vcom,vmods,.mm vk,vlook',.mm ok])) (looks:bS M' lo hi' tag' .looks vlook' 8 (S.looks.length+1) ((S.looks++[a]).flatMap cX))
 (obj:gG M' ok=some (.map (cx (vI .i64) lobj') co')) (objS:kD lobj' co'/\∀x,aH lobj' x=(S.look a).obj x) :
 eM M' lo hi' h (S.look a) tag' vrec vtxs vcom vmods vlook' nk vk ok cn cv co' ptrs lnum lver lobj':=by
 have kk:=fun tg hc=>zf (M:=M) (M':=M') (C:=fun g=>g=Hg.hist\/g = .looks\/g = .obj) keep cH tg hc
 exact {
  lo_h:=H.lo_h,h_hi:=aax H.h_hi hh,tg:=by rw[cH h H.h_hi];exact H.tg,row:=row
  recs:=H.recs.keep (kk _ af) hh,txs:=H.txs.keep (kk _ af) hh
  known:=fun i b hb=>by obtain⟨v,h1,h2⟩:=H.known i b hb;exact⟨v,h1,h2.keep (fun k hk hg=>⟨keep k hk (by rcases hg with q | q | ⟨x,q⟩<;>rw[q]<;>simp),cH k hk⟩) hh⟩
  nlo:=H.nlo,nhi:=aax H.nhi hh,ntg:=by rw[cH nk H.nhi];exact H.ntg,num:=by rw[(kk _ af nk H.nhi H.ntg).1];exact H.num,numS:=H.numS
  com:=H.com.keep (kk _ af) hh,mods:=H.mods.keep (kk _ af) hh
  vlo:=H.vlo,vhi:=aax H.vhi hh,vtg:=by rw[cH vk H.vhi];exact H.vtg,ver:=by rw[(kk _ af vk H.vhi H.vtg).1];exact H.ver,vrow:=H.vrow,verS:=H.verS
  looks:=by have e:(S.look a).looks.length=S.looks.length+1:=by simp[HS.look]
            rw[e];exact looks
  olo:=H.olo,ohi:=aax H.ohi hh,otg:=by rw[cH ok H.ohi];exact H.otg,obj:=obj,objS:=objS }
theorem eM.agr (H:eM M lo hi h S tag vrec vtxs vcom vmods vlook nk vk ok cn cv co ptrs lnum lver lobj) (ha:aq hi M M'):eM M' lo hi h S tag vrec vtxs vcom vmods vlook nk vk ok cn cv co ptrs lnum lver lobj:=by
 have kk:∀(tg:Hg) (k:Nat),k<hi->tag k=tg->gG M' k=gG M k/\tag k=tg:=fun tg k hk hg=>⟨ha k hk,hg⟩
 exact {
  lo_h:=H.lo_h,h_hi:=H.h_hi,tg:=H.tg,row:=by rw[ha h H.h_hi];exact H.row
  recs:=H.recs.keep (kk _) (u7 _),txs:=H.txs.keep (kk _) (u7 _)
  known:=fun i b hb=>by obtain⟨v,h1,h2⟩:=H.known i b hb;exact⟨v,h1,h2.keep (fun k hk _=>⟨ha k hk,rfl⟩) (u7 _)⟩
  nlo:=H.nlo,nhi:=H.nhi,ntg:=H.ntg,num:=by rw[ha nk H.nhi];exact H.num,numS:=H.numS
  com:=H.com.keep (kk _) (u7 _),mods:=H.mods.keep (kk _) (u7 _)
  vlo:=H.vlo,vhi:=H.vhi,vtg:=H.vtg,ver:=by rw[ha vk H.vhi];exact H.ver,vrow:=H.vrow,verS:=H.verS
  looks:=H.looks.keep (kk _) (u7 _)
  olo:=H.olo,ohi:=H.ohi,otg:=H.otg,obj:=by rw[ha ok H.ohi];exact H.obj,objS:=H.objS }
theorem eM.norm (H:eM M lo hi h S tag vrec vtxs vcom vmods vlook nk vk ok cn cv co ptrs lnum lver lobj):eM M lo hi h S (fun k=>if k<hi then tag k else .none) vrec vtxs vcom vmods vlook nk vk ok cn cv co ptrs lnum lver lobj:=by
 have ht:∀k,k<hi->(if k<hi then tag k else Hg.none)=tag k:=fun k hk=>if_pos hk
 have kk:∀(tg:Hg) (k:Nat),k<hi->tag k=tg->gG M k=gG M k/\(if k<hi then tag k else Hg.none)=tg:=fun tg k hk hg=>⟨rfl,by rw[ht k hk];exact hg⟩
 exact {
  lo_h:=H.lo_h,h_hi:=H.h_hi,tg:=by rw[ht h H.h_hi];exact H.tg,row:=H.row
  recs:=H.recs.keep (kk _) (u7 _),txs:=H.txs.keep (kk _) (u7 _)
  known:=fun i b hb=>by obtain⟨v,h1,h2⟩:=H.known i b hb;exact⟨v,h1,h2.keep (fun k hk _=>⟨rfl,ht k hk⟩) (u7 _)⟩
  nlo:=H.nlo,nhi:=H.nhi,ntg:=by rw[ht nk H.nhi];exact H.ntg,num:=H.num,numS:=H.numS
  com:=H.com.keep (kk _) (u7 _),mods:=H.mods.keep (kk _) (u7 _)
  vlo:=H.vlo,vhi:=H.vhi,vtg:=by rw[ht vk H.vhi];exact H.vtg,ver:=H.ver,vrow:=H.vrow,verS:=H.verS
  looks:=H.looks.keep (kk _) (u7 _)
  olo:=H.olo,ohi:=H.ohi,otg:=by rw[ht ok H.ohi];exact H.otg,obj:=H.obj,objS:=H.objS }
end
section
variable {P:Program} {ρ:aK} {M M' N N':Hp} {nx nx' g lo hi h:Nat} {S S':HS} {args:List XV}
def xQ (M M':Hp):Prop:=∀k x,gG M k=some x->kF x=true->gG M' k=some x
theorem xQ.row (h:xQ M M') (hk:gG M k=some (.row cs)):gG M' k=some (.row cs):=h k _ hk rfl
theorem xQ.map (h:xQ M M') {c:Nat} {es:List (Nat×XV×XV)} (hk:gG M k=some (.map es c)):gG M' k=some (.map es c):=h k _ hk rfl
theorem bS.sub {τ:Type} {tag:Nat->τ} {tg:τ} {len:Nat} (hs:xQ M M') (h:bS M lo hi tag tg v sz len cs):bS M' lo hi tag tg v sz len cs:=by
 obtain⟨h1,h2,h3 | ⟨h0,k,e,h4,h5,h6,h7⟩⟩:=h;·exact⟨h1,h2,.inl h3⟩
 exact⟨h1,h2,.inr ⟨h0,k,e,h4,h5,h6,hs.row h7⟩⟩
theorem iB.sub {tag:Nat->Hg} {a:ku} {pl:Int->List Int} (hs:xQ M M') (h:iB M lo hi tag i a pl v):iB M' lo hi tag i a pl v:=by obtain⟨rk,mk,c,lm,h1,h2,h3,h4,h5,h6,h7,h8,h9,Gf,RJ⟩:=h;exact⟨rk,mk,c,lm,h1,h2,h3,h4,hs.row h5,h6,h7,h8,hs.map h9,Gf,fun x v hx=>⟨(RJ x v hx).1,(RJ x v hx).2.sub hs⟩⟩
theorem bX.sub (hs:xQ M M') (H:bX M lo hi h S):bX M' lo hi h S:=by
 obtain⟨tag,vrec,vtxs,vcom,vmods,vlook,nk,vk,ok,cn,cv,co,ptrs,lnum,lver,lobj,H⟩:=H;exact⟨tag,vrec,vtxs,vcom,vmods,vlook,nk,vk,ok,cn,cv,co,ptrs,lnum,lver,lobj,
  { lo_h:=H.lo_h,h_hi:=H.h_hi,tg:=H.tg,row:=hs.row H.row,recs:=H.recs.sub hs,txs:=H.txs.sub hs
    known:=fun i a ha=>let ⟨v,h1,h2⟩:=H.known i a ha;⟨v,h1,h2.sub hs⟩
    nlo:=H.nlo,nhi:=H.nhi,ntg:=H.ntg,num:=hs.map H.num,numS:=H.numS,com:=H.com.sub hs,mods:=H.mods.sub hs
    vlo:=H.vlo,vhi:=H.vhi,vtg:=H.vtg,ver:=hs.map H.ver,vrow:=H.vrow,verS:=H.verS,looks:=H.looks.sub hs
    olo:=H.olo,ohi:=H.ohi,otg:=H.otg,obj:=hs.map H.obj,objS:=H.objS }⟩
theorem bX.lo_lt (H:bX M lo hi h S):lo<hi:=by obtain⟨tag,vrec,vtxs,vcom,vmods,vlook,nk,vk,ok,cn,cv,co,ptrs,lnum,lver,lobj,H⟩:=H;have h1:=H.lo_h;have h2:=H.h_hi;omega
structure HF (M:Hp) (nx:Nat) (N:Hp) (lo h:Nat) (S:HS):Prop where
 mu:Mu N M
 lt:∀k x,gG N k=some x->k<nx
 ge:∀k x,gG N k=some x->lo<=k
 at':∃hi,hi<=nx/\bX N lo hi h S
theorem HF.keep (H:HF M nx N lo h S) (hk:∀k x,gG N k=some x->gG M' k=gG M k) (hn:nx<=nx'):HF M' nx' N lo h S :=
 ⟨fun k o ho=>⟨by rw[hk k o ho];exact(H.mu k o ho).1,(H.mu k o ho).2⟩,fun k x hx=>aax (H.lt k x hx) hn,H.ge,let ⟨hi,h1,h2⟩:=H.at';⟨hi,aaT h1 hn,h2⟩⟩
theorem HF.agr (H:HF M nx N lo h S) (ha:aq nx M M') (hn:nx<=nx'):HF M' nx' N lo h S:=H.keep (fun k x hx=>ha k (H.lt k x hx)) hn
theorem HF.msub (H:HF M nx N lo h S):xQ N M:=fun k x hk _=>(H.mu k x hk).1
theorem HF.hist (H:HF M nx N lo h S):∃hi,hi<=nx/\bX M lo hi h S:=let ⟨hi,h1,h2⟩:=H.at';⟨hi,h1,h2.sub H.msub⟩
theorem HF.out (H:HF M nx N lo h S) (hk:nx<=k):gG N k=none:=by
 cases hn:gG N k with
 | none=>rfl
 | some x=>have:=H.lt k x hn;omega
def Dg (M:Hp) (nx:Nat) (N:Hp) (lo h:Nat) (S':HS) (v:XV) (o:ew):Prop:=o.1=v/\nx<=o.2.2/\∃N',HF o.2.1 o.2.2 N' lo h S'/\gM nx N M N' o.2.1/\aq lo M o.2.1
theorem ar.hist (H:HF M nx N lo h S) (hc:∀hi,hi<=nx->bX N lo hi h S->ar P ρ g args N nx fun o=>o.1=v/\bX o.2.1 lo o.2.2 h S'/\aq lo N o.2.1/\nx<=o.2.2):ar P ρ g args M nx (Dg M nx N lo h S' v):=by
 obtain⟨hi,h1,h2⟩:=H.at';refine((hc hi h1 h2).frame H.mu.sub).out.mono fun o ⟨⟨N',⟨q1,q2,q3,q4⟩,q5⟩,q6,_⟩=>?_
 simp only at q1 q2 q3 q4;have hN:∀k,k<lo->gG N k=none:=fun k hk=>by
  cases hn:gG N k with
  | none=>rfl
  | some x=>have:=H.ge k x hn;omega
 have JT:∀k,k<lo->gG N' k=none:=fun k hk=>by rw[q3 k hk];exact hN k hk
 have mo:lo<=nx:=by have:=h2.lo_lt;omega
 refine⟨q1,q4,Rt N',⟨q5.mu.1,fun k x hx=>(q6 k x (q5.mu.1 k x hx).1).1,fun k x hx=>?_,o.2.2,u7 _,q2.sub fun k x hx hm=>pI.2 ⟨hx,hm⟩⟩,q5.mu.2,fun k hk=>q5.mid k aa (hN k hk) (JT k hk)⟩;refine Nat.le_of_not_lt fun hk=>?_
 have:=(pI.1 hx).1;rw[JT k hk]at this;cases this
def Pf (R:ew->Prop):bg->XS->Prop
 | .exit _,_=>False
 | _,s=>R (.tup [],s.M,s.nx)
theorem G8 (R:ew->Prop):vA P [] R=Pf R:=by funext e s;cases e<;>simp[vA,Pf,cB,cR]
theorem kq:cR [] = .tup []:=rfl
theorem kg (v:XV):cR [v]=v:=rfl
theorem km (v w:XV) (l:List XV):cR (v::w::l) = .tup (v::w::l):=rfl
theorem Pv (R:ew->Prop) (s:XS):Pf R .normal s=R (.tup [],s.M,s.nx):=rfl
def Kp (b:Nat) (M M':Hp):Prop:=∀k x,k<b->gG M k=some x->gG M' k=some x
theorem bE.kp {len:Nat} {row:List XV} (h:bE M b v sz len row) (ha:Kp b M M'):bE M' b v sz len row:=by
 refine⟨h.1,?_⟩;rcases h.2 with h | ⟨n,off,cap,cs,h1,h2,h3,h4⟩
 ·exact .inl h
 refine .inr ⟨n,off,cap,cs,h1,h2,?_,h4⟩;unfold vR at h3 ⊢;cases hm:gG M n with
 | none=>rw[hm]at h3;cases h3
 | some x=>rw[ha n x h2 hm];rw[hm]at h3;exact h3
mutual
theorem bG.kp {b:Nat} (ha:Kp b M M'):∀{e:Ex} {cs:List XV},bG M b e cs->bG M' b e cs
 | .mk k x y ps,cs,h=>by simp only[bG]at h ⊢;obtain⟨v,row,h1,h2,h3⟩:=h;exact⟨v,row,h1,h2.kp ha,cj.kp ha h3⟩
theorem cj.kp {b:Nat} (ha:Kp b M M'):∀{es:List Ex} {row:List XV},cj M b es row->cj M' b es row
 | [],_,_=>by simp only[cj]
 | e::es,row,h=>by simp only[cj]at h ⊢;exact⟨bG.kp ha h.1,cj.kp ha h.2⟩
end
theorem eo.kp (ha:Kp b M M') {r:aR} (h:eo M b r cs):eo M' b r cs:=by obtain⟨pc,ve,h1,h2,h3⟩:=h;exact⟨pc,ve,h1,h2.kp ha,bE.kp h3 ha⟩
end
section
variable {M M':Hp} {p q:Nat->Prop}
def dG (M:Hp) (p:Nat->Prop) (v:XV) (sz len:Nat) (row:List XV):Prop :=
 len<=9223372036854775807/\row.length=len*sz/\((v = .nils/\len=0)\/∃n,v = .sl n sz 0 len len/\p n/\gG M n=some (.row row))
theorem dG.keep {len:Nat} {row:List XV} (h:dG M p v sz len row) (hk:∀k,p k->gG M' k=gG M k/\q k):dG M' q v sz len row:=by
 obtain⟨h1,h2,h | ⟨n,h3,h4,h5⟩⟩:=h;·exact⟨h1,h2,.inl h⟩
 obtain⟨e1,e2⟩:=hk n h4;exact⟨h1,h2,.inr ⟨n,h3,e2,e1.trans h5⟩⟩
theorem dG.cell {len:Nat} {row:List XV} (h:dG M p v sz len row):cellsOf v=[v]/\ax v=true:=by obtain⟨_,_,⟨rfl,_⟩ | ⟨n,rfl,_⟩⟩:=h<;>exact⟨rfl,rfl⟩
theorem dG.pp {len:Nat} {row:List XV} (h:dG M p v sz len row):dN M p v sz len row:=by
 obtain⟨h1,h2,⟨rfl,rfl⟩ | ⟨n,rfl,h4,h5⟩⟩:=h;·exact⟨h1,.inl ⟨rfl,rfl,aaG.1 aa⟩⟩
 exact⟨h1,.inr ⟨n,0,len,row,rfl,h4,by unfold vR;rw[h5],aa,by rw[acm,aaz aa]⟩⟩
theorem dN.at {len:Nat} {row:List XV} (h:dN M p v sz len row) (hb:∀k,p k->k<b):bE M b v sz len row :=
 (h.keep (q:=(· < b)) fun k hk=>⟨rfl,hb k hk⟩).lt
theorem dG.at {len:Nat} {row:List XV} (h:dG M p v sz len row) (hb:∀k,p k->k<b):bE M b v sz len row:=h.pp.at hb
theorem dG.klt {len:Nat} {row:List XV} (h:dG M p v sz len row) (hb:∀k,p k->k<n):aO n v=true:=by
 obtain⟨h1,h2,⟨rfl,rfl⟩ | ⟨k,rfl,h4,h5⟩⟩:=h;·rfl
 simp only[aO,abD];exact hb k h4
theorem bE.kltRow {len:Nat} {row:List XV} (h:bE M b v sz len row) (cF:Cl n M):∀x ∈ row,aO n x=true:=by
 intro x hx;rcases h.2 with ⟨_,_,rfl⟩ | ⟨k,off,cap,cs,_,_,h3,_,rfl⟩
 ·cases hx
 have hm:x ∈ cs:=acX (acN hx);unfold vR at h3;split at h3
 ·rename_i cs' e
  cases h3;have:=(cF _ _ e).2;simp only[cp]at this;exact cq this hm
 ·rename_i cs' e
  cases h3;have:=(cF _ _ e).2;simp only[cp]at this;exact cq this hm
 cases h3
theorem mf {rw:List XV} (h:rw.length=i*sz) (hc:cs.length=sz) (hj:j<i+1):((rw++cs).drop (j*sz)).take sz=if j<i then (rw.drop (j*sz)).take sz else cs:=by
 split
 ·rename_i aL
  have h1:(j+1)*sz<=i*sz:=abg _ aL;rw[ac9]at h1;rw[abA aa,abT (by rw[acz];omega)]
 have:j=i:=aa;subst this;rw[drop_left' h,aaz aa]
theorem Cl.del (h:Cl n M):Cl n (vO M k):=fun j x hj=>by
 rw[cV]at hj;split at hj;·cases hj
 exact h j x hj
mutual
def ji (M:Hp) (p:Nat->Prop):Ex->List XV->Prop
 | .mk k x y ps,cs=>∃v row,cs=[.int .i64 k,.int .u64 x,.int .u64 y,v]/\dG M p v 4 ps.length row/\eO M p ps row
def eO (M:Hp) (p:Nat->Prop):List Ex->List XV->Prop
 | [],_=>True
 | e::es,row=>ji M p e (row.take 4)/\eO M p es (row.drop 4)
end
mutual
theorem ji.keep (hk:∀k,p k->gG M' k=gG M k/\q k):∀{e:Ex} {cs:List XV},ji M p e cs->ji M' q e cs
 | .mk k x y ps,cs,h=>by simp only[ji]at h ⊢;obtain⟨v,row,h1,h2,h3⟩:=h;exact⟨v,row,h1,h2.keep hk,eO.keep hk h3⟩
theorem eO.keep (hk:∀k,p k->gG M' k=gG M k/\q k):∀{es:List Ex} {row:List XV},eO M p es row->eO M' q es row
 | [],_,_=>by simp only[eO]
 | e::es,row,h=>by simp only[eO]at h ⊢;exact⟨ji.keep hk h.1,eO.keep hk h.2⟩
end
mutual
theorem ji.pp:∀{e:Ex} {cs:List XV},ji M p e cs->dm M p e cs
 | .mk k x y ps,cs,h=>by simp only[ji,dm]at h ⊢;obtain⟨v,row,h1,h2,h3⟩:=h;exact⟨v,row,h1,h2.pp,eO.pp h3⟩
theorem eO.pp:∀{es:List Ex} {row:List XV},eO M p es row->bP M p es row
 | [],_,_=>by simp only[bP]
 | e::es,row,h=>by simp only[eO,bP]at h ⊢;exact⟨ji.pp h.1,eO.pp h.2⟩
end
theorem ji.at {e:Ex} (h:ji M p e cs) (hb:∀k,p k->k<b):bG M b e cs :=
 bG.pp.2 (h.pp.keep fun k hk=>⟨rfl,hb k hk⟩)
theorem ji.shape {e:Ex} (h:ji M p e cs):∃k x y v,cs=[.int .i64 k,.int .u64 x,.int .u64 y,v]/\cellsOf v=[v]/\ax v=true:=by obtain⟨k,x,y,ps⟩:=e;simp only[ji]at h;obtain⟨v,row,rfl,h2,_⟩:=h;exact⟨k,x,y,v,rfl,h2.cell⟩
theorem ji.klt {e:Ex} (h:ji M p e cs) (hb:∀k,p k->k<n):aE n cs=true:=by obtain⟨k,x,y,ps⟩:=e;simp only[ji]at h;obtain⟨v,row,rfl,h2,_⟩:=h;simp only[aE,aO,h2.klt hb]
theorem ji.len {e:Ex} (h:ji M p e cs):cs.length=4:=by obtain⟨k,x,y,v,rfl,_⟩:=h.shape;rfl
theorem eO.of:∀{es:List Ex} {row:List XV},(∀i e,es[i]?=some e->ji M p e ((row.drop (i*4)).take 4))->eO M p es row
 | [],_,_=>by simp only[eO]
 | e::es,row,h=>by simp only[eO];refine⟨by simpa using h 0 e rfl,eO.of fun i e' he=>?_⟩;have:=h (i+1) e' (by simpa using he);rw[abi,show 4+i*4=(i+1)*4 by omega];exact this
mutual
def Bz:Ex->Hp->Nat->List XV×Hp×Nat
 | .mk k x y ps,N,n=>([.int .i64 k,.int .u64 x,.int .u64 y,.sl (ll ps N n).2.2 4 0 ps.length ps.length],aG (ll ps N n).2.1 (ll ps N n).2.2 (.row (ll ps N n).1),(ll ps N n).2.2+1)
def ll:List Ex->Hp->Nat->List XV×Hp×Nat
 | [],N,n=>([],N,n)
 | e::es,N,n=>((Bz e N n).1++(ll es (Bz e N n).2.1 (Bz e N n).2.2).1,(ll es (Bz e N n).2.1 (Bz e N n).2.2).2)
end
theorem jA {ys:List XV} (h1:aE n xs=true) (h2:aE n ys=true):aE n (xs++ys)=true :=
 mU fun x hx=>(abe.1 hx).elim (cq h1) (cq h2)
mutual
theorem Hj {nx:Nat}:∀(e:Ex) (N:Hp) (n:Nat),dV e<=100000->nx<=n->Cl n N->ji (Bz e N n).2.1 (fun k=>n<=k/\k<(Bz e N n).2.2) e (Bz e N n).1/\n<=(Bz e N n).2.2/\aq n N (Bz e N n).2.1/\Cl (Bz e N n).2.2 (Bz e N n).2.1
 | .mk k x y ps,N,n,hf,hn,hc=>by obtain⟨h1,h2,h3,h4,h5,h6⟩:=CZ (nx:=nx) ps N n (by simp only[dV]at hf;omega) hn hc;have hl:=lz ps;simp only[dV]at hf;simp only[Bz];refine⟨?_,aa,h3.set aa _,(h4.le aa).set aa (by simp only[cp];exact aE.le aa h6)⟩;simp only[ji];refine⟨_,(ll ps N n).1,rfl,⟨aa,h5,.inr ⟨_,rfl,⟨h2,aa⟩,by rw[ap,if_pos rfl]⟩⟩,h1.keep fun k hk=>?_⟩;obtain⟨q1,q2⟩:=hk;exact⟨by rw[ap,if_neg aa],q1,aa⟩
theorem CZ {nx:Nat}:∀(es:List Ex) (N:Hp) (n:Nat),mb es<=100000->nx<=n->Cl n N->eO (ll es N n).2.1 (fun k=>n<=k/\k<(ll es N n).2.2) es (ll es N n).1/\n<=(ll es N n).2.2/\aq n N (ll es N n).2.1/\Cl (ll es N n).2.2 (ll es N n).2.1/\(ll es N n).1.length=es.length*4/\aE (ll es N n).2.2 (ll es N n).1=true
 | [],N,n,_,_,hc=>by simp only[ll,eO];exact⟨trivial,u7 _,aq.refl _ _,hc,rfl,rfl⟩
 | e::es,N,n,hf,hn,hc=>by
   simp only[mb]at hf;obtain⟨a1,a2,a3,a4⟩:=Hj (nx:=nx) e N n aa hn hc;obtain⟨h1,h2,h3,h4,h5,h6⟩:=CZ (nx:=nx) es (Bz e N n).2.1 (Bz e N n).2.2 aa aa a4;have hl:=a1.len;simp only[ll,eO];refine⟨⟨?_,?_⟩,aa,a3.trans (h3.le a2),h4,by rw[aau,hl,h5,aaw];omega,jA (aE.le h2 (a1.klt fun k hk=>hk.2)) h6⟩
   ·rw[take_left' hl]
    exact a1.keep fun k hk=>⟨h3 k hk.2,hk.1,aa⟩
   rw[drop_left' hl];exact h1.keep fun k hk=>⟨rfl,aa,hk.2⟩
end
def kO (nx:Nat) (e:Ex) (r:ew):Prop:=∃cs,r.1 = .agg cs/\ji r.2.1 (fun k=>nx<=k/\k<r.2.2) e cs
theorem kO.ex {e:Ex} (hf:dV e<=100000) (hc:Cl nx N):∃v0 N0 hi,kO nx e (v0,N0,hi)/\aq nx N N0/\nx<=hi/\Cl hi N0/\aO hi v0=true:=by obtain⟨h1,h2,h3,h4⟩:=Hj (nx:=nx) e N nx hf (u7 _) hc;exact⟨_,_,_,⟨_,rfl,h1⟩,h3,h2,h4,by simp only[aO];exact h1.klt fun k hk=>hk.2⟩
theorem bN.made' {ρ:aK} {args:List XV} {Q:ew->Prop} (cF:Cl nx M) (ha:aE nx args=true) (h:∀N,aq nx M N->ar P { ρ with det:=true } g args N nx fun r=>Q r/\aq nx N r.2.1/\nx<=r.2.2)
 (YX:∀N,aq nx M N->Cl nx N->∃v0 N0 hi,Q (v0,N0,hi)/\aq nx N N0/\nx<=hi/\Cl hi N0/\aO hi v0=true) :
 ∃(v:XV) (N:Hp) (hi:Nat),bN P ρ g args M nx ⟨v,aa7 nx,dH N nx hi⟩ hi/\Q (v,N,hi)/\aq nx M N/\nx<=hi/\Cl hi N/\aO hi v=true:=by
 have hN:=yC nx M;have hD:=(h _ hN).out;obtain⟨v0,N0,AW,q1,q2,q3,q4,q5⟩:=YX _ hN cF.sub;obtain⟨⟨v,N,hi⟩,⟨⟨g1,g2,g3⟩,g4,g5⟩,g6⟩:=hD.2 rfl ⟨(v0,N0,AW),⟨q1,q2,q3⟩,q4,q5⟩;simp only at g2 g3 g4 g5;refine⟨v,N,hi,⟨ha,xv cF _,fun k hk=>.inr (eI _ _ _ k hk),g3,?_⟩,g1,fun k hk=>(g2 k hk).trans (hN k hk),g3,g4,g5⟩;refine(ft.det g6).imp fun w σ r u w' _ _ hr hp=>⟨_,rfl,?_⟩
 subst hr;refine hp.less fun k o hk=>?_
 rw[bW]at hk;split at hk;·exact hk
 rw[<-hk];exact g2 k ((cF.sub k o hk).1)
def lg (M:Hp) (p:Nat->Prop) (r:aR) (cs:List XV):Prop :=
 ∃pc ve,cs=[.int .i64 r.kind,.int .u64 r.t,.int .u64 r.x,.int .u64 r.w,.int .u64 r.n,.int .u64 r.v]++pc++[ve]/\ji M p r.p pc/\dG M p ve 4 r.es.length (r.es.flatMap gq)
theorem lg.keep (hk:∀k,p k->gG M' k=gG M k/\q k) {r:aR} (h:lg M p r cs):lg M' q r cs:=by obtain⟨pc,ve,h1,h2,h3⟩:=h;exact⟨pc,ve,h1,h2.keep hk,h3.keep hk⟩
theorem lg.at {r:aR} (h:lg M p r cs) (hb:∀k,p k->k<b):eo M b r cs:=by obtain⟨pc,ve,h1,h2,h3⟩:=h;exact⟨pc,ve,h1,h2.at hb,h3.at hb⟩
theorem lg.len {r:aR} (h:lg M p r cs):cs.length=11:=by obtain⟨pc,ve,rfl,h2,_⟩:=h;simp[h2.len]
theorem lg.cells {r:aR} (h:lg M p r cs):∃pk pa pb pv ve,cs=[.int .i64 r.kind,.int .u64 r.t,.int .u64 r.x,.int .u64 r.w,.int .u64 r.n,.int .u64 r.v,.int .i64 pk,.int .u64 pa,.int .u64 pb,pv,ve]/\(cellsOf pv=[pv]/\ax pv=true)/\(cellsOf ve=[ve]/\ax ve=true):=by obtain⟨pc,ve,rfl,h2,h3⟩:=h;obtain⟨k,x,y,v,rfl,h4⟩:=h2.shape;exact⟨k,x,y,v,ve,rfl,h4,h3.cell⟩
def oK (M:Hp) (p:Nat->Prop) (v:XV) (L:List aR):Prop:=∃row,dG M p v 11 L.length row/\∀i r,L[i]?=some r->lg M p r ((row.drop (i*11)).take 11)
theorem oK.at {L:List aR} (h:oK M p v L) (hb:∀k,p k->k<b):cP M b v L:=by obtain⟨row,h1,h2⟩:=h;exact⟨row,h1.at hb,fun i r hi=>(h2 i r hi).at hb⟩
end
def uE:XV->List Nat->List Nat
 | .sl k _ _ _ _,r=>k::r
 | _,r=>r
def nA:XV->Nat->List XV->List (Nat×Option bx)
 | .sl k _ _ _ _,key,row=>[(k,none),(key,some (.row row))]
 | _,key,row=>[(key,some (.row row))]
section
variable {P:Program} {M N:Hp} {lo hi hi' sz n eb key t B:Nat} {v x:XV} {cs ys zs:List XV} {r:List Nat} {o:bx}
theorem K9 (h:dG M (fun q=>lo<=q/\q<hi) v sz n cs) (hN:∀q,lo<=q->q<hi->gG N q=gG M q) (hr:∀q,lo<=q->q<hi->q ∉ r) (h1:eb<=128) (h2:1<=sz) (h3:zs.length=sz) (h4:n+1<=fE) (h5:ys.all ax=true) :
 FS P N key t v x (some (sz,eb,zs)) (some (ys,1,r))=some ⟨.sl key sz 0 (n+1) (n+1),uE v r,nA v key (cs++ys)⟩:=by
 obtain⟨h6,h7,⟨rfl,rfl⟩ | ⟨k,rfl,⟨k1,k2⟩,h8⟩⟩:=h
 ·have:cs=[]:=aaG.1 aa
  subst this;exact pO t sz eb 0 zs ys r x h1 h2 h3 h4 h5
 have hl:db r k=false:=by
  cases hh:db r k with
  | false=>rfl
  | true=>exact(hr k k1 k2 ((eg _ _).1 hh)).elim
 rw[p0 t sz eb k n 1 zs ys r x h1 h2 h3 (u7 _) h4 h5,hN k k1 k2,h8];simp only[Pk,hl,aaL (acQ h7.symm),aaz (acQ h7)];rfl
theorem dG.push (h:dG M (fun q=>lo<=q/\q<hi) v sz n cs) (P:Program) (t eb:Nat) (zs ys:List XV) (h1:eb<=128) (h2:1<=sz) (h3:zs.length=sz) (h4:n+1<=fE) (h5:ys.all ax=true) :
 ∀(B:Nat) (o:bx) (key:Nat) (x:XV),hi<=B->FS P (aG M B o) key t v x (some (sz,eb,zs)) (some (ys,1,[B]))=some ⟨.sl key sz 0 (n+1) (n+1),uE v [B],nA v key (cs++ys)⟩:=fun B o key x hB =>
 K9 h (fun q _ hq=>by rw[ap,if_neg aa]) (fun q _ hq=>by simp only[aaE];omega) h1 h2 h3 h4 h5
theorem AD (v:XV) (key:Nat) (row:List XV) (H:Hp):gG (aY H (nA v key row)) key=some (.row row):=by
 unfold nA;split;·simp only[pg,yi,oX];rw[ap,if_pos rfl]
 simp only[pg,oX];rw[ap,if_pos rfl]
theorem dG.push_old (h:dG M (fun q=>lo<=q/\q<hi) v sz n cs) {row:List XV} (H:Hp) {q:Nat} (hq:q<lo\/hi<=q) (hk:q≠key):gG (aY H (nA v key row)) q=gG H q:=by
 obtain⟨_,_,⟨rfl,_⟩ | ⟨k,rfl,⟨k1,k2⟩,_⟩⟩:=h;·simp only[nA,pg,oX];rw[ap,if_neg (fun e=>hk e.symm)]
 simp only[nA,pg,yi,oX];rw[ap,if_neg (fun e=>hk e.symm),cV,if_neg aa]
theorem dG.pushed (h:dG M (fun q=>lo<=q/\q<hi) v sz n cs) (hl:lo<=key) (hk:key<hi') (hy:ys.length=sz) (hn:n+1<=9223372036854775807) :
 dG (aY H (nA v key (cs++ys))) (fun q=>lo<=q/\q<hi') (.sl key sz 0 (n+1) (n+1)) sz (n+1) (cs++ys) :=
 ⟨hn,by rw[aau,h.2.1,hy,ac9],.inr ⟨key,rfl,⟨hl,hk⟩,AD _ _ _ _⟩⟩
theorem dG.up (h:dG M (fun q=>lo<=q/\q<hi) v sz n cs) (hN:∀q,lo<=q->q<hi->gG N q=gG M q) (hh:hi<=hi'):dG N (fun q=>lo<=q/\q<hi') v sz n cs :=
 h.keep fun k hk=>⟨hN k hk.1 hk.2,hk.1,aax hk.2 hh⟩
theorem dG.nil (sz:Nat) (p:Nat->Prop):dG M p .nils sz 0 []:=⟨aa,af,.inl ⟨rfl,rfl⟩⟩
theorem Gx {w:XV} {r:List Nat} {l:jg} (h:r≠[]):dM i ⟨v,uE w r,us⟩ l=(i,uE w r,bM us)::l:=by
 obtain⟨a,t,e⟩:∃a t,uE w r=a::t:=by
  unfold uE;split;·exact⟨_,_,rfl⟩
  cases r with
  | nil=>exact(h rfl).elim
  | cons a t=>exact⟨a,t,rfl⟩
 unfold dM;simp only[e]
theorem Fo {w:XV} {r:List Nat} {l:jg}:dM i ⟨v,uE w (k::r),us⟩ l=(i,uE w (k::r),bM us)::l:=Gx af
theorem dG.pushP (h:dG M p v sz n cs) (hp:∀q,p q->q<hi) (P:Program) (t eb:Nat) (zs ys:List XV) (h1:eb<=128) (h2:1<=sz) (h3:zs.length=sz) (h4:n+1<=fE) (h5:ys.all ax=true) :
 ∀(B:Nat) (o:bx) (key:Nat) (x:XV),hi<=B->FS P (aG M B o) key t v x (some (sz,eb,zs)) (some (ys,1,[B]))=some ⟨.sl key sz 0 (n+1) (n+1),uE v [B],nA v key (cs++ys)⟩:=by
 intro B o key x hB;obtain⟨h6,h7,⟨rfl,rfl⟩ | ⟨k,rfl,hk,h8⟩⟩:=h
 ·have:cs=[]:=aaG.1 aa
  subst this;exact pO t sz eb 0 zs ys [B] x h1 h2 h3 h4 h5
 have hkB:=hp k hk;have hl:db [B] k=false:=by
  cases hh:db [B] k with
  | false=>rfl
  | true=>have:=(eg _ _).1 hh;simp only[aaE]at this;omega
 rw[p0 t sz eb k n 1 zs ys [B] x h1 h2 h3 (u7 _) h4 h5,ap,if_neg aa,h8];simp only[Pk,hl,aaL (acQ h7.symm),aaz (acQ h7)];rfl
theorem dG.push_oldP (h:dG M p v sz n cs) {row:List XV} (H:Hp) {q:Nat} (hq:¬ p q) (hk:q≠key):gG (aY H (nA v key row)) q=gG H q:=by
 obtain⟨_,_,⟨rfl,_⟩ | ⟨k,rfl,k1,_⟩⟩:=h;·simp only[nA,pg,oX];rw[ap,if_neg (fun e=>hk e.symm)]
 simp only[nA,pg,yi,oX];rw[ap,if_neg (fun e=>hk e.symm),cV,if_neg (fun e=>hq (by have e:k=q:=e;subst e;exact k1))]
theorem dG.pushedP {p':Nat->Prop} (h:dG M p v sz n cs) (hk:p' key) (hy:ys.length=sz) (hn:n+1<=9223372036854775807) :
 dG (aY H (nA v key (cs++ys))) p' (.sl key sz 0 (n+1) (n+1)) sz (n+1) (cs++ys) :=
 ⟨hn,by rw[aau,h.2.1,hy,ac9],.inr ⟨key,rfl,hk,AD _ _ _ _⟩⟩
end
def di {α:Type} (M:Hp) (lo hi:Nat) (v:XV) (sz:Nat) (enc:α->List XV) (l:List α):Prop:=dG M (fun q=>lo<=q/\q<hi) v sz l.length (l.flatMap enc)
def og {α:Type} (nx:Nat) (M:Hp) (sz:Nat) (enc:α->List XV) (l:List α) (r:ew):Prop:=di r.2.1 nx r.2.2 r.1 sz enc l/\aq nx M r.2.1/\nx<=r.2.2
section
variable {α β:Type} {M N:Hp} {lo hi hi' sz:Nat} {v:XV} {enc:α->List XV} {l:List α}
theorem di.at (h:di M lo hi v sz enc l) (hb:hi<=b):bE M b v sz l.length (l.flatMap enc):=dG.at h fun k hk=>aax hk.2 hb
theorem di.up (h:di M lo hi v sz enc l) (hN:∀q,lo<=q->q<hi->gG N q=gG M q) (hh:hi<=hi'):di N lo hi' v sz enc l:=dG.up h hN hh
theorem eT {f:α->List XV} (hf:∀a,(f a).length=sz):∀{l:List α} {i:Nat} {a:α},l[i]?=some a->((l.flatMap f).drop (i*sz)).take sz=f a
 | [],_,_,h=>by simp at h
 | x::l,0,a,h=>by simp only[aaI,aat]at h;subst h;rw[ad0,acm,aaN,take_left' (hf _)]
 | x::l,i+1,a,h=>by simp only[aa1]at h;rw[aaN,ac9,Nat.add_comm,<-abi,drop_left' (hf _)];exact eT hf h
theorem di.push (h:di M lo hi v sz enc l) (a:α) (P:Program) (t eb:Nat) (zs:List XV) (h1:eb<=128) (h2:1<=sz) (h3:zs.length=sz) (h4:l.length+1<=fE) (h5:(enc a).all ax=true) :
 ∀(B:Nat) (o:bx) (key:Nat) (x:XV),hi<=B->FS P (aG M B o) key t v x (some (sz,eb,zs)) (some (enc a,1,[B]))=some ⟨.sl key sz 0 (l.length+1) (l.length+1),uE v [B],nA v key (l.flatMap enc++enc a)⟩:=dG.push h P t eb zs (enc a) h1 h2 h3 h4 h5
theorem di.pushed (h:di M lo hi v sz enc l) (a:α) (hl:lo<=key) (hk:key<hi') (hy:(enc a).length=sz) (hn:l.length+1<=9223372036854775807) :
 di (aY H (nA v key (l.flatMap enc++enc a))) lo hi' (.sl key sz 0 (l.length+1) (l.length+1)) sz enc (l++[a]):=by
 have:=dG.pushed (H:=H) (ys:=enc a) h hl hk hy hn;unfold di;simpa using this
def gY {α:Type} (M:Hp) (p:Nat->Prop) (v:XV) (sz:Nat) (enc:α->List XV) (l:List α):Prop:=dG M p v sz l.length (l.flatMap enc)
theorem gY.push (h:gY M p v sz enc l) (hp:∀q,p q->q<hi) (a:α) (P:Program) (t eb:Nat) (zs:List XV) (h1:eb<=128) (h2:1<=sz) (h3:zs.length=sz) (h4:l.length+1<=fE) (h5:(enc a).all ax=true) :
 ∀(B:Nat) (o:bx) (key:Nat) (x:XV),hi<=B->FS P (aG M B o) key t v x (some (sz,eb,zs)) (some (enc a,1,[B]))=some ⟨.sl key sz 0 (l.length+1) (l.length+1),uE v [B],nA v key (l.flatMap enc++enc a)⟩:=dG.pushP h hp P t eb zs (enc a) h1 h2 h3 h4 h5
theorem gY.pushed {p':Nat->Prop} (h:gY M p v sz enc l) (a:α) (hk:p' key) (hy:(enc a).length=sz) (hn:l.length+1<=9223372036854775807) :
 gY (aY H (nA v key (l.flatMap enc++enc a))) p' (.sl key sz 0 (l.length+1) (l.length+1)) sz enc (l++[a]):=by
 have:=dG.pushedP (H:=H) (ys:=enc a) (p':=p') h hk hy hn;unfold gY;simpa using this
theorem gY.keep (h:gY M p v sz enc l) (hk:∀k,p k->gG N k=gG M k/\q k):gY N q v sz enc l:=dG.keep h hk
theorem gY.cell (h:gY M p v sz enc l):cellsOf v=[v]/\ax v=true:=dG.cell h
theorem di.lp (h:di M lo hi v sz enc l):gY M (fun q=>lo<=q/\q<hi) v sz enc l:=h
def gV (f:Nat->α->Option β):List α->Nat->List β
 | [],_=>[]
 | a::l,i=>match f i a with
   | some b=>b::gV f l (i+1)
   | none=>gV f l (i+1)
theorem tO (f:Nat->α->Option β) (a:α):∀(l:List α) (i:Nat),gV f (l++[a]) i=gV f l i++(f (i+l.length) a).toList
 | [],i=>by simp only[abp,gV,aaO,aaX];cases f i a<;>rfl
 | x::l,i=>by simp only[aa8,gV,tO f a l (i+1),aaw];rw[show i+1+l.length=i+(l.length+1) by omega];cases f i x<;>rfl
theorem iM (f:Nat->α->Option β) {l:List α} {a:α} (h:l[i]?=some a):gV f (l.take (i+1)) 0=gV f (l.take i) 0++(f i a).toList:=by have hi:=(aaq.1 h).1;rw[take_add_one,h];simp only[toList_some];rw[tO,aaU,aaS,Nat.min_eq_left aa]
theorem dS (f:Nat->α->Option β):∀(l:List α) (i:Nat),(gV f l i).length<=l.length
 | [],_=>by simp[gV]
 | a::l,i=>by
   have:=dS f l (i+1);simp only[gV,aaw];split;·simp only[aaw];omega
   omega
theorem iy (f:Nat->α->Option β) {b:β}:∀{l:List α} {i:Nat},b ∈ gV f l i ↔ ∃k a,l[k]?=some a/\f (i+k) a=some b
 | [],i=>by simp[gV]
 | a::l,i=>by
   have ih:=iy f (b:=b) (l:=l) (i:=i+1);constructor
   ·intro h
    simp only[gV]at h;split at h
    ·rename_i c hc
     rcases aaK.1 h with rfl | h
     ·exact⟨0,a,rfl,hc⟩
     obtain⟨k,x,h1,h2⟩:=ih.1 h;exact⟨k+1,x,h1,by rw[<-h2];congr 1;omega⟩
    obtain⟨k,x,h1,h2⟩:=ih.1 h;exact⟨k+1,x,h1,by rw[<-h2];congr 1;omega⟩
   rintro⟨k,x,h1,h2⟩;cases k with
   | zero =>
     simp only[aaI,aat]at h1;subst h1;simp only[gV];rw[show f i a=some b from h2];exact aaC
   | succ k =>
     have h1:l[k]?=some x:=by simpa using h1
     have:=ih.2 ⟨k,x,h1,by rw[<-h2];congr 1;omega⟩;simp only[gV];split;·exact aaJ _ this
     exact this
end
section
open Go.Proofs
theorem f87:∀(sz:Nat) (ρ:aK) (e:Ex) (M:Hp) (nx b:Nat) (cs:List XV),dV e<sz->bG M b e cs->b<=nx->dV e<=100000->ar an ρ 87 [.agg cs] M nx fun r=>kO nx e r/\aq nx M r.2.1/\nx<=r.2.2:=by
 intro sz
 induction sz with
 | zero=>intro ρ e M nx b cs h;omega
 | succ sz ih =>
 intro ρ e M nx b cs cJ he hb ip;refine ar.closed fun cF aX=>?_
 obtain⟨k,x,y,ps⟩:=e;simp only[bG]at he;obtain⟨v,row,rfl,cw,jd⟩:=he;have hv:=cw.cell;have Us:aO nx v=true:=by
  simp only[aE,aO]at aX;split at aX
  ·rename_i q;split at q
   ·rename_i q2;exact q2
   cases q
  cases aX
 have D5:ps.length<=100000:=by have:=lz ps;simp only[dV]at ip;omega
 have ay:=fun N=>cw.len (P:=an) (t:=42) gZ.2.2.2.2.2 N
 refine ar.wk 31 [.cell 2 111] Tryz.func87 ?_;refine Ao EV hv.1 hv.2 ?_;refine aC (fun m' s=>∃(i K:Nat) (vv:XV) (rw:List XV),i<=ps.length/\m'=ps.length - i/\gG s.env 1=some (.mp nx 0)/\gG s.env 2=some (.mp (nx+1) 0)/\gG s.env 3=some (.mp (nx+9) 0)/\gG s.env 4=some (.int .i64 i) /\
  gG s.M nx=some (.row [.int .i64 k,.int .u64 x,.int .u64 y,v])/\gG s.M (nx+1)=some (.row [.int .i64 0,.int .u64 0,.int .u64 0,.nils])/\gG s.M (nx+9)=some (.row [.int .i64 k,.int .u64 x,.int .u64 y,vv])/\rw.length=i*4/\(vv = .nils/\i=0\/0<i/\vv = .sl K 4 0 i i/\gG s.M K=some (.row rw))/\nx+9<K/\K<s.nx /\
  (∀j e,j<i->ps[j]?=some e->ji s.M (fun q=>nx+9<q/\q<K) e ((rw.drop (j*4)).take 4))/\aq nx M s.M/\nx+12<=s.nx/\Cl s.nx s.M) ps.length ⟨0,nx+10,.nils,[],aa,aa,?_⟩ ?_
 ·refine bR EV ?_
  refine⟨.inl trivial,aa,aa,fun j e h=>absurd h (not_lt_zero _),O,aa,?_⟩;refine((((cF.le (show nx<=nx+12 by omega)).set aa ?_).set aa rfl).set aa rfl).set aa rfl;simp only[cp,aE,aO];rw[aO.le aa Us]
 rintro m' ⟨env,M',nx'⟩ ⟨i,K,vv,rw',hi,ir,e1,e2,e3,e4,z0,z1,z9,je,vi,Gg,Gh,fF,ha,hn,jZ⟩;simp only at e1 e2 e3 e4 z0 z1 z9 vi Gh fF ha hn jZ;have MI:cellsOf vv=[vv]/\ax vv=true:=by rcases vi with ⟨rfl,_⟩ | ⟨_,rfl,_⟩<;>exact⟨rfl,rfl⟩
 by_cases aL:(i:Int)<ps.length
 ·have aP:i<ps.length:=aa
  obtain⟨c,hc⟩:=aao aP;have bV:=eF i;obtain⟨n,o,jw,bC,aU⟩:=cw.elem (P:=an) aP (t:=42) (t':=44) gZ.2.2.2.1 fu.1;have aU:=aU M' (ha.le hb);have hE:=cj.get jd hc;have NL:=hE;obtain⟨k',x',y',ps'⟩:=c;simp only[bG]at NL;obtain⟨v',row',dI,ox,_⟩:=NL;rw[dI]at aU hE;have oP:=ox.cell;have CI:aO nx' v'=true:=by refine aO.le aa (cw.kltRow cF v' ?_);refine acX (i:=i*4) (acN (i:=4) ?_);rw[dI];simp
  have Bh:dV (.mk k' x' y' ps')<sz/\dV (.mk k' x' y' ps')<=100000:=by have:=fb (aaH hc);simp only[dV]at cJ ip this ⊢;omega
  refine ii EV e1 e2 e3 e4 ay aL bC aU oP.1 oP.2 (aI z0 z9) ?_;have TZ:∀N,aq (nx'+12) M' N->bG N b (.mk k' x' y' ps') [.int .i64 k',.int .u64 x',.int .u64 y',v']:=fun N hN=>hE.agr ((ha.trans (hN.le aa)).le hb)
  obtain⟨v1,N,bD,hC,⟨TR,qx,sP⟩,Mj,jT,lH,mN⟩:=bN.made' (P:=an) (ρ:=ρ) (g:=87) (args:=[.agg [.int .i64 k',.int .u64 x',.int .u64 y',v']]) (M:=M') (nx:=nx'+12) (Q:=kO (nx'+12) (.mk k' x' y' ps')) (jZ.le aa)
   (by simp only[aE,aO];rw[aO.le aa CI]) (fun N hN=>ih { ρ with det:=true } _ N (nx'+12) b _ Bh.1 (TZ N hN) aa Bh.2)
   (fun N _ hN=>kO.ex Bh.2 hN)
  simp only at qx sP;subst qx;obtain⟨k1,x1,y1,w1,rfl,qC⟩:=sP.shape;have dz:∀q,q<nx'+12->gG (aY M' (dH N (nx'+12) bD)) q=gG M' q:=fun q hq=>by rw[bW,if_neg aa]
  have mO:∀q,q<bD->gG (aY M' (dH N (nx'+12) bD)) q=gG N q:=fun q hq=>by
   by_cases h:nx'+12<=q;·rw[bW,if_pos ⟨h,hq⟩]
   rw[dz q aa,Mj q aa]
  have iO:=eI N (nx'+12) bD;have uR:Cl bD (aY M' (dH N (nx'+12) bD)):=fun q o ho=>by
   by_cases h:q<bD
   ·rw[mO q h]at ho
    exact lH q o ho
   rw[bW,if_neg aa]at ho;exact jZ.le aa q o ho
  refine aT hC aj ?_;have q0:=(dz nx aa).trans z0;have q1:=(dz (nx+1) aa).trans z1;have q9:=(dz (nx+9) aa).trans z9;have AZ:aO bD w1=true:=by
   simp only[aO,aE]at mN;split at mN;·assumption
   cases mN
  have MB:aE bD [.int .i64 k1,.int .u64 x1,.int .u64 y1,w1]=true:=by simp only[aE,aO,AZ]
  have CC:ji (aY M' (dH N (nx'+12) bD)) (fun q=>nx'+12<=q/\q<bD) (.mk k' x' y' ps') [.int .i64 k1,.int .u64 x1,.int .u64 y1,w1]:=sP.keep fun q hq=>by obtain⟨r1,r2⟩:nx'+12<=q/\q<bD:=hq;exact⟨mO q r2,r1,r2⟩
  have QE:∀j e,j<i->ps[j]?=some e->ji (aY M' (dH N (nx'+12) bD)) (fun q=>nx+9<q/\q<K) e ((rw'.drop (j*4)).take 4):=fun j e hj he=>(fF j e hj he).keep fun q hq=>by obtain⟨r1,r2⟩:nx+9<q/\q<K:=hq;exact⟨dz q aa,r1,r2⟩
  have Mp:aq nx M (aY M' (dH N (nx'+12) bD)):=fun q hq=>(dz q aa).trans (ha q hq)
  have R4:∀q,nx'+12<=q->q<bD->gG (aY M' (dH N (nx'+12) bD)) q=gG N q:=fun q _ h=>mO q h
  clear cF aX ih jd cw hE TZ ay bC aU hC;rcases vi with ⟨rfl,rfl⟩ | ⟨AW,rfl,hK⟩
  ·have mP:rw'=[]:=aaG.1 aa
   subst mP;have xj:abc (bD+1) (bD+7)=true:=by rw[abD];omega
   have MJ:IntKind.i64.wrap (0+1)=((1:Nat):Int):=aj;refine dp EV q9 qC.1 qC.2 @aA MJ e1 e2 e3 e4 ?_;refine⟨⟨bn _ _ _ _ _ _ (fun q hq=>by simp only[aaE]at hq ⊢;omega) (fun q hq=>af) (fun q hq=>by simp at hq),bn _ _ _ _ _ _ (fun q hq=>by have:=iO q hq;simp only[aaE];omega) (fun q hq=>af) (fun q hq=>by simp at hq)⟩,
    ps.length - 1,aa,1,bD+1,_,[.int .i64 k1,.int .u64 x1,.int .u64 y1,w1],aa,rfl,rfl,q0,q1,rfl,rfl,.inr ⟨aa,rfl,by rw[if_neg (by simp only[aw];omega),if_pos (show aw _ _ from rfl)]⟩,aa,aa,fun j e hj he=>?_,(by(repeat (refine aq.set ?_ aa _));exact Mp),aa,?_⟩
   ·have:j=0:=aa
    subst this;rw[hc]at he;cases he;refine CC.keep fun q hq=>?_
    obtain⟨r1,r2⟩:nx'+12<=q/\q<bD:=hq;exact⟨J,aa,aa⟩
   exact(((uR.le aa).set aa (by simp only[cp];exact aE.le aa MB)).set aa (by simp only[cp];exact aE.le aa MB)).set aa (by simp only[cp,aE,aO,xj])
  have qK:=(dz K aa).trans hK;have xj:abc (bD+1) (bD+7)=true:=by rw[abD];omega
  have kB:rw'.take (i*4)=rw':=aaz aa;have QQ:aE bD rw'=true:=by have:=(uR _ _ qK).2;simpa only [cp] using this
  refine ii EV q9 qK je kB qC.1 qC.2 @aA bV e1 e2 (aI e3 e4) ?_;refine⟨⟨bn _ _ _ _ _ _ (fun q hq=>by simp only[aaE]at hq ⊢;omega) (fun q hq=>af) (fun q hq=>by simp at hq),bn _ _ _ _ _ _ (fun q hq=>by have:=iO q hq;simp only[aaE];omega) (fun q hq=>af) (fun q hq=>by simp at hq)⟩,
   ps.length - (i+1),aa,i+1,bD+1,_,rw'++[.int .i64 k1,.int .u64 x1,.int .u64 y1,w1],aa,rfl,rfl,q0,q1,rfl,by rw[aau,je];simp only[aaw,aaO];omega,.inr ⟨aa,rfl,by rw[if_neg (by simp only[aw];omega),if_pos (show aw _ _ from rfl)]⟩,aa,aa,fun j e hj he=>?_,fun q hq=>(by have:=Mp q hq;exact J),aa,?_⟩
  ·rw[mf je rfl hj]
   split
   ·rename_i kX
    refine(QE j e kX he).keep fun q hq=>?_
    obtain⟨r1,r2⟩:nx+9<q/\q<K:=hq;exact⟨J,r1,aa⟩
   have:j=i:=aa;subst this;rw[hc]at he;cases he;refine CC.keep fun q hq=>?_
   obtain⟨r1,r2⟩:nx'+12<=q/\q<bD:=hq;exact⟨J,aa,aa⟩
  exact((((uR.le aa).set aa (by simp only[cp];exact aE.le aa MB)).del).set aa (by simp only[cp];exact jA (aE.le aa QQ) (aE.le aa MB))).set aa (by simp only[cp,aE,aO,xj])
 have gB:i=ps.length:=aa;refine ii EV e1 e2 e3 e4 ay aL z0 z1 z9 MI.1 MI.2 ?_;refine⟨⟨_,rfl,?_⟩,(by(repeat (refine aq.set ?_ aa _));exact ha),aa⟩;simp only[ji];refine⟨vv,rw',rfl,⟨aa,by rw[je,gB],?_⟩,eO.of fun j e he=>?_⟩
 ·rcases vi with ⟨rfl,h0⟩ | ⟨h0,rfl,hK⟩
  ·exact .inl ⟨rfl,aa⟩
  exact .inr ⟨K,by rw[gB],show nx<=K/\K<nx'+7 by omega,J⟩
 refine(fF j e (by have:=(aaq.1 he).1;omega) he).keep fun q hq=>?_
 obtain⟨r1,r2⟩:nx+9<q/\q<K:=hq;exact⟨J,aa,aa⟩
theorem eo.cells {r:aR} (h:eo M b r cs):∃pk pa pb pv ve,cs=[.int .i64 r.kind,.int .u64 r.t,.int .u64 r.x,.int .u64 r.w,.int .u64 r.n,.int .u64 r.v,.int .i64 pk,.int .u64 pa,.int .u64 pb,pv,ve] /\
 (cellsOf pv=[pv]/\ax pv=true)/\(cellsOf ve=[ve]/\ax ve=true)/\jm M b ve r.es/\bG M b r.p [.int .i64 pk,.int .u64 pa,.int .u64 pb,pv]:=by
 obtain⟨kind,t,x,w,n,vv,p,es⟩:=r;obtain⟨pc,ve,rfl,he,dZ⟩:=h;have sx:=he;obtain⟨pk,pa,pb,ps⟩:=p;simp only[bG]at sx;obtain⟨v,row,rfl,cw,jd⟩:=sx;exact⟨pk,pa,pb,v,ve,rfl,cw.cell,bE.cell dZ,dZ,he⟩
theorem f164 (ρ:aK) {r:aR} {m:XV} (hr:eo M b r cs):ar an ρ 164 [m,.agg cs] M nx (fe nx M (.bool (decide (1<=r.kind)&&decide (r.kind<=7)))):=by
 obtain⟨pk,pa,pb,pv,ve,rfl,⟨p1,p2⟩,⟨q1,q2⟩,_,_⟩:=hr.cells;refine ar.wk 13 [.tmp 4] Tryz.func164 ?_;by_cases c1:1<=r.kind
 ·refine ky oU p1 p2 q1 q2 c1 @fe.eq_1 ?_
  exact⟨(aq.refl _ _).set (u7 _) _,aa⟩
 refine ky oU p1 p2 q1 q2 c1 @fe.eq_1 ?_;exact⟨af,(aq.refl _ _).set (u7 _) _,aa⟩
theorem f166 (ρ:aK) {r:aR} {m:XV} (hr:eo M b r cs):ar an ρ 166 [m,.agg cs] M nx (fe nx M (.bool (!(decide (r.t=0))))):=by obtain⟨pk,pa,pb,pv,ve,rfl,⟨p1,p2⟩,⟨q1,q2⟩,_,_⟩:=hr.cells;refine ar.wk 8 [.tmp 4] Tryz.func166 ?_;refine ul oU p1 p2 q1 q2 @fe.eq_1 ?_;exact⟨(aq.refl _ _).set (u7 _) _,aa⟩
def Sp (M:Hp) (b:Nat) (v:XV) (l:List (Nat×Int×Bool)):Prop:=(v = .nilm/\l=[])\/∃em c,v = .mm em/\em<b/\gG M em=some (.map (cx vB l) c)
def L5 (M:Hp) (b m:Nat) (l:List (Nat×Int×Bool)):Prop:=m<b/\∃c0 c1 c2 c3 v,gG M m=some (.row [c0,c1,c2,c3,v])/\Sp M b v l
theorem f169 (ρ:aK) {r:aR} {l:List (Nat×Int×Bool)} (hr:eo M b r cs) (hm:L5 M b m l) (hb:b<=nx):ar an ρ 169 [.mp m 0,.agg cs] M nx (fe nx M (.bool (!((aH l r.t).getD false)))):=by
 obtain⟨pk,pa,pb,pv,ve,rfl,⟨p1,p2⟩,⟨q1,q2⟩,_,_⟩:=hr.cells;obtain⟨VI,c0,c1,c2,c3,v,hM,⟨rfl,rfl⟩ | ⟨em,c,rfl,hem,hE⟩⟩:=hm
 ·refine ar.wk 13 [.tmp 4] Tryz.func169 ?_
  refine wT FL p1 p2 q1 q2 hM @fe.eq_1 @aH.eq_1 @aH.eq_2 ?_;exact⟨(aq.refl _ _).set (u7 _) _,aa⟩
 refine ar.wk 13 [.tmp 4] Tryz.func169 ?_;refine oq FL p1 p2 q1 q2 hM hE @fe.eq_1 ?_;exact⟨(aq.refl _ _).set (u7 _) _,aa⟩
theorem f167 (ρ:aK) {r:aR} {l:List (Nat×Int×Bool)} (hr:eo M b r cs) (hm:L5 M b m l) (hb:b<=nx):ar an ρ 167 [.mp m 0,.agg cs] M nx (fe nx M (.bool (!(decide (r.kind=1)) || !(aH l r.t).isSome))):=by
 obtain⟨pk,pa,pb,pv,ve,rfl,⟨p1,p2⟩,⟨q1,q2⟩,_,_⟩:=hr.cells;obtain⟨VI,c0,c1,c2,c3,v,hM,⟨rfl,rfl⟩ | ⟨em,c,rfl,hem,hE⟩⟩:=hm
 all_goals by_cases k1:r.kind=1
 ·refine ar.wk 24 [.tmp 4] ade ?_
  refine rf FL p1 p2 q1 q2 hM k1 @fe.eq_1 @aH.eq_1 @aH.eq_2 ?_;exact⟨rfl,(aq.refl _ _).set (u7 _) _,aa⟩
 ·refine ar.wk 24 [.tmp 4] ade ?_
  refine rf FL p1 p2 q1 q2 hM k1 @fe.eq_1 @aH.eq_1 @aH.eq_2 ?_;exact⟨rfl,(aq.refl _ _).set (u7 _) _,aa⟩
 ·refine ar.wk 24 [.tmp 4] ade ?_
  refine wT FL p1 p2 q1 q2 hM hE k1 @fe.eq_1 ?_;exact⟨af,(aq.refl _ _).set (u7 _) _,aa⟩
 refine ar.wk 24 [.tmp 4] ade ?_;refine wT FL p1 p2 q1 q2 hM hE k1 @fe.eq_1 ?_;exact⟨af,(aq.refl _ _).set (u7 _) _,aa⟩
theorem f168 (ρ:aK) {r:aR} {l:List (Nat×Int×Bool)} (hr:eo M b r cs) (hm:L5 M b m l) (hb:b<=nx):ar an ρ 168 [.mp m 0,.agg cs] M nx (fe nx M (.bool (decide (r.kind=1)||(aH l r.t).isSome))):=by
 obtain⟨pk,pa,pb,pv,ve,rfl,⟨p1,p2⟩,⟨q1,q2⟩,_,_⟩:=hr.cells;obtain⟨VI,c0,c1,c2,c3,v,hM,⟨rfl,rfl⟩ | ⟨em,c,rfl,hem,hE⟩⟩:=hm
 all_goals by_cases k1:r.kind=1
 ·refine ar.wk 23 [.tmp 4] adc ?_
  refine rf Kj p1 p2 q1 q2 hM k1 @fe.eq_1 @aH.eq_1 @aH.eq_2 ?_;exact⟨rfl,(aq.refl _ _).set (u7 _) _,aa⟩
 ·refine ar.wk 23 [.tmp 4] adc ?_
  refine rf Kj p1 p2 q1 q2 hM k1 @fe.eq_1 @aH.eq_1 @aH.eq_2 ?_;exact⟨rfl,(aq.refl _ _).set (u7 _) _,aa⟩
 ·refine ar.wk 23 [.tmp 4] adc ?_
  refine wT Kj p1 p2 q1 q2 hM hE k1 @fe.eq_1 ?_;exact⟨af,(aq.refl _ _).set (u7 _) _,aa⟩
 refine ar.wk 23 [.tmp 4] adc ?_;refine wT Kj p1 p2 q1 q2 hM hE k1 @fe.eq_1 ?_;exact⟨af,(aq.refl _ _).set (u7 _) _,aa⟩
theorem re:∀(es:List En),(es.flatMap gq).all ax=true
 | []=>rfl
 | e::es=>by rw[aaN,all_append,re es];rfl
theorem dm.shape {e:Ex} (h:dm M p e cs):∃k x y v,cs=[.int .i64 k,.int .u64 x,.int .u64 y,v]/\cellsOf v=[v]/\ax v=true:=by obtain⟨k,x,y,ps⟩:=e;simp only[dm]at h;obtain⟨v,row,rfl,h2,_⟩:=h;exact⟨k,x,y,v,rfl,h2.cell⟩
def eL (M:Hp) (p:Nat->Prop) (r:aR) (cs:List XV):Prop :=
 ∃pc ve,cs=[.int .i64 r.kind,.int .u64 r.t,.int .u64 r.x,.int .u64 r.w,.int .u64 r.n,.int .u64 r.v]++pc++[ve]/\dm M p r.p pc/\dN M p ve 4 r.es.length (r.es.flatMap gq)
theorem eL.keep {r:aR} (h:eL M p r cs) (hk:∀k,p k->gG M' k=gG M k/\q k):eL M' q r cs:=by obtain⟨pc,ve,h1,h2,h3⟩:=h;exact⟨pc,ve,h1,h2.keep hk,h3.keep hk⟩
theorem eo.pp {r:aR}:eo M b r cs ↔ eL M (· < b) r cs:=by unfold eo eL jm;exact⟨fun⟨pc,ve,h1,h2,h3⟩=>⟨pc,ve,h1,bG.pp.1 h2,h3⟩,fun⟨pc,ve,h1,h2,h3⟩=>⟨pc,ve,h1,bG.pp.2 h2,h3⟩⟩
theorem eL.lt {r:aR} (h:eL M p r cs) (hp:∀k,p k->k<b):eo M b r cs:=eo.pp.2 (h.keep fun k hk=>⟨rfl,hp k hk⟩)
theorem Tv (ρ:aK) {r:aR} (hr:eo M b r cs) (hb:b<=nx) (hc:dV r.p<=100000) (he:r.es.length<=100000):ar an ρ 29 [.agg cs] M nx fun o=>(∃cs',o.1 = .agg cs'/\eL o.2.1 (PK b nx o.2.2) r cs')/\aq nx M o.2.1/\nx<=o.2.2:=by
 refine ar.closed fun cF aX=>?_
 obtain⟨pk,pa,pb,pv,ve,rfl,⟨p1,p2⟩,⟨q1,q2⟩,dZ,hp⟩:=hr.cells;unfold jm at dZ;simp only[aE]at aX;have px:aE nx [.int .i64 r.kind,.int .u64 r.t,.int .u64 r.x,.int .u64 r.w,.int .u64 r.n,.int .u64 r.v,.int .i64 pk,.int .u64 pa,.int .u64 pb,pv,ve]=true:=by
  cases hh:aE nx [.int .i64 r.kind,.int .u64 r.t,.int .u64 r.x,.int .u64 r.w,.int .u64 r.n,.int .u64 r.v,.int .i64 pk,.int .u64 pa,.int .u64 pb,pv,ve] with
  | true=>rfl
  | false=>simp only[aO,hh]at aX;cases aX
 have vh:aO nx pv=true:=cq px af;have F0:aO nx ve=true:=cq px af;refine ar.wk 12 [.cell 2 47] Tryz.func29 ?_;refine lO oU p1 p2 q1 q2 ?_;generalize xu:aG (aG M _ _) _ _=M1;have a1:aq nx M M1:=by rw[<-xu];exact O
 have m1:gG M1 nx=some (.row [.int .i64 r.kind,.int .u64 r.t,.int .u64 r.x,.int .u64 r.w,.int .u64 r.n,.int .u64 r.v,.int .i64 pk,.int .u64 pa,.int .u64 pb,pv,ve]):=by rw[<-xu];exact J
 have m2:gG M1 (nx+1)=some (.row [.int .i64 0,.int .u64 0,.int .u64 0,.int .u64 0,.int .u64 0,.int .u64 0,.int .i64 0,.int .u64 0,.int .u64 0,.nils,.nils]):=by rw[<-xu];exact J
 have sR:Cl (nx+2) M1:=by rw[<-xu];exact((cF.le aa).set aa (by simp only[cp];exact aE.le aa px)).set aa rfl
 clear xu;obtain⟨v1,N1,h1,hC1,⟨TR,qx,sP⟩,NK,Uv,Uf,mN⟩:=bN.made (P:=an) (ρ:=ρ) (g:=65) (args:=[.agg [.int .i64 pk,.int .u64 pa,.int .u64 pb,pv]]) (M:=M1) (nx:=nx+4) (Q:=Cc b (nx+4) r.p) (sR.le aa)
  (by simp only[aE,aO];rw[aO.le aa vh]) (fun N hN=>f65 _ { ρ with det:=true } r.p N (nx+4) b _ (aby _) (hp.agr ((a1.trans (hN.le aa)).le hb)) aa hc)
  (.agg [.int .i64 pk,.int .u64 pa,.int .u64 pb,pv]) (by simp only[aO,aE];rw[aO.le aa vh])
  (fun N hN=>⟨_,rfl,(bG.pp.1 (hp.agr ((a1.trans (hN.le aa)).le hb))).keep fun q hq=>⟨rfl,show (q<b\/nx+4<=q)/\q<nx+4 from ⟨.inl hq,by have:q<b:=hq;omega⟩⟩⟩)
 simp only at qx sP;subst qx;obtain⟨k1,x1,y1,w1,rfl,w1c,w1p⟩:=sP.shape;have QO:=eI N1 (nx+4) h1;have Oa:∀q,q<nx+4->gG (aY M1 (dH N1 (nx+4) h1)) q=gG M1 q:=fun q hq=>by rw[bW,if_neg aa]
 have z1:=(Oa nx aa).trans m1;refine aT hC1 aj ?_;refine gk oU z1 @aA ?_;have Mi:aq (nx+4) M1 (aY M1 (dH N1 (nx+4) h1)):=Oa;have AV:Cl h1 (aY M1 (dH N1 (nx+4) h1)):=fun q o ho=>by
  rw[bW]at ho;split at ho;·exact Uf q o ho
  exact sR.le aa q o ho
 have TY:dm (aY M1 (dH N1 (nx+4) h1)) (PK b (nx+4) h1) r.p [.int .i64 k1,.int .u64 x1,.int .u64 y1,w1]:=sP.keep fun q hq=>by
  refine⟨?_,hq⟩;obtain⟨r1,r2⟩:(q<b\/nx+4<=q)/\q<h1:=hq;rw[bW];split;·rfl
  exact(NK q aa).symm
 generalize aW:aY M1 (dH N1 (nx+4) h1)=M2 at Mi AV TY z1;have Mx:bE M2 b ve 4 r.es.length (r.es.flatMap gq):=dZ.agr ((a1.trans (Mi.le aa)).le hb);have z2:=(Mi (nx+1) aa).trans m2;obtain⟨v2,N2,h2,hC2,YY,Qs,hle2,hclN2,hkv2⟩:=bN.made (P:=an) (ρ:=ρ) (g:=66) (args:=[ve]) (M:=M2) (nx:=h1+2) (Q:=fun o=>dN o.2.1 (PK b (h1+2) o.2.2) o.1 4 r.es.length (r.es.flatMap gq)) (AV.le aa)
  (by simp only[aE];rw[aO.le aa F0]) (fun N hN=>(f66 { ρ with det:=true } (Mx.agr (hN.le aa)) aa he (re _)).mono fun o ho=>by
    obtain⟨o1,o2,o3⟩:=ho;refine⟨?_,o1,o2⟩;have je:=dZ.row_len;rcases o3 with ⟨e1,e2⟩ | ⟨_,K,e1,e2,e3,e4⟩
    ·rw[e2]
     subst e1;rcases dZ.2 with ⟨_,g1,g2⟩ | ⟨_,_,_,_,g1,_⟩
     ·exact⟨dZ.1,.inl ⟨rfl,g1,g2⟩⟩
     cases g1
    rw[e1];exact⟨dZ.1,.inr ⟨K,0,r.es.length,_,rfl,⟨.inr e2,e3⟩,by unfold vR;rw[e4],aa,by rw[acm,aaz aa]⟩⟩)
  ve (aO.le aa F0) (fun N hN=>(Mx.agr (hN.le aa)).pp.keep fun q hq=>⟨rfl,show (q<b\/h1+2<=q)/\q<h1+2 from ⟨.inl hq,by have:q<b:=hq;omega⟩⟩)
 simp only at YY;have sW:=YY.cell;have ZD:=eI N2 (h1+2) h2;have D6:∀q,q<h1+2->gG (aY M2 (dH N2 (h1+2) h2)) q=gG M2 q:=fun q hq=>by rw[bW,if_neg aa]
 have z3:=(D6 nx aa).trans z1;have z4:=(D6 (nx+1) aa).trans z2;refine aT hC2 aj ?_;refine oq oU z3 z4 @aA sW.1 sW.2 w1c w1p ?_;refine⟨bn _ _ _ _ _ _ (fun q hq=>by simp at hq) (fun q hq=>by simp at hq) (fun q hq=>by have:=QO q hq;simp only[aaE];omega),⟨_,rfl,[.int .i64 k1,.int .u64 x1,.int .u64 y1,w1],v2,rfl,?_,?_⟩,fun q hq=>?_,aa⟩
 ·refine TY.keep fun q hq=>?_
  obtain⟨r1,r2⟩:(q<b\/nx+4<=q)/\q<h1:=hq;refine⟨?_,show (q<b\/nx<=q)/\q<h2+6 by omega⟩;have:=D6 q aa;exact J
 ·refine YY.keep fun q hq=>?_
  obtain⟨r1,r2⟩:(q<b\/h1+2<=q)/\q<h2:=hq;refine⟨?_,show (q<b\/nx<=q)/\q<h2+6 by omega⟩;have e:gG (aY M2 (dH N2 (h1+2) h2)) q=gG N2 q:=by
   rw[bW];split;·rfl
   exact(Qs q aa).symm
  exact J
 have e:gG (aY M2 (dH N2 (h1+2) h2)) q=gG M q:=((D6 q aa).trans (Mi q aa)).trans (a1 q hq);exact J
theorem f86 (ρ:aK) (w n:Int) (M:Hp) (nx:Nat):ar an ρ 86 [.agg [.int .u64 w,.int .u64 n]] M nx (fe nx M (.agg [.int .u64 w,.int .u64 n])):=by refine ar.wk 8 [.cell 2 108] Tryz.func86 ?_;refine mI Wx @fe.eq_1 ?_;exact⟨O,aa⟩
def Tz (nx:Nat) (r:aR) (o:ew):Prop:=∃cs,o.1 = .agg cs/\lg o.2.1 (fun k=>nx<=k/\k<o.2.2) r cs
def KE (nx:Nat) (L:List aR) (o:ew):Prop:=oK o.2.1 (fun k=>nx<=k/\k<o.2.2) o.1 L
structure bO where
 w:Int
 n:Int
 wr:Int
 en:Int
def aV (e:bO):List XV:=[.int .u64 e.w,.int .u64 e.n,.int .i64 e.wr,.int .i64 e.en]
def kn (M:Hp) (b:Nat) (v:XV) (l:List bO):Prop:=∃rk sv,v = .mp rk 0/\rk<b/\gG M rk=some (.row [sv])/\bE M b sv 4 l.length (l.flatMap aV)
theorem kn.agr {l:List bO} (h:kn M b v l) (ha:aq b M M'):kn M' b v l:=by obtain⟨rk,sv,h1,h2,h3,h4⟩:=h;exact⟨rk,sv,h1,h2,(ha rk h2).trans h3,h4.agr ha⟩
def ey (M:Hp) (b o:Nat) (f:Int->Option (List bO)):Prop :=
 o<b/\∃rm c l,gG M o=some (.row [.mm rm])/\rm<b/\gG M rm=some (.map (cx vX l) c)/\(∀x,aH l x=none->f x=none)/\∀x v,aH l x=some v->∃ins,f x=some ins/\kn M b v ins
theorem ey.agr {o:Nat} {f:Int->Option (List bO)} (h:ey M b o f) (ha:aq b M M'):ey M' b o f:=by obtain⟨ho,rm,c,l,h1,h2,h3,h4,h5⟩:=h;exact⟨ho,rm,c,l,(ha o ho).trans h1,h2,(ha rm h2).trans h3,h4,fun x v hx=>by obtain⟨ins,h6,h7⟩:=h5 x v hx;exact⟨ins,h6,h7.agr ha⟩⟩
theorem jr:∀(es:List bO) (i:Nat) (e:bO),es[i]?=some e->((es.flatMap aV).drop (i*4)).take 4=aV e
 | [],_,_,h=>by simp at h
 | a::es,0,e,h=>by simp only[aaI,aat]at h;subst h;simp[aV]
 | a::es,i+1,e,h=>by simp only[aa1]at h;have:=jr es i e h;rw[<-this,aaN,show (i+1)*4=(aV a).length+i*4 by simp[aV];omega,<-abi];simp
theorem f194 (ρ:aK) {l:List bO} (cw:bE M b v 4 l.length (l.flatMap aV)) (hb:b<=nx) {first:List XV} (q:bO->Bool)
 (hq:∀e ∈ l,∀(M':Hp) (nx':Nat),aq nx M M'->nx<=nx'->ar an ρ g (first++[.agg (aV e)]++caps) M' nx' (fe nx' M' (.bool (q e)))) :
 ar an ρ 194 [v,.fn (.func g) first caps] M nx (fe nx M (.int .i64 (eN q l 0))):=by
 have ay:=fun N=>cw.len (P:=an) (t:=247) v9.2.2.2.2.2 N
 have hz:=cw.1;refine ar.wk 19 [.tmp 4] Tryz.func194 ?_;refine fM HB ay ?_;refine aC (fun m s=>∃i:Nat,i<=l.length/\m=l.length - i/\eN q (l.drop i) i=eN q l 0/\gG s.env 0=some v/\gG s.env 1=some (.fn (.func g) first caps)/\gG s.env 7=some (.int .i64 l.length)/\gG s.env 8=some (.int .i64 i)/\aq nx M s.M/\nx<=s.nx)
  l.length ⟨0,aa,aa,af,?_⟩ ?_
 ·refine dt HB ?_
  exact⟨aq.refl _ _,aa⟩
 rintro m ⟨env,M',nx'⟩ ⟨i,hi,hm,pA,e0,e1,e7,e8,ha,hn⟩;simp only at e0 e1 e7 e8 ha hn;by_cases aL:(i:Int)<l.length
 ·have aP:i<l.length:=aa
  obtain⟨e,gA⟩:=aao aP;obtain⟨n,o,jw,bC,aU⟩:=cw.elem (P:=an) aP (t:=247) (t':=253) v9.2.2.2.1 v5.1;have aU:=aU M' (ha.le hb);rw[jr l i e gA]at aU;have bV:=eF i;have bw:=lr (q:=q) gA;refine oq HB e0 e1 e7 e8 aL bC aU ?_;refine gQ (hq e (aaH gA) M' _ ha aa) ?_;rintro⟨v',M'',nx''⟩ ⟨h1,h2,h3⟩;simp only at h1 h2 h3;subst h1;cases yR:q e with
  | true =>
    refine ky HB e0 e1 e7 e8 yR @fe.eq_1 ?_;refine⟨?_,ha.trans (h2.le aa),aa⟩;rw[<-pA,bw,yR];rfl
  | false =>
    refine ky HB e0 e1 e7 e8 yR bV ?_;exact⟨l.length - (i+1),aa,i+1,aa,rfl,by rw[<-pA,bw,yR];rfl,rfl,ha.trans (h2.le aa),aa⟩
 have hd:l.drop i=[]:=aaM aa;refine ky HB e0 e1 e7 e8 aL @fe.eq_1 ?_;refine⟨?_,ha,aa⟩;rw[<-pA,hd];rfl
def gi (w n:Int) (e:bO):Bool:=decide (e.w=w)&&decide (e.n=n)
theorem f195 (ρ:aK) {pk:Nat} (w n:Int) (e:bO) (h:gG M pk=some (.row [.int .u64 w,.int .u64 n])) (hk:pk<nx):ar an ρ 195 [.agg (aV e),.mp pk 0] M nx (fe nx M (.bool (gi w n e))):=by simp only[aV];refine ar.wk 8 [.tmp 3] Tryz.func195 ?_;refine fM Tt h ?_;exact .mk ((aq.refl _ _).set (u7 _) _) aa
theorem TU (ρ:aK) (M:Hp) (nx:Nat) (w n:Int):ar an ρ 83 [.agg [.int .u64 w,.int .u64 n]] M nx (fe nx M (.bool (decide (w=0)&&decide (n=0)))):=by refine ar.wk 6 [.tmp 2] Tryz.func83 ?_;refine dt Kl ?_;exact .mk ((aq.refl _ _).set (u7 _) _) aa
def jF (l:List bO) (w n:Int):Int×Bool:=if (decide (w=0)&&decide (n=0))=true then (0,true) else (eN (gi w n) l 0+1,decide (0<=eN (gi w n) l 0))
theorem ta {α:Type} (q:α->Bool):∀(l:List α) (i:Nat),-1<=eN q l i/\eN q l i<i+l.length
 | [],i=>by simp only[eN,aaO];omega
 | e::l,i=>by
   have:=ta q l (i+1);by_cases h:q e=true
   ·have h1:eN q (e::l) i=i:=if_pos h
    rw[h1];simp only[aaw];omega
   have h1:eN q (e::l) i=eN q l (i+1):=if_neg h;rw[h1];simp only[aaw];omega
theorem WI (ρ:aK) {l:List bO} (h:kn M b v l) (hb:b<=nx) (w n:Int):ar an ρ 131 [v,.agg [.int .u64 w,.int .u64 n]] M nx (fe nx M (.tup [.int .i64 (jF l w n).1,.bool (jF l w n).2])):=by
 obtain⟨rk,sv,rfl,h1,h2,h3⟩:=h;refine ar.wk 19 [.tmp 4,.tmp 5] Tryz.func131 ?_;refine dt fh ?_;have a1:∀q,aq nx M (aG M nx q):=fun q=>(aq.refl _ _).set (u7 _) q
 refine lG (TU ρ _ _ w n) fun M2 n2 g2 g3=>?_
 have a2:aq nx M M2:=(a1 _).trans (g2.le aa);have z:gG M2 nx=some (.row [.int .u64 w,.int .u64 n]):=(g2 nx aa).trans (by rw[ap,if_pos rfl]);have y:=(a2 rk aa).trans h2;clear g2;cases hu:(decide (w=0)&&decide (n=0)) with
 | true =>
   refine gk fh hu @fe.eq_1 ?_;exact⟨by simp[jF,hu],a2,aa⟩
 | false =>
   refine gk fh hu y ?_;refine gQ (f194 ρ (h3.agr (a2.le hb)) aa (gi w n) fun e he M' nx' ha hn=>?_) ?_;·exact f195 ρ w n e ((ha nx aa).trans z) aa
   rintro⟨u,M3,n3⟩ ⟨g1,g2,RI⟩;simp only at g1 g2 RI;subst g1;have hz:=h3.1;have hi:=ta (gi w n) l 0;have hw:IntKind.i64.wrap (eN (gi w n) l 0+1)=eN (gi w n) l 0+1:=wrap_i64 aa aa;refine gk fh hw @fe.eq_1 ?_;exact⟨by simp[jF,hu],a2.trans (g2.le aa),aa⟩
end
def HS.modify (S:HS) (i:Int) (r:aR) (k:Nat):HS:={ S with
 places:=fun j x=>if j=k/\x=r.x then S.places k r.x++[(S.mods.length:Int)] else S.places j x
 ver:=fun x w n=>if x=r.x/\w=r.t/\n=(((S.places k r.x).length+1:Nat):Int) then some (S.mods.length:Int) else S.ver x w n
 mods:=S.mods++[⟨i,r.t,r.x,r.t,(((S.places k r.x).length+1:Nat):Int),r.v,decide (r.kind=4),false⟩]
 obj:=fun x=>if x=r.x then some ((S.obj r.x).getD 0+1) else S.obj x }
section
variable {M M':Hp} {lo hi hi' h:Nat} {S:HS} {tag tag':Nat->Hg} {vrec vtxs vcom vmods vlook:XV} {nk vk ok cn cv co:Nat} {ptrs:List XV} {lnum:List (Nat×Int×Int)} {lver:List (Nat×List Int×Int)} {lobj:List (Nat×Int×Int)}
def vH (k:Nat) (x:Int) (g:Hg):Prop:=g = .hist\/g = .mods\/g = .ver\/g = .obj\/g = .kmap k\/g = .slot k x
theorem eM.modify {vmods':XV} {cv' co':Nat} {lver':List (Nat×List Int×Int)} {lobj':List (Nat×Int×Int)} {r:aR} {i:Int} (H:eM M lo hi h S tag vrec vtxs vcom vmods vlook nk vk ok cn cv co ptrs lnum lver lobj)
 (keep:∀q,q<hi->¬ vH k r.x (tag q)->gG M' q=gG M q) (cH:∀q,q<hi->tag' q=tag q) (hh:hi<=hi')
 (row:gG M' h=some (.row [vrec,vtxs,.mm nk,vcom,vmods',.mm vk,vlook,.mm ok])) (mods:bS M' lo hi' tag' .mods vmods' 8 (S.mods.length+1) ((S.modify i r k).mods.flatMap cO))
 (ver:gG M' vk=some (.map (eY (vI .i64) lver') cv')) (vrow:jL 3 lver') (verS:∀x w n,aH lver' [x,w,n]=(S.modify i r k).ver x w n)
 (obj:gG M' ok=some (.map (cx (vI .i64) lobj') co')) (objS:kD lobj' co'/\∀x,aH lobj' x=(S.modify i r k).obj x)
 (known:∀a,S.txs[k]?=some a->∃v,ptrs[k]?=some v/\iB M' lo hi' tag' k a ((S.modify i r k).places k) v) :
 eM M' lo hi' h (S.modify i r k) tag' vrec vtxs vcom vmods' vlook nk vk ok cn cv' co' ptrs lnum lver' lobj':=by
 have kk:=fun tg hc=>zf (M:=M) (M':=M') (C:=vH k r.x) keep cH tg hc
 exact {
  lo_h:=H.lo_h,h_hi:=aax H.h_hi hh,tg:=by rw[cH h H.h_hi];exact H.tg,row:=row
  recs:=H.recs.keep (kk _ (by simp[vH])) hh,txs:=H.txs.keep (kk _ (by simp[vH])) hh
  known:=fun j b hb=>by
   by_cases hj:j=k
   ·subst hj
    exact known b hb
   obtain⟨v,h1,h2⟩:=H.known j b hb;have e:(S.modify i r k).places j=S.places j:=funext fun x=>if_neg fun q=>hj q.1
   rw[e];exact⟨v,h1,h2.keep (fun q hq hg=>⟨keep q hq (by rcases hg with g | g | ⟨x,g⟩<;>rw[g]<;>simp[vH,hj]),cH q hq⟩) hh⟩
  nlo:=H.nlo,nhi:=aax H.nhi hh,ntg:=by rw[cH nk H.nhi];exact H.ntg,num:=by rw[(kk _ (by simp[vH]) nk H.nhi H.ntg).1];exact H.num,numS:=H.numS
  com:=H.com.keep (kk _ (by simp[vH])) hh
  mods:=by have e:(S.modify i r k).mods.length=S.mods.length+1:=by simp[HS.modify]
           rw[e];exact mods
  vlo:=H.vlo,vhi:=aax H.vhi hh,vtg:=by rw[cH vk H.vhi];exact H.vtg,ver:=ver,vrow:=vrow,verS:=verS
  looks:=H.looks.keep (kk _ (by simp[vH])) hh
  olo:=H.olo,ohi:=aax H.ohi hh,otg:=by rw[cH ok H.ohi];exact H.otg,obj:=obj,objS:=objS }
end
def HS.begin (S:HS) (i:Int) (r:aR):HS:={ S with
 txs:=S.txs++[⟨r.t,i,0,3,-1⟩]
 num:=fun t=>if t=r.t then some (S.txs.length:Int) else S.num t
 places:=fun j x=>if j=S.txs.length then [] else S.places j x }
def HS.endTx (S:HS) (k:Nat) (a:ku) (com:List Int):HS:={ S with txs:=S.txs.set k a,com:=com }
section
variable {M M':Hp} {lo hi hi' h:Nat} {S:HS} {tag tag':Nat->Hg} {vrec vtxs vcom vmods vlook:XV} {nk vk ok cn cv co:Nat} {ptrs:List XV} {lnum:List (Nat×Int×Int)} {lver:List (Nat×List Int×Int)} {lobj:List (Nat×Int×Int)}
def pn (k:Nat) (g:Hg):Prop:=g = .hist\/g = .com\/g = .known k
theorem eM.endTx {vcom':XV} {com:List Int} {a:ku} (H:eM M lo hi h S tag vrec vtxs vcom vmods vlook nk vk ok cn cv co ptrs lnum lver lobj)
 (keep:∀q,q<hi->¬ pn k (tag q)->gG M' q=gG M q) (cH:∀q,q<hi->tag' q=tag q) (hh:hi<=hi')
 (row:gG M' h=some (.row [vrec,vtxs,.mm nk,vcom',vmods,.mm vk,vlook,.mm ok])) (yI:bS M' lo hi' tag' .com vcom' 1 com.length (com.map (XV.int .u64)))
 (known:k<S.txs.length->∃v,ptrs[k]?=some v/\iB M' lo hi' tag' k a (S.places k) v) :
 eM M' lo hi' h (S.endTx k a com) tag' vrec vtxs vcom' vmods vlook nk vk ok cn cv co ptrs lnum lver lobj:=by
 have kk:=fun tg hc=>zf (M:=M) (M':=M') (C:=pn k) keep cH tg hc
 exact {
  lo_h:=H.lo_h,h_hi:=aax H.h_hi hh,tg:=by rw[cH h H.h_hi];exact H.tg,row:=row
  recs:=H.recs.keep (kk _ (by simp[pn])) hh
  txs:=by have e:(S.endTx k a com).txs.length=S.txs.length:=by simp[HS.endTx]
          rw[e];exact H.txs.keep (kk _ (by simp[pn])) hh
  known:=fun j b hb=>by
   have yY:j<S.txs.length:=by have:=(aaq.1 hb).1;simpa [HS.endTx] using this
   by_cases hj:j=k
   ·subst hj
    simp only[HS.endTx]at hb;rw[getElem?_set_self yY]at hb;cases hb;exact known yY
   simp only[HS.endTx]at hb;rw[getElem?_set_ne (fun e=>hj e.symm)]at hb;obtain⟨v,h1,h2⟩:=H.known j b hb;exact⟨v,h1,h2.keep (fun q hq hg=>⟨keep q hq (by rcases hg with g | g | ⟨x,g⟩<;>rw[g]<;>simp[pn,hj]),cH q hq⟩) hh⟩
  nlo:=H.nlo,nhi:=aax H.nhi hh,ntg:=by rw[cH nk H.nhi];exact H.ntg,num:=by rw[(kk _ (by simp[pn]) nk H.nhi H.ntg).1];exact H.num,numS:=H.numS
  com:=yI,mods:=H.mods.keep (kk _ (by simp[pn])) hh
  vlo:=H.vlo,vhi:=aax H.vhi hh,vtg:=by rw[cH vk H.vhi];exact H.vtg,ver:=by rw[(kk _ (by simp[pn]) vk H.vhi H.vtg).1];exact H.ver,vrow:=H.vrow,verS:=H.verS
  looks:=H.looks.keep (kk _ (by simp[pn])) hh
  olo:=H.olo,ohi:=aax H.ohi hh,otg:=by rw[cH ok H.ohi];exact H.otg,obj:=by rw[(kk _ (by simp[pn]) ok H.ohi H.otg).1];exact H.obj,objS:=H.objS }
def Og (g:Hg):Prop:=g = .hist\/g = .txs\/g = .num
theorem eM.begin {vtxs':XV} {cn':Nat} {ptr:XV} {lnum':List (Nat×Int×Int)} {r:aR} {i:Int} (H:eM M lo hi h S tag vrec vtxs vcom vmods vlook nk vk ok cn cv co ptrs lnum lver lobj)
 (keep:∀q,q<hi->¬ Og (tag q)->gG M' q=gG M q) (cH:∀q,q<hi->tag' q=tag q) (hh:hi<=hi')
 (row:gG M' h=some (.row [vrec,vtxs',.mm nk,vcom,vmods,.mm vk,vlook,.mm ok])) (txs:bS M' lo hi' tag' .txs vtxs' 1 (S.txs.length+1) (ptrs++[ptr]))
 (num:gG M' nk=some (.map (cx (vI .i64) lnum') cn')) (numS:∀t,aH lnum' t=(S.begin i r).num t)
 (known:iB M' lo hi' tag' S.txs.length ⟨r.t,i,0,3,-1⟩ (fun _=>[]) ptr) :
 eM M' lo hi' h (S.begin i r) tag' vrec vtxs' vcom vmods vlook nk vk ok cn' cv co (ptrs++[ptr]) lnum' lver lobj:=by
 have kk:=fun tg hc=>zf (M:=M) (M':=M') (C:=Og) keep cH tg hc
 have gE:ptrs.length=S.txs.length:=by have:=H.txs.2.1;omega
 exact {
  lo_h:=H.lo_h,h_hi:=aax H.h_hi hh,tg:=by rw[cH h H.h_hi];exact H.tg,row:=row
  recs:=H.recs.keep (kk _ (by simp[Og])) hh
  txs:=by have e:(S.begin i r).txs.length=S.txs.length+1:=by simp[HS.begin]
          rw[e];exact txs
  known:=fun j b hb=>by
   simp only[HS.begin]at hb ⊢;by_cases hj:j=S.txs.length
   ·subst hj
    simp only[abl,aat]at hb;subst hb;refine⟨ptr,by rw[<-gE,abl],?_⟩;have e:(fun x=>if S.txs.length=S.txs.length then [] else S.places S.txs.length x)=(fun _:Int=>([]:List Int)):=funext fun x=>if_pos rfl
    rw[e];exact known
   have yY:j<S.txs.length:=by have:=(aaq.1 hb).1;simp only[aau,aaw,aaO]at this;omega
   rw[aa5 yY]at hb;obtain⟨v,h1,h2⟩:=H.known j b hb;have e:(fun x=>if j=S.txs.length then [] else S.places j x)=S.places j:=funext fun x=>if_neg hj
   rw[e];exact⟨v,by rw[aa5 aa];exact h1,h2.keep (fun q hq hg=>⟨keep q hq (by rcases hg with g | g | ⟨x,g⟩<;>rw[g]<;>simp[Og]),cH q hq⟩) hh⟩
  nlo:=H.nlo,nhi:=aax H.nhi hh,ntg:=by rw[cH nk H.nhi];exact H.ntg,num:=num,numS:=numS
  com:=H.com.keep (kk _ (by simp[Og])) hh,mods:=H.mods.keep (kk _ (by simp[Og])) hh
  vlo:=H.vlo,vhi:=aax H.vhi hh,vtg:=by rw[cH vk H.vhi];exact H.vtg,ver:=by rw[(kk _ (by simp[Og]) vk H.vhi H.vtg).1];exact H.ver,vrow:=H.vrow,verS:=H.verS
  looks:=H.looks.keep (kk _ (by simp[Og])) hh
  olo:=H.olo,ohi:=aax H.ohi hh,otg:=by rw[cH ok H.ohi];exact H.otg,obj:=by rw[(kk _ (by simp[Og]) ok H.ohi H.otg).1];exact H.obj,objS:=H.objS }
end
section
variable {M M' N N':Hp} {nx nx' lo hi hi' h:Nat} {S S':HS}
def vF:HS:=⟨0,[],[],fun _ _=>[],fun _=>none,[],[],fun _ _ _=>none,[],fun _=>none⟩
def HS.addr (S:HS) (cs:List XV):HS:={ S with nrec:=S.nrec+1,crec:=S.crec++cs }
theorem IV {c:Nat} (ha:a<hi) (hb:b<hi) (hc:c<hi) (hh:h<hi) (ab:a≠b) (ac:a≠c) (ah:a≠h) (bc:b≠c) (bh:b≠h) (ch:c≠h) (la:lo<=a) (lb:lo<=b) (lc:lo<=c) (lh:lo<=h)
 (ga:gG M a=some (.map [] 0)) (gb:gG M b=some (.map [] 0)) (gc:gG M c=some (.map [] 0)) (gh:gG M h=some (.row [.nils,.nils,.mm a,.nils,.nils,.mm b,.nils,.mm c])):bX M lo hi h vF:=by
 refine⟨fun k=>if k=a then .num else if k=b then .ver else if k=c then .obj else .hist,.nils,.nils,.nils,.nils,.nils,a,b,c,0,0,0,[],[],[],[],?_⟩;have nn:∀tg:Hg,bS M lo hi (fun k=>if k=a then Hg.num else if k=b then .ver else if k=c then .obj else .hist) tg .nils 11 0 []:=fun tg=>⟨aa,rfl,.inl ⟨rfl,rfl⟩⟩
 exact {
  lo_h:=lh,h_hi:=hh,tg:=by rw[if_neg ah.symm,if_neg bh.symm,if_neg ch.symm],row:=gh
  recs:=⟨aj,rfl,.inl ⟨rfl,rfl⟩⟩,txs:=⟨aj,rfl,.inl ⟨rfl,rfl⟩⟩
  known:=fun i x hx=>by simp[vF]at hx
  nlo:=la,nhi:=ha,ntg:=if_pos rfl,num:=ga,numS:=fun t=>rfl
  com:=⟨aj,rfl,.inl ⟨rfl,rfl⟩⟩,mods:=⟨aj,rfl,.inl ⟨rfl,rfl⟩⟩
  vlo:=lb,vhi:=hb,vtg:=by rw[if_neg ab.symm,if_pos rfl],ver:=gb,vrow:=by intro e he;cases he
  verS:=fun _ _ _=>rfl,looks:=⟨aj,rfl,.inl ⟨rfl,rfl⟩⟩
  olo:=lc,ohi:=hc,otg:=by rw[if_neg ac.symm,if_neg bc.symm,if_pos rfl],obj:=gc,objS:=⟨AH _,fun _=>rfl⟩ }
theorem Pj {c:Nat} (ha:a<nx) (hb:b<nx) (hc:c<nx) (hh:h<nx) (ab:a≠b) (ac:a≠c) (ah:a≠h) (bc:b≠c) (bh:b≠h) (ch:c≠h) (la:lo<=a) (lb:lo<=b) (lc:lo<=c) (lh:lo<=h)
 (ga:gG M a=some (.map [] 0)) (gb:gG M b=some (.map [] 0)) (gc:gG M c=some (.map [] 0)) (gh:gG M h=some (.row [.nils,.nils,.mm a,.nils,.nils,.mm b,.nils,.mm c])) :
 ∃N,HF M nx N lo h vF/\∀k,k≠a->k≠b->k≠c->k≠h->gG N k=none:=by
 obtain⟨N,hN⟩:=zX (fun k=>if k=a\/k=b\/k=c\/k=h then gG M k else none) nx;have g:∀k,k<nx->(k=a\/k=b\/k=c\/k=h)->gG N k=gG M k:=fun k h1 h2=>by rw[hN,if_pos h1];exact if_pos h2
 refine⟨N,⟨fun k o ho=>?_,fun k x hx=>?_,fun k x hx=>?_,nx,u7 _,IV ha hb hc hh ab ac ah bc bh ch la lb lc lh ((g a ha (.inl rfl)).trans ga) ((g b hb (.inr (.inl rfl))).trans gb) ((g c hc (.inr (.inr (.inl rfl)))).trans gc) ((g h hh (.inr (.inr (.inr rfl)))).trans gh)⟩,fun k h1 h2 h3 h4=>?_⟩
 ·rw[hN]at ho
  split at ho<;>(try (cases ho;done))
  skip
  split at ho<;>(try (cases ho;done))
  rename_i hk;refine⟨ho,?_⟩;rcases hk with rfl | rfl | rfl | rfl
  ·rw[ga]at ho;cases ho;rfl
  ·rw[gb]at ho;cases ho;rfl
  ·rw[gc]at ho;cases ho;rfl
  rw[gh]at ho;cases ho;rfl
 ·rw[hN]at hx
  split at hx;·assumption
  cases hx
 ·rw[hN]at hx
  split at hx
  ·split at hx
   ·omega
   cases hx
  cases hx
 rw[hN];split;·exact if_neg aa
 rfl
section
variable {tag tag':Nat->Hg} {vrec vtxs vcom vmods vlook:XV} {nk vk ok cn cv co:Nat} {ptrs:List XV} {lnum:List (Nat×Int×Int)} {lver:List (Nat×List Int×Int)} {lobj:List (Nat×Int×Int)}
theorem eM.addr {vrec':XV} (H:eM M lo hi h S tag vrec vtxs vcom vmods vlook nk vk ok cn cv co ptrs lnum lver lobj)
 (keep:∀q,q<hi->¬ (fun g=>g=Hg.hist\/g = .recs) (tag q)->gG M' q=gG M q) (cH:∀q,q<hi->tag' q=tag q) (hh:hi<=hi')
 (row:gG M' h=some (.row [vrec',vtxs,.mm nk,vcom,vmods,.mm vk,vlook,.mm ok])) (recs:bS M' lo hi' tag' .recs vrec' 11 (S.nrec+1) (S.crec++cs)) :
 eM M' lo hi' h (S.addr cs) tag' vrec' vtxs vcom vmods vlook nk vk ok cn cv co ptrs lnum lver lobj:=by
 have kk:=fun tg hc=>zf (M:=M) (M':=M') (C:=fun g=>g=Hg.hist\/g = .recs) keep cH tg hc
 exact {
  lo_h:=H.lo_h,h_hi:=aax H.h_hi hh,tg:=by rw[cH h H.h_hi];exact H.tg,row:=row
  recs:=recs,txs:=H.txs.keep (kk _ af) hh
  known:=fun i b hb=>by obtain⟨v,h1,h2⟩:=H.known i b hb;exact⟨v,h1,h2.keep (fun k hk hg=>⟨keep k hk (by rcases hg with q | q | ⟨x,q⟩<;>rw[q]<;>simp),cH k hk⟩) hh⟩
  nlo:=H.nlo,nhi:=aax H.nhi hh,ntg:=by rw[cH nk H.nhi];exact H.ntg,num:=by rw[(kk _ af nk H.nhi H.ntg).1];exact H.num,numS:=H.numS
  com:=H.com.keep (kk _ af) hh,mods:=H.mods.keep (kk _ af) hh
  vlo:=H.vlo,vhi:=aax H.vhi hh,vtg:=by rw[cH vk H.vhi];exact H.vtg,ver:=by rw[(kk _ af vk H.vhi H.vtg).1];exact H.ver,vrow:=H.vrow,verS:=H.verS
  looks:=H.looks.keep (kk _ af) hh
  olo:=H.olo,ohi:=aax H.ohi hh,otg:=by rw[cH ok H.ohi];exact H.otg,obj:=by rw[(kk _ af ok H.ohi H.otg).1];exact H.obj,objS:=H.objS }
end
theorem Ip {knew:Nat} {old:List Nat} {x y:bx} (hM:Mu N M) (aL:∀k o,gG N k=some o->k<nx) (hx:kF x=true) (hy:kF y=true) (hk:nx<=knew) (ia:knew<nx') (hh:h<nx) (cf:h ∉ old) (gone:∀j,j<nx->j≠h->j ∉ old->gG M' j=gG M j)
 (e1:gG M' h=some x) (e2:gG M' knew=some y) (hN:gG N h≠none) (dz:∀j ∈ old,gG N j≠none):∃N',Mu N' M'/\(∀k o,gG N' k=some o->k<nx'/\(k=knew\/gG N k≠none))/\gM nx N M N' M'/\(∀k,k<nx->k≠h->k ∉ old->gG N' k=gG N k)/\gG N' h=some x/\gG N' knew=some y:=by
 obtain⟨N',JT⟩:=zX (fun k=>if k=knew then some y else if k=h then some x else if k ∈ old then none else gG N k) nx';have g:∀k,k<nx'->gG N' k=if k=knew then some y else if k=h then some x else if k ∈ old then none else gG N k:=fun k hk=>by rw[JT,if_pos hk]
 refine⟨N',fun k o ho=>?_,fun k o ho=>?_,fun k z k1 k2 k3=>⟨?_,?_⟩,fun k k1 k2 k3=>?_,?_,?_⟩
 ·have kA:k<nx':=by rw[JT]at ho;split at ho;assumption;cases ho
  rw[g k kA]at ho;split at ho;·rename_i e;subst e;cases ho;exact⟨e2,hy⟩
  split at ho;·rename_i e;subst e;cases ho;exact⟨e1,hx⟩
  split at ho;·cases ho
  rename_i f1 f2 f3;obtain⟨q1,q2⟩:=hM k o ho;exact⟨by rw[gone k (aL k o ho) f2 f3];exact q1,q2⟩
 ·have kA:k<nx':=by rw[JT]at ho;split at ho;assumption;cases ho
  refine⟨kA,?_⟩;rw[g k kA]at ho;split at ho;·rename_i e;exact .inl e
  right;split at ho;·rename_i e;rw[e];exact hN
  split at ho;·cases ho
  rw[ho];simp
 ·rw[gone k k1 (fun e=>hN (by rw[<-e];exact k2)) (fun e=>dz k e k2)];exact k3
 ·rw[g k aa,if_neg aa,if_neg (fun e=>hN (by rw[<-e];exact k2)),if_neg (fun e=>dz k e k2)];exact k2
 ·rw[g k aa,if_neg aa,if_neg k2,if_neg k3]
 ·rw[g h aa,if_neg aa,if_pos rfl]
 rw[g knew ia,if_pos rfl]
theorem HF.addr (H:HF M nx N lo h S) {cs:List XV} (dI:cs.length=11) (few:S.nrec<=100000):∃vrec c1 nk c3 c4 vm c6 om old,gG M h=some (.row [vrec,c1,.mm nk,c3,c4,.mm vm,c6,.mm om])/\h<nx/\S.crec.length=S.nrec*11 /\
 ((vrec = .nils/\S.nrec=0/\old=[])\/∃sk,vrec = .sl sk 11 0 S.nrec S.nrec/\1<=S.nrec/\sk<nx/\h≠sk/\gG M sk=some (.row S.crec)/\gG N sk≠none/\lo<=sk/\old=[sk]) /\
 ∀M' nx' knew,nx<=knew->knew<nx'->(∀j,j<nx->j≠h->j ∉ old->gG M' j=gG M j)->gG M' h=some (.row [.sl knew 11 0 (S.nrec+1) (S.nrec+1),c1,.mm nk,c3,c4,.mm vm,c6,.mm om])->gG M' knew=some (.row (S.crec++cs)) ->
  ∃N',HF M' nx' N' lo h (S.addr cs)/\gM nx N M N' M':=by
 obtain⟨mu,lt,ge,hi,vg,tag,vrec,vtxs,vcom,vmods,vlook,nk,vk,ok,cn,cv,co,ptrs,lnum,lver,lobj,H⟩:=H;have bA:=H.row;have hh:=H.h_hi;have hr:=H.recs;obtain⟨r1,r2,r3⟩:=hr;have main:∀old:List Nat,h ∉ old->(∀j ∈ old,j<hi/\tag j = .recs/\gG N j≠none)->∀M' nx' knew,nx<=knew->knew<nx'->(∀j,j<nx->j≠h->j ∉ old->gG M' j=gG M j)->gG M' h=some (.row [.sl knew 11 0 (S.nrec+1) (S.nrec+1),vtxs,.mm nk,vcom,vmods,.mm vk,vlook,.mm ok])->gG M' knew=some (.row (S.crec++cs)) ->
  ∃N',HF M' nx' N' lo h (S.addr cs)/\gM nx N M N' M':=by
  intro old CO bJ M' nx' knew k1 k2 k3 k4 k5;obtain⟨N',p1,p2,p3,p4,p5,p6⟩:=Ip mu lt rfl rfl k1 k2 aa CO k3 k4 k5 (by rw[bA];simp) fun j hj=>(bJ j hj).2.2
  refine⟨N',⟨p1,fun k o ho=>(p2 k o ho).1,fun k o ho=>?_,nx',u7 _,fun k=>if k=knew then .recs else tag k,_,vtxs,vcom,vmods,vlook,nk,vk,ok,cn,cv,co,ptrs,lnum,lver,lobj,H.addr (hi':=nx') (fun q q1 q2=>p4 q aa (fun e=>q2 (by rw[e];exact .inl H.tg)) fun e=>q2 (.inr (bJ q e).2.1)) (fun q hq=>if_neg aa) aa p5 ⟨aa,by rw[aau,r2,dI];omega,.inr ⟨aa,knew,rfl,by have:=H.lo_h;omega,k2,if_pos rfl,p6⟩⟩⟩,p3⟩;rcases(p2 k o ho).2 with e | e
  ·have:=H.lo_h;omega
  cases hn:gG N k with
  | none=>exact(e hn).elim
  | some x=>exact ge k x hn
 rcases r3 with ⟨e1,e2⟩ | ⟨e0,sk,e1,e2,e3,e4,e5⟩
 ·subst e1
  exact⟨.nils,vtxs,nk,vcom,vmods,vk,vlook,ok,[],(mu h _ bA).1,aa,r2,.inl ⟨rfl,e2,rfl⟩,main [] af af⟩
 subst e1;have cf:h≠sk:=aZ H.tg e4 af;exact⟨_,vtxs,nk,vcom,vmods,vk,vlook,ok,[sk],(mu h _ bA).1,aa,r2,.inr ⟨sk,rfl,e0,aa,cf,(mu sk _ e5).1,by rw[e5];simp,e2,rfl⟩,main [sk] (by simpa using cf) (fun j hj=>by simp only[aaE]at hj;subst hj;exact⟨e3,e4,by rw[e5];simp⟩)⟩
end
end
end Go.Xs
