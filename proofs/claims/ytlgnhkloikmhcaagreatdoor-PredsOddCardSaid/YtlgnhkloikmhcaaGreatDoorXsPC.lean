/- A part of the proof: the layers and contracts it rests on. -/
import Derived.Test.YtlgnhkloikmhcaaGreatDoorXsPB
import Derived.Test.YtlgnhkloikmhcaaGreatDoorProg
set_option maxRecDepth 100000
set_option maxHeartbeats 4000000
set_option linter.all false
set_option linter.deprecated false
namespace Go.Xs
open List Nat Option
open Go.Proofs
noncomputable abbrev ao:=Tryz.prog
abbrev EE(t:Nat)(z:XV)(x:NT):Prop:=sa ao t=some (1,false)/\cE ao t=some 1/\aJ ao t=some [z]/\nt ao t = x
abbrev Ra(t:Nat)(z:XV)(k:IntKind):Prop:=sa ao t=some (1,false)/\cE ao t=some 1/\aJ ao t=some [z]/\Ge ao t=some k/\nt ao t = .no
abbrev SP(t n b:Nat)(z:List XV):Prop:=sa ao t=some (1,false)/\cE ao t=some 1/\aJ ao t=some [.nils]/\es ao t=some n/\ez ao t=some (n,b,z)/\nt ao t = .sl
abbrev E6(t n:Nat)(z:List XV)(f:List (Nat×Nat×Nat)):Prop:=sa ao t=some (n,true)/\cE ao t=some n/\aJ ao t=some z/\fz ao t=f/\mQ ao t=true/\nt ao t = .no
abbrev Pe(t n:Nat)(z:List XV)(f:List (Nat×Nat×Nat))(s:List CK):Prop:=sa ao t=some (n,true)/\cE ao t=some n/\aJ ao t=some z/\fz ao t=f/\mQ ao t=true/\u0 ao 40 t=some s/\ja ao t=true/\nt ao t = .no
theorem dA:Ra 3 (.int .i64 0) .i64:=⟨U,U,U,U,U⟩
theorem kH:EE 4 (.bool false) .no:=⟨U,U,U,U⟩
theorem ty5:Ra 5 (.int .u8 0) .u8:=⟨U,U,U,U,U⟩
theorem S6:EE 9 (.str []) .no:=⟨U,U,U,U⟩
theorem jp:SP 22 11 120 [.int .i64 0,.int .u64 0,.int .u64 0,.int .u64 0,.int .u64 0,.int .u64 0,.int .i64 0,.int .u64 0,.int .u64 0,.nils,.nils]:=⟨U,U,U,U,U,U⟩
theorem dc:EE 25 .nilp .pt:=⟨U,U,U,U⟩
theorem Nd:Ra 26 (.int .i64 0) .i64:=⟨U,U,U,U,U⟩
theorem Lc:SP 29 9 72 [.int .i64 0,.int .i64 0,.int .i64 0,.int .u64 0,.int .u64 0,.int .u64 0,.int .u64 0,.int .u64 0,.int .i64 0]:=⟨U,U,U,U,U,U⟩
theorem dq:Ra 31 (.int .u64 0) .u64:=⟨U,U,U,U,U⟩
theorem OL:Pe 33 2 [.int .u64 0,.int .u64 0] [(0,1,31),(1,1,31)] [.i .u64,.i .u64]:=⟨U,U,U,U,U,U,U,U⟩
theorem jW:Pe 35 9 [.int .i64 0,.int .i64 0,.int .i64 0,.int .u64 0,.int .u64 0,.int .u64 0,.int .u64 0,.int .u64 0,.int .i64 0] [(0,1,3),(1,1,3),(2,1,3),(3,1,31),(4,2,33),(6,2,33),(8,1,3)] [.i .i64,.i .i64,.i .i64,.i .u64,.i .u64,.i .u64,.i .u64,.i .u64,.i .i64]:=⟨U,U,U,U,U,U,U,U⟩
theorem GH:Pe 39 5 [.int .u64 0,.int .i64 0,.int .i64 0,.int .i64 0,.int .i64 0] [(0,1,31),(1,1,3),(2,1,3),(3,1,3),(4,1,3)] [.i .u64,.i .i64,.i .i64,.i .i64,.i .i64]:=⟨U,U,U,U,U,U,U,U⟩
theorem ff:SP 42 4 48 [.int .i64 0,.int .u64 0,.int .u64 0,.nils]:=⟨U,U,U,U,U,U⟩
theorem fu:E6 44 4 [.int .i64 0,.int .u64 0,.int .u64 0,.nils] [(0,1,3),(1,1,31),(2,1,31),(3,1,42)]:=⟨U,U,U,U,U,U⟩
theorem gX:SP 45 4 32 [.int .u64 0,.int .u64 0,.int .u64 0,.bool false]:=⟨U,U,U,U,U,U⟩
theorem il:E6 47 11 [.int .i64 0,.int .u64 0,.int .u64 0,.int .u64 0,.int .u64 0,.int .u64 0,.int .i64 0,.int .u64 0,.int .u64 0,.nils,.nils] [(0,1,3),(1,1,31),(2,1,31),(3,2,33),(5,1,31),(6,4,44),(10,1,45)]:=⟨U,U,U,U,U,U⟩
theorem jn:SP 48 8 56 [.int .i64 0,.int .i64 0,.int .u64 0,.int .u64 0,.int .u64 0,.int .u64 0,.bool false,.bool false]:=⟨U,U,U,U,U,U⟩
theorem mH:Pe 51 8 [.int .i64 0,.int .i64 0,.int .u64 0,.int .u64 0,.int .u64 0,.int .u64 0,.bool false,.bool false] [(0,1,3),(1,1,3),(2,1,31),(3,1,31),(4,2,33),(6,1,4),(7,1,4)] [.i .i64,.i .i64,.i .u64,.i .u64,.i .u64,.i .u64,.b,.b]:=⟨U,U,U,U,U,U,U,U⟩
theorem qa:SP 52 5 32 [.int .u64 0,.int .u64 0,.int .i64 0,.bool false,.bool false]:=⟨U,U,U,U,U,U⟩
theorem Kx:Pe 55 5 [.int .u64 0,.int .u64 0,.int .i64 0,.bool false,.bool false] [(0,2,33),(2,1,3),(3,1,4),(4,1,4)] [.i .u64,.i .u64,.i .i64,.b,.b]:=⟨U,U,U,U,U,U,U,U⟩
theorem Sa:EE 65 .nilf .fn:=⟨U,U,U,U⟩
theorem G2:Pe 67 4 [.int .u64 0,.int .u64 0,.int .u64 0,.bool false] [(0,1,31),(1,2,33),(3,1,4)] [.i .u64,.i .u64,.i .u64,.b]:=⟨U,U,U,U,U,U,U,U⟩
theorem LG:SP 71 1 16 [.str []]:=⟨U,U,U,U,U,U⟩
theorem tC:sa ao 76=some (1,false)/\cE ao 76=some 1/\aJ ao 76=some [.nilm]/\mq ao 76 = .i 31 (.int .i64 0)/\nt ao 76 = .mp:=⟨U,U,U,U,U⟩
theorem zu:sa ao 77=some (1,false)/\cE ao 77=some 1/\aJ ao 77=some [.nilm]/\mq ao 77 = .a 230 (.int .i64 0) 3/\nt ao 77 = .mp:=⟨U,U,U,U,U⟩
theorem sr:SP 78 1 8 [.nilp]:=⟨U,U,U,U,U,U⟩
theorem jM:SP 79 1 8 [.int .u64 0]:=⟨U,U,U,U,U,U⟩
theorem oi:SP 80 8 56 [.int .i64 0,.int .u64 0,.int .u64 0,.int .u64 0,.int .u64 0,.int .u64 0,.bool false,.bool false]:=⟨U,U,U,U,U,U⟩
theorem zA:E6 82 8 [.nils,.nils,.nilm,.nils,.nils,.nilm,.nils,.nilm] [(0,1,22),(1,1,78),(2,1,76),(3,1,79),(4,1,80),(5,1,77),(6,1,48),(7,1,76)]:=⟨U,U,U,U,U,U⟩
theorem Cq:EE 84 .nilp .pt:=⟨U,U,U,U⟩
theorem Co:sa ao 85=some (1,false)/\cE ao 85=some 1/\aJ ao 85=some [.nilm]/\mq ao 85 = .i 31 (.nils)/\nt ao 85 = .mp:=⟨U,U,U,U,U⟩
theorem Cd:E6 87 6 [.int .u64 0,.int .i64 0,.int .i64 0,.int .i64 0,.int .i64 0,.nilm] [(0,5,39),(5,1,85)]:=⟨U,U,U,U,U,U⟩
theorem Av:SP 88 1 8 [.int .i64 0]:=⟨U,U,U,U,U,U⟩
theorem Gx:Pe 90 8 [.int .i64 0,.int .u64 0,.int .u64 0,.int .u64 0,.int .u64 0,.int .u64 0,.bool false,.bool false] [(0,1,3),(1,1,31),(2,1,31),(3,2,33),(5,1,31),(6,1,4),(7,1,4)] [.i .i64,.i .u64,.i .u64,.i .u64,.i .u64,.i .u64,.b,.b]:=⟨U,U,U,U,U,U,U,U⟩
theorem DI:Ra 132 (.int .i64 0) .i64:=⟨U,U,U,U,U⟩
theorem iq:sa ao 141=some (1,false)/\cE ao 141=some 1/\aJ ao 141=some [.nilm]/\mq ao 141 = .a 355 (.int .i64 0) 2/\nt ao 141 = .mp:=⟨U,U,U,U,U⟩
theorem iw:SP 142 2 16 [.int .u64 0,.int .u64 0]:=⟨U,U,U,U,U,U⟩
theorem kw:E6 144 2 [.nilm,.nils] [(0,1,141),(1,1,142)]:=⟨U,U,U,U,U,U⟩
theorem aam:E6 146 2 [.nilm,.nils] [(0,2,144)]:=⟨U,U,U,U,U,U⟩
theorem ol:SP 147 1 24 [.nils]:=⟨U,U,U,U,U,U⟩
theorem Nz:E6 149 3 [.nilm,.nils,.nils] [(0,2,146),(2,1,147)]:=⟨U,U,U,U,U,U⟩
theorem v6:sa ao 150=some (1,false)/\cE ao 150=some 1/\aJ ao 150=some [.nilm]/\mq ao 150 = .i 31 (.bool false)/\nt ao 150 = .mp:=⟨U,U,U,U,U⟩
theorem v_:E6 152 5 [.nilm,.nils,.nils,.int .i64 0,.nilm] [(0,3,149),(3,1,3),(4,1,150)]:=⟨U,U,U,U,U,U⟩
theorem I8:E6 160 13 [.int .i64 0,.int .i64 0,.int .u64 0,.int .u64 0,.int .u64 0,.int .u64 0,.bool false,.bool false,.int .i64 0,.int .u64 0,.int .u64 0,.nils,.int .i64 0] [(0,8,51),(8,4,44),(12,1,3)]:=⟨U,U,U,U,U,U⟩
theorem Xk:EE 170 .nilp .pt:=⟨U,U,U,U⟩
theorem wN:SP 172 2 16 [.int .u64 0,.int .u64 0]:=⟨U,U,U,U,U,U⟩
theorem DG:EE 201 .nilf .fn:=⟨U,U,U,U⟩
theorem DR:EE 202 .nilf .fn:=⟨U,U,U,U⟩
theorem Kf:EE 203 .nilf .fn:=⟨U,U,U,U⟩
theorem DP:EE 204 .nilf .fn:=⟨U,U,U,U⟩
theorem HO:E6 206 6 [.str [],.nilf,.nilf,.nilf,.nilf,.nilf] [(0,1,9),(1,1,65),(2,1,201),(3,1,202),(4,1,203),(5,1,204)]:=⟨U,U,U,U,U,U⟩
theorem T7:sa ao 207=some (48,true)/\cE ao 207=some 48/\aJ ao 207=some [.str [],.nilf,.nilf,.nilf,.nilf,.nilf,.str [],.nilf,.nilf,.nilf,.nilf,.nilf,.str [],.nilf,.nilf,.nilf,.nilf,.nilf,.str [],.nilf,.nilf,.nilf,.nilf,.nilf,.str [],.nilf,.nilf,.nilf,.nilf,.nilf,.str [],.nilf,.nilf,.nilf,.nilf,.nilf,.str [],.nilf,.nilf,.nilf,.nilf,.nilf,.str [],.nilf,.nilf,.nilf,.nilf,.nilf]/\PT ao 207=some (8,6,206)/\mQ ao 207=false/\nt ao 207 = .no:=⟨U,U,U,U,U,U⟩
theorem v5:EE 222 .nilp .pt:=⟨U,U,U,U⟩
theorem Oq:SP 223 2 16 [.int .i64 0,.nilf]:=⟨U,U,U,U,U,U⟩
theorem R7:EE 225 .nilf .fn:=⟨U,U,U,U⟩
theorem NC:E6 227 2 [.int .i64 0,.nilf] [(0,1,26),(1,1,225)]:=⟨U,U,U,U,U,U⟩
theorem TP:Pe 230 3 [.int .u64 0,.int .u64 0,.int .u64 0] [(0,1,31),(1,2,33)] [.i .u64,.i .u64,.i .u64]:=⟨U,U,U,U,U,U,U,U⟩
theorem sb:Ra 238 (.int .u64 0) .u64:=⟨U,U,U,U,U⟩
theorem MB:sa ao 241=some (1,false)/\cE ao 241=some 1/\aJ ao 241=some [.nilm]/\mq ao 241 = .i 31 (.nilp)/\nt ao 241 = .mp:=⟨U,U,U,U,U⟩
theorem TF:E6 243 1 [.nilm] [(0,1,241)]:=⟨U,U,U,U,U,U⟩
theorem Xb:EE 245 .nilp .pt:=⟨U,U,U,U⟩
theorem v9:SP 247 4 32 [.int .u64 0,.int .u64 0,.int .i64 0,.int .i64 0]:=⟨U,U,U,U,U,U⟩
theorem DD:E6 249 1 [.nils] [(0,1,247)]:=⟨U,U,U,U,U,U⟩
theorem I7:E6 251 1 [.nils] [(0,1,249)]:=⟨U,U,U,U,U,U⟩
theorem mz:Pe 253 4 [.int .u64 0,.int .u64 0,.int .i64 0,.int .i64 0] [(0,2,33),(2,1,3),(3,1,3)] [.i .u64,.i .u64,.i .i64,.i .i64]:=⟨U,U,U,U,U,U,U,U⟩
theorem Ir:EE 260 .nilf .fn:=⟨U,U,U,U⟩
theorem yU:Pe 290 2 [.int .u64 0,.bool false] [(0,1,31),(1,1,4)] [.i .u64,.b]:=⟨U,U,U,U,U,U,U,U⟩
theorem MX:Ra 294 (.int .i64 0) .i64:=⟨U,U,U,U,U⟩
theorem WA:Ra 301 (.int .u32 0) .u32:=⟨U,U,U,U,U⟩
theorem rH:Pe 355 2 [.int .u64 0,.int .u64 0] [(0,1,31),(1,1,31)] [.i .u64,.i .u64]:=⟨U,U,U,U,U,U,U,U⟩
theorem qW:SP 356 2 16 [.int .u64 0,.bool false]:=⟨U,U,U,U,U,U⟩
theorem IQ:Ra 357 (.int .u64 0) .u64:=⟨U,U,U,U,U⟩
theorem JP:E6 374 4 [.int .i64 0,.int .i64 0,.int .i64 0,.nilf] [(0,1,3),(1,1,3),(2,1,3),(3,1,260)]:=⟨U,U,U,U,U,U⟩
theorem HE:EE 419 .nilp .pt:=⟨U,U,U,U⟩
theorem TN:sa ao 428=some (32,true)/\cE ao 428=some 32/\aJ ao 428=some [.int .i64 0,.int .i64 0,.int .i64 0,.nilf,.int .i64 0,.int .i64 0,.int .i64 0,.nilf,.int .i64 0,.int .i64 0,.int .i64 0,.nilf,.int .i64 0,.int .i64 0,.int .i64 0,.nilf,.int .i64 0,.int .i64 0,.int .i64 0,.nilf,.int .i64 0,.int .i64 0,.int .i64 0,.nilf,.int .i64 0,.int .i64 0,.int .i64 0,.nilf,.int .i64 0,.int .i64 0,.int .i64 0,.nilf]/\PT ao 428=some (8,4,374)/\mQ ao 428=false/\nt ao 428 = .no:=⟨U,U,U,U,U,U⟩
theorem NR:EE 452 .nilf .fn:=⟨U,U,U,U⟩
def fT:=ap @dA<|ap @dq<|ap @ff <| @fu
def oU:=ap @dA<|ap @dq<|ap @OL<|ap @ff<|ap @fu<|ap @gX <| @il
def O7:=ap @dA<|ap @kH<|ap @jp<|ap @dq<|ap @OL<|ap @ff<|ap @fu<|ap @gX <| @il
def gy3:=ap @dA<|ap @Ir<|ap @JP<|ap @TN <| @NR
def Vd:=ap @dA<|ap @Ir<|ap @JP <| @TN
def lK:=@dA
def EZ:=ap @dA<|ap @kH<|ap @dq<|ap @ff <| @fu
def CA:=ap @dA<|ap @kH<|ap @dq<|ap @ff<|ap @fu<|ap @Ir <| @JP
def U9:=ap @dA<|ap @dq<|ap @ff<|ap @fu <| @NR
def gy9:=ap @dA<|ap @kH<|ap @dq<|ap @ff<|ap @fu <| @NR
def KC:=ap @dA<|ap @dq<|ap @ff<|ap @fu<|ap @Ir <| @JP
def Sj:=ap @dq<|ap @iq<|ap @iw<|ap @kw <| @rH
def Im:=ap @dq<|ap @iq<|ap @iw<|ap @kw<|ap @aam<|ap @rH <| @HE
def Pt:=ap @iq<|ap @iw<|ap @kw<|ap @aam <| @HE
def Wp:=ap @dA<|ap @dq<|ap @iq<|ap @iw<|ap @kw <| @rH
def xW:=ap @dA<|ap @kH<|ap @dq<|ap @iq<|ap @iw<|ap @kw <| @rH
def Pn:=@ff
def OC:=@gX
def OE:=@oi
def EV:=ap @dA<|ap @kH<|ap @dq<|ap @OL<|ap @gX <| @G2
def FL:=ap @dA<|ap @dq <| @jM
def Kj:=ap @dA<|ap @kH<|ap @dq<|ap @OL<|ap @jn <| @mH
def Wx:=ap @dA<|ap @kH<|ap @dq<|ap @OL<|ap @qa <| @Kx
def El:=ap @dA<|ap @Lc<|ap @dq<|ap @OL <| @jW
def HB:=ap @dA<|ap @kH<|ap @Lc<|ap @dq<|ap @OL<|ap @qa <| @Kx
def Tt:=ap @dA<|ap @kH<|ap @dq<|ap @OL<|ap @jW<|ap @ff<|ap @fu<|ap @mH<|ap @Kx <| @I8
def Kl:=ap @dA<|ap @kH<|ap @dq<|ap @OL <| @Kx
def fh:=ap @dA<|ap @kH<|ap @dq<|ap @OL <| @mH
def P0:=ap @Xk<|ap @MB<|ap @TF<|ap @Xb<|ap @v9<|ap @DD <| @I7
def W3:=ap @dA<|ap @dq<|ap @OL<|ap @v9 <| @mz
def Kt:=ap @dA<|ap @dq<|ap @OL <| @mz
def sG:=ap @dq <| @OL
def sO:=ap @dA<|ap @dq<|ap @OL<|ap @v9 <| @DD
def FH:=ap @kH<|ap @dq<|ap @iq<|ap @iw<|ap @kw<|ap @aam<|ap @ol<|ap @Nz<|ap @rH <| @qW
def sH:=ap @dA<|ap @kH<|ap @dq<|ap @OL<|ap @iq<|ap @iw<|ap @kw<|ap @aam<|ap @ol<|ap @Nz<|ap @v6<|ap @v_<|ap @v5<|ap @yU <| @qW
def zk:=ap @dA<|ap @kH<|ap @jp<|ap @dq<|ap @OL<|ap @jn<|ap @mH<|ap @tC<|ap @zu<|ap @sr<|ap @jM<|ap @oi <| @zA
def Fs:=ap @dA<|ap @kH<|ap @dq<|ap @OL<|ap @ff<|ap @fu<|ap @gX<|ap @il<|ap @iq<|ap @iw<|ap @kw<|ap @aam<|ap @ol<|ap @Nz<|ap @v6 <| @v_
def L7:=ap @dA<|ap @dq<|ap @OL<|ap @ff<|ap @fu<|ap @gX<|ap @il<|ap @iq<|ap @iw<|ap @kw<|ap @aam<|ap @ol<|ap @Nz<|ap @v6 <| @v_
def Io:=ap @jp<|ap @jn<|ap @tC<|ap @zu<|ap @sr<|ap @jM<|ap @oi<|ap @zA <| @Cq
def BU:=ap @dA<|ap @kH<|ap @jp<|ap @dq<|ap @OL<|ap @GH<|ap @ff<|ap @fu<|ap @gX<|ap @il<|ap @jn<|ap @mH<|ap @G2<|ap @tC<|ap @zu<|ap @sr<|ap @jM<|ap @oi<|ap @zA<|ap @Co <| @Cd
def Fl:=ap @dA<|ap @kH<|ap @jp<|ap @dq<|ap @OL<|ap @GH<|ap @ff<|ap @fu<|ap @gX<|ap @il<|ap @jn<|ap @tC<|ap @zu<|ap @sr<|ap @jM<|ap @oi<|ap @zA<|ap @Co<|ap @Cd<|ap @Av<|ap @Gx <| @TP
def Ia:=ap @dA<|ap @kH<|ap @jp<|ap @dc<|ap @dq<|ap @GH<|ap @jn<|ap @tC<|ap @zu<|ap @sr<|ap @jM<|ap @oi<|ap @zA<|ap @Co <| @Cd
def sJ:=ap @jp<|ap @dc<|ap @jn<|ap @tC<|ap @zu<|ap @sr<|ap @jM<|ap @oi <| @zA
def Ei:=ap @dA<|ap @kH<|ap @jp<|ap @dc<|ap @dq<|ap @OL<|ap @jn<|ap @tC<|ap @zu<|ap @sr<|ap @jM<|ap @oi<|ap @zA<|ap @Gx <| @TP
def FI:=@jn
def Ap:=@jM
def Kn:=ap @kH <| @tC
def Ed:=ap @kH<|ap @dq<|ap @OL<|ap @DI <| @yU
def EN:=ap @dA<|ap @dq<|ap @OL<|ap @iq<|ap @iw<|ap @kw<|ap @aam<|ap @ol<|ap @Nz<|ap @v6<|ap @v_<|ap @v5 <| @qW
def Sn:=ap @dA<|ap @kH<|ap @dq<|ap @OL<|ap @ff<|ap @fu<|ap @gX <| @il
def Wq:=ap @S6<|ap @Sa<|ap @DG<|ap @DR<|ap @Kf<|ap @DP <| @HO
def gu:=ap @S6<|ap @Sa<|ap @DG<|ap @DR<|ap @Kf<|ap @DP<|ap @HO <| @T7
def k_:=ap @dA<|ap @S6<|ap @Sa<|ap @DG<|ap @DR<|ap @Kf<|ap @DP<|ap @HO <| @T7
def PC:=ap @dA<|ap @kH<|ap @S6<|ap @dq<|ap @OL<|ap @ff<|ap @fu<|ap @gX<|ap @il<|ap @Sa<|ap @DG<|ap @DR<|ap @Kf<|ap @DP <| @HO
def Pa:=ap @dA<|ap @kH<|ap @dq<|ap @OL<|ap @ff<|ap @fu<|ap @gX<|ap @il <| @G2
def OF:=ap @dA<|ap @kH<|ap @dq<|ap @OL<|ap @ff<|ap @fu<|ap @DI <| @yU
def Hw:=ap @kH<|ap @dq<|ap @OL<|ap @G2 <| @v5
def qg:=ap @dA<|ap @kH<|ap @dq<|ap @OL<|ap @ff<|ap @fu<|ap @gX<|ap @il <| @v5
def GV:=ap @dA<|ap @kH<|ap @dq<|ap @OL<|ap @ff<|ap @fu<|ap @gX<|ap @il<|ap @G2 <| @v5
def OV:=ap @kH<|ap @dq<|ap @OL <| @G2
def Hk:=ap @dA<|ap @dq<|ap @jM<|ap @iq<|ap @iw<|ap @kw<|ap @aam<|ap @ol<|ap @Nz<|ap @v6<|ap @v_<|ap @v5 <| @rH
def eC:=@tC
def Hv:=ap @dA<|ap @jp<|ap @dc<|ap @dq<|ap @OL<|ap @ff<|ap @fu<|ap @gX<|ap @il<|ap @jn<|ap @tC<|ap @zu<|ap @sr<|ap @jM<|ap @oi <| @zA
def z_:=ap @dA<|ap @kH<|ap @jp<|ap @dq<|ap @OL<|ap @ff<|ap @fu<|ap @gX<|ap @il<|ap @jn<|ap @mH <| @jM
def Lj:=ap @dA<|ap @kH<|ap @dq<|ap @OL<|ap @v9<|ap @DD<|ap @I7 <| @mz
def tz:=ap @dA<|ap @dq<|ap @OL<|ap @wN<|ap @v9<|ap @DD<|ap @I7 <| @mz
def vG:=ap @dA<|ap @kH<|ap @dc<|ap @dq<|ap @OL<|ap @GH<|ap @oi<|ap @Gx<|ap @MB<|ap @TF<|ap @v9<|ap @DD<|ap @I7 <| @mz
def GK:=ap @dA<|ap @kH<|ap @dq<|ap @OL<|ap @ff<|ap @fu <| @Gx
def S7:=ap @dA<|ap @dc<|ap @dq<|ap @ff <| @fu
def uo:=ap @dA<|ap @kH<|ap @dq<|ap @OL<|ap @ff<|ap @fu<|ap @qa <| @Kx
def R3:=ap @dA<|ap @kH<|ap @dc<|ap @dq<|ap @OL<|ap @ff<|ap @fu<|ap @Kx <| @wN
def Tl:=ap @dA<|ap @dq<|ap @OL<|ap @ff<|ap @fu <| @qa
def tH:=ap @dA<|ap @kH<|ap @Lc<|ap @dq<|ap @OL<|ap @ff<|ap @fu<|ap @mH <| @I8
def Xz:=@dq
def Oo:=ap @kH <| @dq
def oZ:=ap @dA<|ap @ty5<|ap @S6 <| @dq
def XM:=ap @sb <| @WA
def Ss:=ap @dA <| @sb
def LW:=@IQ
def SF:=ap @dA<|ap @kH<|ap @Lc<|ap @dq<|ap @OL<|ap @jW <| @MX
def S4:=ap @dA<|ap @Lc <| @sb
def Xp:=ap @dA<|ap @kH<|ap @jp<|ap @dc<|ap @Lc<|ap @dq<|ap @OL<|ap @ff<|ap @fu<|ap @gX<|ap @il<|ap @mH <| @I8
def Fa:=ap @dA<|ap @kH<|ap @Lc<|ap @dq<|ap @OL <| @jW
def jV:=ap @dA <| @Av
def Kd:=ap @dq<|ap @OL <| @Av
def lq:=ap @dA<|ap @dq<|ap @OL<|ap @jW <| @Av
def X5:=ap @dA<|ap @Lc<|ap @dq<|ap @OL<|ap @jW<|ap @sb <| @IQ
def An:=ap @dA<|ap @kH<|ap @dq <| @jM
def Eh:=ap @dA<|ap @dq<|ap @jM<|ap @sb <| @IQ
def mK:=ap @dA<|ap @kH<|ap @dq<|ap @jM <| @MX
def LR:=ap @dA<|ap @kH<|ap @dq<|ap @OL<|ap @v9 <| @mz
def uz:=ap @dA<|ap @dq<|ap @OL<|ap @sb<|ap @v9<|ap @mz <| @IQ
def dj:=ap @dA<|ap @kH<|ap @dq<|ap @OL<|ap @v9<|ap @mz <| @MX
def iG:=ap @dA<|ap @jM <| @sb
def vM:=ap @dA<|ap @sb <| @v9
def kE:=ap @dA<|ap @dc<|ap @dq<|ap @OL<|ap @ff<|ap @fu<|ap @gX <| @il
def Bj:=ap @dA<|ap @kH<|ap @dc<|ap @dq<|ap @OL<|ap @GH<|ap @ff<|ap @fu<|ap @gX<|ap @il<|ap @jn<|ap @mH <| @I8
def gy97:=ap @dA<|ap @dq<|ap @OL <| @jW
def gP:=ap @dA<|ap @kH<|ap @dq<|ap @iq<|ap @iw<|ap @kw<|ap @aam<|ap @ol<|ap @Nz<|ap @yU<|ap @rH <| @qW
def aS:=ap @dA<|ap @kH<|ap @dq<|ap @OL<|ap @ff<|ap @fu<|ap @gX<|ap @il<|ap @iq<|ap @iw<|ap @kw<|ap @aam<|ap @ol<|ap @Nz<|ap @v6<|ap @v_ <| @yU
def so:=ap @Nd<|ap @Oq<|ap @R7 <| @NC
def cD:=ap @dA<|ap @kH<|ap @Nd<|ap @dq<|ap @OL<|ap @ff<|ap @fu<|ap @gX<|ap @il<|ap @v5<|ap @Oq<|ap @R7 <| @NC
def az:=ap @dA<|ap @jp<|ap @Nd<|ap @dq<|ap @OL<|ap @ff<|ap @fu<|ap @gX<|ap @il<|ap @iq<|ap @iw<|ap @kw<|ap @aam<|ap @ol<|ap @Nz<|ap @v6 <| @v_
def rX:=ap @dA<|ap @kH<|ap @jp<|ap @Nd<|ap @dq<|ap @OL<|ap @GH<|ap @ff<|ap @fu<|ap @gX<|ap @il<|ap @jn<|ap @tC<|ap @zu<|ap @sr<|ap @jM<|ap @oi<|ap @zA<|ap @Cq<|ap @Co<|ap @Cd<|ap @Av <| @Gx
def cS:=ap @dA<|ap @S6<|ap @jp<|ap @dq<|ap @OL<|ap @ff<|ap @fu<|ap @gX<|ap @il <| @LG
def wH:=ap @dA<|ap @S6<|ap @Lc<|ap @dq<|ap @OL<|ap @jW <| @LG
def G9:=ap @dA<|ap @kH<|ap @jp<|ap @Nd<|ap @Lc<|ap @dq<|ap @OL<|ap @jW<|ap @GH<|ap @ff<|ap @fu<|ap @gX<|ap @il<|ap @jn<|ap @mH<|ap @qa <| @Kx
end Go.Xs
namespace Go.Xs
open List Nat Option
open Go.Proofs
theorem follows:ao.follows .mixedOrders=true:=U
mutual
def dV:Ex->Nat
 | .mk _ _ _ ps=>jb ps+1
def jb:List Ex->Nat
 | []=>0
 | e::es=>dV e+jb es
end
theorem fb:∀{es:List Ex} {e:Ex},e ∈ es->dV e<=jb es
 | e'::es,e,h=>by
   simp only[jb];rcases mem_cons.1 h with rfl | h
   ·omega
   ·have:=fb h;omega
mutual
def Au:Ex->Int->Int
 | .mk _ _ _ ps,l=>za ps (l - 1)
def za:List Ex->Int->Int
 | [],l=>l
 | e::es,l=>if l<0 then l else za es (Au e l)
end
mutual
theorem NA:∀(e:Ex) (l:Int),0<=l->-1<=Au e l/\Au e l<l
 | .mk _ _ _ ps,l,h=>by
   simp only[Au];have:=MY ps (l - 1) af;omega
theorem MY:∀(es:List Ex) (l:Int),-1<=l->-1<=za es l/\za es l<=l
 | [],l,h=>by simp only[za];omega
 | e::es,l,h=>by
   simp only[za];split
   ·omega
   ·have h1:=NA e l af
    have h2:=MY es (Au e l) h1.1;omega
end
theorem It {ps:List Ex} {i:Nat} {e:Ex} (h:ps[i]?=some e) {l:Int} (hl:0<=l):za (ps.drop i) l=za (ps.drop (i+1)) (Au e l):=by
 obtain⟨h1,rfl⟩:=List.getElem?_eq_some_iff.1 h;rw[drop_eq_getElem_cons h1];simp only[za,if_neg (show ¬ l<0 by omega)]
theorem wrap_i64 {n:Int} (h0:-9223372036854775808<=n) (h1:n<=9223372036854775807):IntKind.i64.wrap n=n:=by rw[IntKind.wrap_i64];omega
theorem eF (i:Nat) (h:i<9223372036854775807:=by omega):IntKind.i64.wrap ((i:Int)+1)=((i+1:Nat):Int):=by rw[wrap_i64 af af];omega
theorem f112 (ρ:aK):∀(sz:Nat) (e:Ex) (M:Hp) (nx b:Nat) (cs:List XV) (l:Int),dV e<sz->bG M b e cs->b<=nx->0<=l->l<=60 ->
 ar ao ρ 112 [.agg cs,.int .i64 l] M nx (fe nx M (.int .i64 (Au e l))):=by
 intro sz
 induction sz with
 | zero=>intro e M nx b cs l h;omega
 | succ sz ih =>
 intro e M nx b cs l cJ he hb h0 h60;obtain⟨k,x,y,ps⟩:=e;simp only[bG]at he;obtain⟨v,row,rfl,cw,jd⟩:=he;have hv:=cw.cell;have hw:IntKind.i64.wrap (l - 1)=l - 1:=wrap_i64 af af;refine ar.wk 27 [.tmp 4] Tryz.func112 ?_;refine jz fT hv.1 hv.2 hw ?_;refine aC (fun m s=>∃(i:Nat) (l':Int),i<=ps.length/\m=ps.length - i/\-1<=l'/\l'<=60/\za (ps.drop i) l'=za ps (l - 1)/\gG s.env 1=some (.int .i64 l')/\gG s.env 2=some (.mp nx 0)/\gG s.env 5=some (.int .i64 i) /\
  gG s.M nx=some (.row [.int .i64 k,.int .u64 x,.int .u64 y,v])/\aq nx M s.M/\nx<s.nx) ps.length ⟨0,l - 1,af,af,af,af,aj,?_⟩ ?_
 ·refine dt fT ?_
  exact⟨fun k hk=>by rw[aB,if_neg af],af⟩
 ·rintro m ⟨env,M',nx'⟩ ⟨i,l',hi,hm,VF,Gn,xo,e1,e2,e5,hM,ha,hn⟩
  simp only at e1 e2 e5 hM ha hn;have ay:=fun N=>cw.len (P:=ao) (t:=42) ff.2.2.2.2.2 N
  by_cases aL:(i:Int)<ps.length
  ·by_cases yN:(0:Int)<=l'
   ·have aP:i<ps.length:=af
    obtain⟨e,gA⟩:∃e,ps[i]?=some e:=⟨ps[i],by simp[aP]⟩;obtain⟨n,o,jw,bC,aU⟩:=cw.elem (P:=ao) aP (t:=42) (t':=44) ff.2.2.2.1 fu.1;have aU:=aU M' (ha.le hb);have JH:=(jd.get gA).agr (ha.le hb);have hsz':dV e<sz:=by
     have h1:=fb (mem_of_getElem? gA);simp only[dV]at cJ;omega
    have Yx:=NA e l' yN;have bw:=It gA yN;have hz:(ps.length:Int)<=9223372036854775807:=by have:=cw.1;omega
    have bV:=eF i;refine rf fT e1 e2 e5 hM ay aL yN bC aU ?_;refine gQ (ih e M' _ b _ l' hsz' JH af yN Gn) ?_;rintro⟨v',M'',nx''⟩ ⟨h1,h2,h3⟩;simp only at h1 h2 h3;subst h1;refine lO fT e1 e2 e5 bV ?_;exact⟨ps.length - (i+1),af,i+1,Au e l',af,rfl,af,af,by rw[<-bw,xo],rfl,rfl,by rw[h2 nx af,hM],ha.trans (h2.le af),af⟩
   ·have hd:za (ps.drop i) l'=l':=by
     cases hdd:ps.drop i with
     | nil=>rfl
     | cons e es=>simp only[za,if_pos (show l'<0 by omega)]
    refine wT fT e1 e2 e5 hM ay aL yN @fe.eq_1 ?_;exact⟨by simp only[Au];rw[<-xo,hd],ha,af⟩
  ·have hd:ps.drop i=[]:=drop_eq_nil_of_le af
   refine mD fT e1 e2 e5 hM ay aL @fe.eq_1 ?_;refine⟨?_,ha,af⟩;simp only[Au];rw[<-xo,hd];rfl
end Go.Xs
namespace Go.Xs
open List Nat Option
variable{M:Hp}{b nx:Nat}{cs:List XV}{l:List aR}{r:aR}
open Go.Proofs
theorem f63 (ρ:aK) {e:Ex} (he:bG M b e cs) (hb:b<=nx) :
 ar ao ρ 63 [.agg cs] M nx (fe nx M (.bool (decide (0<=Au e 60)))):=by
 have sx:=he;obtain⟨k,x,y,ps⟩:=e;simp only[bG]at sx;obtain⟨v,row,rfl,cw,jd⟩:=sx;have hv:=cw.cell;refine ar.wk 6 [.tmp 2] Tryz.func63 ?_;refine gk fT hv.1 hv.2 ?_;have ha:aq nx M (aG M nx (.row [.int .i64 k,.int .u64 x,.int .u64 y,v])):=(aq.refl _ _).set (Nat.le_refl _) _;refine lG (f112 ρ _ _ _ _ b _ 60 (lt_succ_self _) (he.agr (ha.le hb)) af af af) fun M' nx' h2 h3=>?_
 refine dt fT ?_;exact .mk (ha.trans (h2.le af)) af
def vE (r:aR):Bool:=decide (r.es.length<=60)&&decide (0<=Au r.p 60)
theorem Sk (ρ:aK) (hr:c_ M b r cs) (hb:b<=nx) :
 ar ao ρ 27 [.agg cs] M nx (fe nx M (.bool (vE r))):=by
 obtain⟨kind,t,x,w,n,vv,p,es⟩:=r;obtain⟨pc,ve,rfl,he,dZ⟩:=hr;have sx:=he;obtain⟨pk,pa,pb,ps⟩:=p;simp only[bG]at sx;obtain⟨v,row,rfl,cw,jd⟩:=sx;have hv:=cw.cell;have sW:=bE.cell dZ;have ay:=fun N=>bE.len (P:=ao) (t:=45) dZ gX.2.2.2.2.2 N
 refine ar.wk 12 [.tmp 2] Tryz.func27 ?_;by_cases jT:(es.length:Int)<=60
 ·refine ky oU hv.1 hv.2 sW.1 sW.2 ay jT ?_
  generalize xu:aG M nx _=M1;have ha:aq nx M M1:=by rw[<-xu];exact(aq.refl _ _).set (Nat.le_refl _) _
  refine lG (f63 ρ (he.agr (ha.le hb)) af) fun M' nx' h2 h3=>?_
  refine dt oU ?_;simp only[vE,jT,fe];exact⟨am,ha.trans (h2.le af),af⟩
 ·refine ky oU hv.1 hv.2 sW.1 sW.2 ay jT ?_
  simp only[vE,fe];exact⟨am,(aq.refl _ _).set (Nat.le_refl _) _,af⟩
def AM (l:List aR) (most:Nat):Bool:=(l.take (most+1)).all vE&&decide (l.length<=most)
theorem Iv {i:Nat} (h:l[i]?=some r):(l.take (i+1)).all vE=((l.take i).all vE&&vE r):=by
 rw[take_add_one,h];simp
theorem f7 (ρ:aK) {most:Nat} {v:XV} (hl:cP M b v l) (hb:b<=nx) (hm:most<=1000) :
 ar ao ρ 7 [v,.int .i64 most] M nx (fe nx M (.bool (AM l most))):=by
 obtain⟨row,cw,gS⟩:=hl;have ay:=fun N=>cw.len (P:=ao) (t:=22) jp.2.2.2.2.2 N
 refine ar.wk 27 [.tmp 4] Tryz.func7 ?_;refine dt O7 ?_;refine aC (fun m s=>∃i:Nat,i<=l.length/\i<=most+1/\m=l.length - i/\(l.take i).all vE=true/\gG s.env 0=some v/\gG s.env 1=some (.int .i64 most)/\gG s.env 5=some (.int .i64 i)/\aq nx M s.M/\nx<=s.nx)
  l.length ⟨0,af,af,af,aj,?_⟩ ?_
 ·refine dt O7 ?_
  exact⟨aq.refl _ _,af⟩
 ·rintro m ⟨env,M',nx'⟩ ⟨i,hi,him,ir,dy,e0,e1,e5,ha,hn⟩
  simp only at e0 e1 e5 ha hn;have hz:=cw.1;by_cases aL:(i:Int)<l.length
  ·by_cases jT:(i:Int)<=most
   ·have aP:i<l.length:=af
    obtain⟨r,hr⟩:∃r,l[i]?=some r:=⟨l[i],by simp[aP]⟩;obtain⟨n,o,jw,bC,aU⟩:=cw.elem (P:=ao) aP (t:=22) (t':=47) jp.2.2.2.1 il.1;have aU:=aU M' (ha.le hb);have bV:=eF i;refine wT O7 e0 e1 e5 ay aL jT bC aU ?_;refine lG (Sk ρ ((gS i r hr).agr (ha.le hb)) af) fun M'' nx'' h2 h3=>?_
    cases hf:vE r with
    | false =>
      refine ul O7 e0 e1 e5 hf @fe.eq_1 ?_;refine⟨?_,ha.trans (h2.le af),af⟩;have h1:r ∈ l.take (most+1):=mem_of_getElem? (i:=i) (by rw[getElem?_take,if_pos af];exact hr);congr 1
      symm
      rw[AM,Bool.and_eq_false_iff];left;rw[List.all_eq_false];exact⟨r,h1,by simp[hf]⟩
    | true =>
      refine ul O7 e0 e1 e5 hf bV ?_;exact⟨l.length - (i+1),af,i+1,af,af,rfl,by rw[Iv hr,dy,hf];rfl,rfl,ha.trans (h2.le af),af⟩
   ·refine mD O7 e0 e1 e5 ay aL jT @fe.eq_1 ?_
    refine⟨?_,ha,af⟩;congr 1;have h1:decide (l.length<=most)=false:=decide_eq_false af;have h2:decide ((l.length:Int)<=most)=false:=decide_eq_false af;rw[AM,h1,h2,Bool.and_false]
  ·refine ky O7 e0 e1 e5 ay aL @fe.eq_1 ?_
   refine⟨?_,ha,af⟩;congr 1;have hi':i=l.length:=af;subst hi';rw[take_length]at dy;rw[AM,take_of_length_le af,dy];simp
def np (k:Int):Int:=if k=2\/k=3 then 1 else if k=4 then 2 else 0
def qt (k:Int):Int:=if k=5 then 1 else 0
def uM (k:Int):Int:=if k=5 then 1 else if k=6\/k=7 then 32 else 0
def sp (kb:Nat) (k:Int):XV :=
 if k=1 then .fn (.func 365) [] [] else if k=2 then .fn (.func 366) [] [] else if k=3 then .fn (.func 367) [] [] else if k=4 then .fn (.func 368) [] [] else
 if k=5 then .fn (.func 369) [] [.mp kb 0] else if k=6 then .fn (.func 370) [] [.mp kb 0] else .fn (.func 371) [] [.mp kb 0]
def uZ (kb:Nat) (k:Int):List XV:=[.int .i64 (np k),.int .i64 (qt k),.int .i64 (uM k),sp kb k]
def IZ (kb:Nat):List XV:=[.int .i64 0,.int .i64 0,.int .i64 0,.nilf]++uZ kb 1++uZ kb 2++uZ kb 3++uZ kb 4++uZ kb 5++uZ kb 6++uZ kb 7
def qR (M:Hp) (kb:Nat):Prop:=gG M kb=some (.row [.fn (.func 363) [] []])
theorem f335 (ρ:aK) (M:Hp) (nx:Nat):ar ao ρ 335 [] M nx fun r=>∃kb,r.1 = .agg (IZ kb)/\nx<=kb/\kb<r.2.2/\qR r.2.1 kb/\aq nx M r.2.1:=by
 refine ar.wk 13 [.cell 0 428] Tryz.func335 ?_;refine dt gy3 ?_;refine⟨nx+1,?_,af,af,?_,?_⟩
 ·simp[IZ,uZ,np,qt,uM,sp]
 ·simp only[qR,aB]
  rw[if_neg af];simp
 ·exact((((aq.refl _ _).set af _).set af _).set af _).set af _
theorem WO (ρ:aK) (M:Hp) (nx:Nat) (k:Int) (h0:1<=k) (h1:k<=7):ar ao ρ 286 [.int .i64 k] M nx fun r=>∃kb,r.1 = .tup [.agg (uZ kb k),.bool true]/\nx<=kb/\kb<r.2.2/\qR r.2.1 kb/\aq nx M r.2.1:=by
 refine ar.wk 14 [.cell 2 374,.tmp 3] Tryz.func286 ?_;have c1:¬ k<1:=af;have c2:¬ 8<=k:=af;refine gk Vd c1 c2 ?_;refine gQ (f335 ρ _ _) ?_;rintro⟨v,M',nx'⟩ ⟨kb,h1,h2,h3,h4,h5⟩;simp only at h1 h2 h3 h4 h5;subst h1;have hk:∃j:Nat,k=j/\1<=j/\j<=7:=⟨k.toNat,af,af,af⟩;obtain⟨j,rfl,j1,j2⟩:=hk;have hd:(IZ kb).drop ((j:Int).toNat*4)=uZ kb j++(IZ kb).drop ((j:Int).toNat*4+4):=by
  have:j=1\/j=2\/j=3\/j=4\/j=5\/j=6\/j=7:=af;rcases this with rfl | rfl | rfl | rfl | rfl | rfl | rfl<;>rfl
 have UA:Ru (some (4,true)) ((IZ kb).drop ((j:Int).toNat*4))=some (.agg (uZ kb j)):=by rw[hd];rfl
 have gE:ax (sp kb j)=true:=by
  have:j=1\/j=2\/j=3\/j=4\/j=5\/j=6\/j=7:=af;rcases this with rfl | rfl | rfl | rfl | rfl | rfl | rfl<;>rfl
 have hM:gG M' nx=some (.row [.int .i64 0,.int .i64 0,.int .i64 0,.nilf]):=by
  rw[h5 nx af,aB,if_pos rfl]
 have cF:cellsOf (sp kb j)=[sp kb j]:=by
  have:j=1\/j=2\/j=3\/j=4\/j=5\/j=6\/j=7:=af;rcases this with rfl | rfl | rfl | rfl | rfl | rfl | rfl<;>rfl
 refine ul Vd UA @uZ.eq_1 hM gE cF ?_;refine⟨kb,rfl,af,af,?_,?_⟩
 ·unfold qR at h4 ⊢
  rw[aB,if_neg af];exact h4
 ·exact(((aq.refl nx M).set (Nat.le_refl _) _).trans (h5.le af)).set (Nat.le_refl _) _
theorem f365 (ρ:aK) (k a b' x y:Int) (v:XV) (hv:cellsOf v=[v]/\ax v=true):ar ao ρ 365 [.agg [.int .i64 k,.int .u64 a,.int .u64 b',v],.int .u64 x,.int .u64 y] M nx (fe nx M (.bool true)):=by
 refine ar.wk 7 [.tmp 6] Tryz.func365 ?_;refine jz fT hv.1 hv.2 @fe.eq_1 ?_;exact⟨(aq.refl _ _).set (Nat.le_refl _) _,af⟩
theorem f366 (ρ:aK) (k a b' x y:Int) (v:XV) (hv:cellsOf v=[v]/\ax v=true):ar ao ρ 366 [.agg [.int .i64 k,.int .u64 a,.int .u64 b',v],.int .u64 x,.int .u64 y] M nx (fe nx M (.bool (decide (x<=a)))):=by
 refine ar.wk 11 [.tmp 6] Tryz.func366 ?_;refine jz fT hv.1 hv.2 @fe.eq_1 ?_;exact⟨(aq.refl _ _).set (Nat.le_refl _) _,af⟩
theorem f367 (ρ:aK) (k a b' x y:Int) (v:XV) (hv:cellsOf v=[v]/\ax v=true):ar ao ρ 367 [.agg [.int .i64 k,.int .u64 a,.int .u64 b',v],.int .u64 x,.int .u64 y] M nx (fe nx M (.bool (decide (y<=a)))):=by
 refine ar.wk 11 [.tmp 6] Tryz.func367 ?_;refine jz fT hv.1 hv.2 @fe.eq_1 ?_;exact⟨(aq.refl _ _).set (Nat.le_refl _) _,af⟩
theorem f368 (ρ:aK) (k a b' x y:Int) (v:XV) (hv:cellsOf v=[v]/\ax v=true) (ha:a≠0):ar ao ρ 368 [.agg [.int .i64 k,.int .u64 a,.int .u64 b',v],.int .u64 x,.int .u64 y] M nx (fe nx M (.bool (decide (y.tmod a=b')))):=by
 refine ar.wk 14 [.tmp 6] Tryz.func368 ?_;refine jz fT hv.1 hv.2 @fe.eq_1 ?_;exact⟨(aq.refl _ _).set (Nat.le_refl _) _,af⟩
end Go.Xs
namespace Go.Xs
open List Nat Option
variable{M:Hp}{b g nx:Nat}{caps first:List XV}{v:XV}{α:Type}
open Go.Proofs
def eN {α:Type} (q:α->Bool):List α->Nat->Int
 | [],_=>-1
 | e::es,i=>if q e then (i:Int) else eN q es (i+1)
theorem lr {q:α->Bool} {ps:List α} {i:Nat} {e:α} (h:ps[i]?=some e):eN q (ps.drop i) i=if q e then (i:Int) else eN q (ps.drop (i+1)) (i+1):=by
 obtain⟨h1,rfl⟩:=List.getElem?_eq_some_iff.1 h;rw[drop_eq_getElem_cons h1];rfl
theorem uK {q:α->Bool} (ps:List α) (i:Nat):decide (0<=eN q ps i)=ps.any q:=by
 induction ps generalizing i with
 | nil=>rfl
 | cons e es ih =>
   by_cases h:q e=true
   ·have h1:eN q (e::es) i=i:=if_pos h
    simp[h1,h]
   ·have h1:eN q (e::es) i=eN q es (i+1):=if_neg h
    have h':q e=false:=by simpa using h
    simp only[h1,ih,any_cons,h',Bool.false_or]
theorem f362 (ρ:aK) {ps:List Ex} {row:List XV} (cw:bE M b v 4 ps.length row) (jd:cj M b ps row) (hb:b<=nx) (q:Ex->Bool)
 (hq:∀e ∈ ps,∀(M':Hp) (nx':Nat) (cs:List XV),aq nx M M'->nx<=nx'->bG M' b e cs->ar ao ρ g (first++[.agg cs]++caps) M' nx' (fe nx' M' (.bool (q e)))) :
 ar ao ρ 362 [v,.fn (.func g) first caps] M nx (fe nx M (.int .i64 (eN q ps 0))):=by
 have ay:=fun N=>cw.len (P:=ao) (t:=42) ff.2.2.2.2.2 N
 have hz:=cw.1;refine ar.wk 19 [.tmp 4] Tryz.func362 ?_;refine fM fT ay ?_;refine aC (fun m s=>∃i:Nat,i<=ps.length/\m=ps.length - i/\eN q (ps.drop i) i=eN q ps 0/\gG s.env 0=some v/\gG s.env 1=some (.fn (.func g) first caps)/\gG s.env 7=some (.int .i64 ps.length)/\gG s.env 8=some (.int .i64 i)/\aq nx M s.M/\nx<=s.nx)
  ps.length ⟨0,af,af,aj,?_⟩ ?_
 ·refine dt fT ?_
  exact⟨aq.refl _ _,af⟩
 ·rintro m ⟨env,M',nx'⟩ ⟨i,hi,hm,pA,e0,e1,e7,e8,ha,hn⟩
  simp only at e0 e1 e7 e8 ha hn;by_cases aL:(i:Int)<ps.length
  ·have aP:i<ps.length:=af
   obtain⟨e,gA⟩:∃e,ps[i]?=some e:=⟨ps[i],by simp[aP]⟩;obtain⟨n,o,jw,bC,aU⟩:=cw.elem (P:=ao) aP (t:=42) (t':=44) ff.2.2.2.1 fu.1;have aU:=aU M' (ha.le hb);have bV:=eF i;have bw:=lr (q:=q) gA;refine mD fT e0 e1 e7 e8 aL bC aU ?_;refine gQ (hq e (mem_of_getElem? gA) M' _ _ ha af ((jd.get gA).agr (ha.le hb))) ?_;rintro⟨v',M'',nx''⟩ ⟨h1,h2,h3⟩;simp only at h1 h2 h3;subst h1;cases yR:q e with
   | true =>
     refine ky fT e0 e1 e7 e8 yR @fe.eq_1 ?_;refine⟨?_,ha.trans (h2.le af),af⟩;rw[<-pA,bw,yR];rfl
   | false =>
     refine ky fT e0 e1 e7 e8 yR bV ?_;exact⟨ps.length - (i+1),af,i+1,af,rfl,by rw[<-pA,bw,yR];rfl,rfl,ha.trans (h2.le af),af⟩
  ·have hd:ps.drop i=[]:=drop_eq_nil_of_le af
   refine ky fT e0 e1 e7 e8 aL @fe.eq_1 ?_;refine⟨?_,ha,af⟩;rw[<-pA,hd];rfl
theorem W5 (ρ:aK) {ps:List Ex} {row:List XV} (cw:bE M b v 4 ps.length row) (jd:cj M b ps row) (hb:b<=nx) (q:Ex->Bool)
 (hq:∀e ∈ ps,∀(M':Hp) (nx':Nat) (cs:List XV),aq nx M M'->nx<=nx'->bG M' b e cs->ar ao ρ g (first++[.agg cs]++caps) M' nx' (fe nx' M' (.bool (q e)))) :
 ar ao ρ 333 [v,.fn (.func g) first caps] M nx (fe nx M (.bool (ps.any q))):=by
 refine ar.wk 9 [.tmp 4] Tryz.func333 ?_;refine dt lK ?_;refine lG (f362 ρ cw jd af q fun e he M' nx' cs ha hn=>hq e he M' nx' cs (ha.le af) af) fun M'' nx'' h2 h3=>?_
 refine fM lK @fe.eq_1 ?_;exact⟨by rw[uK],h2.le af,af⟩
def gL (k a b:Int) (n:Nat):Bool :=
 decide (1<=k)&&decide (k<8) && !(decide ((n:Int)<qt k)) && !(decide (uM k<n)) && !(decide (np k<2)&&decide (0<b)) && !(decide (np k<1)&&decide (0<a)) && !(decide (np k=2)&&decide (a<=b))
mutual
def iE:Ex->Bool
 | .mk k a b ps=>gL k a b ps.length&&C3 ps
def C3:List Ex->Bool
 | []=>true
 | e::es=>iE e&&C3 es
end
theorem wL:∀(ps:List Ex),C3 ps = !(ps.any fun e=>!(iE e))
 | []=>rfl
 | e::es=>by
   simp only[C3,any_cons,wL es];cases iE e<;>simp
theorem W0 (ρ:aK) (M:Hp) (nx:Nat) (k:Int) (h:¬ (1<=k/\k<8)):ar ao ρ 286 [.int .i64 k] M nx (fe nx M (.tup [.agg [.int .i64 0,.int .i64 0,.int .i64 0,.nilf],.bool false])):=by
 refine ar.wk 14 [.cell 2 374,.tmp 3] Tryz.func286 ?_;by_cases c1:k<1
 ·refine gk Vd c1 @fe.eq_1 ?_
  exact⟨((aq.refl _ _).set af _).set af _,af⟩
 ·have c2:8<=k:=af
  refine jz Vd c1 c2 @fe.eq_1 ?_;exact⟨((aq.refl _ _).set af _).set af _,af⟩
end Go.Xs
namespace Go.Xs
open List Nat Option
open Go.Proofs
theorem f334 (ρ:aK) {e:Ex} {M:Hp} {nx b:Nat} {cs:List XV} (he:bG M b e cs)
 (h:∀(M':Hp) (nx':Nat),aq nx M M'->nx<=nx'->ar ao ρ 283 [.agg cs] M' nx' (fe nx' M' (.bool (iE e)))) :
 ar ao ρ 334 [.agg cs] M nx (fe nx M (.bool (!(iE e)))):=by
 have sx:=he;obtain⟨k,x,y,ps⟩:=e;simp only[bG]at sx;obtain⟨v,row,rfl,cw,jd⟩:=sx;have hv:=cw.cell;refine ar.wk 6 [.tmp 2] Tryz.func334 ?_;refine gk EZ hv.1 hv.2 ?_;refine gQ (h _ _ ((aq.refl _ _).set (Nat.le_refl _) _) af) ?_;rintro⟨v',M',nx'⟩ ⟨h1,h2,h3⟩;simp only at h1 h2 h3;subst h1;refine fM EZ @fe.eq_1 ?_;exact⟨((aq.refl _ _).set (Nat.le_refl _) _).trans (h2.le af),af⟩
theorem f283 (ρ:aK):∀(sz:Nat) (e:Ex) (M:Hp) (nx b:Nat) (cs:List XV),dV e<sz->bG M b e cs->b<=nx->ar ao ρ 283 [.agg cs] M nx (fe nx M (.bool (iE e))):=by
 intro sz
 induction sz with
 | zero=>intro e M nx b cs h;omega
 | succ sz ih =>
 intro e M nx b cs cJ he hb;obtain⟨k,x,y,ps⟩:=e;simp only[bG]at he;obtain⟨v,row,rfl,cw,jd⟩:=he;have hv:=cw.cell;have ay:=fun N=>cw.len (P:=ao) (t:=42) ff.2.2.2.2.2 N
 have TV:∀e ∈ ps,∀(M':Hp) (nx':Nat) (cs:List XV),nx<=nx'->bG M' b e cs->ar ao ρ 334 ([]++[.agg cs]++[]) M' nx' (fe nx' M' (.bool (!(iE e)))):=by
  intro e hm M' nx' cs hn D1;refine f334 ρ D1 fun M'' nx'' ha yZ=>ih e M'' nx'' b cs ?_ (D1.agr (ha.le af)) af
  have:=fb hm;simp only[dV]at cJ;omega
 refine ar.wk 65 [.tmp 2] Tryz.func283 ?_;by_cases hk:1<=k/\k<8
 ·refine gk CA hv.1 hv.2 ?_
  refine gQ (WO ρ _ _ k hk.1 af) ?_;rintro⟨v',M',nx'⟩ ⟨kb,h1,h2,h3,h4,h5⟩;simp only at h1 h2 h3 h4 h5;subst h1;have hM:gG M' nx=some (.row [.int .i64 k,.int .u64 x,.int .u64 y,v]):=by rw[h5 nx af,aB,if_pos rfl]
  have ha:aq nx M M':=((aq.refl nx M).set (Nat.le_refl _) _).trans (h5.le af);clear h5;have gE:ax (sp kb k)=true:=by
   have:k=1\/k=2\/k=3\/k=4\/k=5\/k=6\/k=7:=af;rcases this with rfl | rfl | rfl | rfl | rfl | rfl | rfl<;>rfl
  have jX:∀(o o':bx),aq nx M (aG (aG M' (nx'+3) o) (nx'+3) o'):=fun o o'=>(ha.set af _).set af _
  have fq:nx<=nx'+25:=af;have no:iE (.mk k x y ps)=false->∀(M1:Hp) (n1:Nat),aq nx M M1->nx<=n1->fe nx M (.bool (iE (.mk k x y ps))) (.bool false,M1,n1):=fun h M1 n1 h1 h2=>by rw[h];exact .mk h1 h2
  have yes:gL k x y ps.length=true->iE (.mk k x y ps)=C3 ps:=fun h=>by simp only[iE,h,Bool.true_and]
  have go:∀(M1:Hp) (n1:Nat),nx<=n1->aq nx M M1->ar ao ρ 333 [v,.fn (.func 334) [] []] M1 n1 (fe n1 M1 (.bool (!(C3 ps)))):=fun M1 n1 hn hA=>by
   have:=W5 ρ (nx:=n1) (cw.agr (hA.le hb)) (jd.agr (hA.le hb)) af (g:=334) (first:=[]) (caps:=[]) (fun e=>!(iE e)) fun e he M2 n2 cs _ fq Uj=>TV e he M2 n2 cs af Uj
   rw[wL,Bool.not_not];exact this
  clear TV ih cJ;by_cases c1:(ps.length:Int)<qt k
  ·refine ul CA hM ay @uZ.eq_1 gE c1 ?_
   exact no (by simp[iE,gL,c1]) _ _ (jX _ _) af
  by_cases c2:uM k<(ps.length:Int)
  ·refine ky CA hM ay @uZ.eq_1 gE c1 c2 ?_
   exact no (by simp[iE,gL,c2]) _ _ (jX _ _) af
  have hN:np k=0\/np k=1\/np k=2:=by
   unfold np;split
   ·exact .inr (.inl rfl)
   ·split
    ·exact .inr (.inr rfl)
    ·exact .inl rfl
  rcases hN with hN | hN | hN
  ·by_cases c4:0<y
   ·refine wT CA hM ay @uZ.eq_1 gE c1 c2 hN c4 ?_
    exact no (by simp[iE,gL,hN,c4]) _ _ (jX _ _) af
   by_cases c6:0<x
   ·refine rf CA hM ay @uZ.eq_1 gE c1 c2 hN c4 c6 ?_
    exact no (by simp[iE,gL,hN,c6]) _ _ (jX _ _) af
   refine rf CA hM ay @uZ.eq_1 gE c1 c2 hN c4 c6 ?_;refine gQ (go _ _ af (jX _ _)) ?_;rintro⟨v',M2,n2⟩ ⟨g1,g2,g3⟩;simp only at g1 g2 g3;subst g1;refine fM CA @fe.eq_1 ?_;exact⟨by rw[yes (by simp[gL,hk.1,hk.2,c1,c2,hN,c4,c6]),Bool.not_not],(jX _ _).trans (g2.le af),af⟩
  ·by_cases c4:0<y
   ·refine wT CA hM ay @uZ.eq_1 gE c1 c2 hN c4 ?_
    exact no (by simp[iE,gL,hN,c4]) _ _ (jX _ _) af
   refine wT CA hM ay @uZ.eq_1 gE c1 c2 hN c4 ?_;refine gQ (go _ _ af (jX _ _)) ?_;rintro⟨v',M2,n2⟩ ⟨g1,g2,g3⟩;simp only at g1 g2 g3;subst g1;refine fM CA @fe.eq_1 ?_;exact⟨by rw[yes (by simp[gL,hk.1,hk.2,c1,c2,hN,c4]),Bool.not_not],(jX _ _).trans (g2.le af),af⟩
  ·by_cases c8:x<=y
   ·refine wT CA hM ay @uZ.eq_1 gE c1 c2 hN c8 ?_
    exact no (by simp[iE,gL,hN,c8]) _ _ (jX _ _) af
   refine wT CA hM ay @uZ.eq_1 gE c1 c2 hN c8 ?_;refine gQ (go _ _ af (jX _ _)) ?_;rintro⟨v',M2,n2⟩ ⟨g1,g2,g3⟩;simp only at g1 g2 g3;subst g1;refine fM CA @fe.eq_1 ?_;exact⟨by rw[yes (by simp[gL,hk.1,hk.2,c1,c2,hN,c8]),Bool.not_not],(jX _ _).trans (g2.le af),af⟩
 ·refine gk CA hv.1 hv.2 ?_
  refine gQ (W0 ρ _ _ k hk) ?_;rintro⟨v',M',nx'⟩ ⟨h1,h2,h3⟩;simp only at h1 h2 h3;subst h1;refine fM CA @fe.eq_1 ?_;have:iE (.mk k x y ps)=false:=by
   simp only[iE,gL];by_cases h1:1<=k
   ·have:¬ k<8:=af
    simp[this]
   ·simp[h1]
  rw[this];exact⟨rfl,((((aq.refl _ _).set (Nat.le_refl _) _).trans (h2.le af)).set af _).set af _,af⟩
end Go.Xs
namespace Go.Xs
open List Nat Option
variable{i:Nat}
open Go.Proofs
mutual
theorem My:∀(e:Ex) (l:Int),0<=Au e l->Au e l=l - dV e
 | .mk _ _ _ ps,l,h=>by
   simp only[Au,dV]at h ⊢;have:=HK ps (l - 1) h;omega
theorem HK:∀(es:List Ex) (l:Int),0<=za es l->za es l=l - jb es
 | [],l,h=>by simp[za,jb]
 | e::es,l,h=>by
   simp only[za,jb]at h ⊢;split at h
   ·omega
   ·rename_i hl
    rw[if_neg hl];have h2:=HK es _ h;have h1:0<=Au e l:=af;have:=My e l h1;omega
end
theorem Em {e:Ex} (h:0<=Au e 60):dV e<=60:=by have:=My e 60 h;omega
mutual
def Ee:Ex->Nat
 | .mk _ _ _ ps=>vC ps+1
def vC:List Ex->Nat
 | []=>0
 | e::es=>max (Ee e) (vC es)
end
mutual
theorem Hz:∀(e:Ex),Ee e<=dV e
 | .mk _ _ _ ps=>by simp only[Ee,dV];have:=s7 ps;omega
theorem s7:∀(es:List Ex),vC es<=jb es
 | []=>by simp[vC]
 | e::es=>by simp only[vC,jb];have:=Hz e;have:=s7 es;omega
end
theorem ES {ps:List Ex} {e:Ex} (h:ps[i]?=some e):jb (ps.drop i)=dV e+jb (ps.drop (i+1)):=by
 obtain⟨h1,rfl⟩:=List.getElem?_eq_some_iff.1 h;rw[drop_eq_getElem_cons h1];rfl
theorem FR {ps:List Ex} {e:Ex} (h:ps[i]?=some e):vC (ps.drop i)=max (Ee e) (vC (ps.drop (i+1))):=by
 obtain⟨h1,rfl⟩:=List.getElem?_eq_some_iff.1 h;rw[drop_eq_getElem_cons h1];rfl
theorem yB (ps:List Ex) (i:Nat):jb (ps.drop i)<=jb ps:=by
 induction ps generalizing i with
 | nil=>simp
 | cons e es ih =>
   cases i with
   | zero=>exact Nat.le_refl _
   | succ i=>simp only[drop_succ_cons,jb];have:=ih i;omega
theorem f285 (ρ:aK):∀(sz:Nat) (e:Ex) (M:Hp) (nx b:Nat) (cs:List XV),dV e<sz->bG M b e cs->b<=nx->dV e<=1000->ar ao ρ 285 [.agg cs] M nx (fe nx M (.int .i64 (dV e))):=by
 intro sz
 induction sz with
 | zero=>intro e M nx b cs h;omega
 | succ sz ih =>
 intro e M nx b cs cJ he hb Zc;obtain⟨k,x,y,ps⟩:=e;simp only[bG]at he;obtain⟨v,row,rfl,cw,jd⟩:=he;have hv:=cw.cell;have ay:=fun N=>cw.len (P:=ao) (t:=42) ff.2.2.2.2.2 N
 have hz:=cw.1;simp only[dV]at Zc cJ;refine ar.wk 19 [.tmp 2] Tryz.func285 ?_;refine jz fT hv.1 hv.2 ay ?_;refine aC (fun m s=>∃(i c:Nat),i<=ps.length/\m=ps.length - i/\c+jb (ps.drop i)=jb ps+1/\gG s.env 3=some (.int .i64 c)/\gG s.env 7=some v/\gG s.env 8=some (.int .i64 ps.length)/\gG s.env 9=some (.int .i64 i)/\aq nx M s.M/\nx<=s.nx)
  ps.length ⟨0,1,af,af,am,?_⟩ ?_
 ·refine dt fT ?_
  exact⟨(aq.refl _ _).set af _,af⟩
 ·rintro m ⟨env,M',nx'⟩ ⟨i,c,hi,hm,hc,e3,e7,e8,e9,ha,hn⟩
  simp only at e3 e7 e8 e9 ha hn;by_cases aL:(i:Int)<ps.length
  ·have aP:i<ps.length:=af
   obtain⟨e,gA⟩:∃e,ps[i]?=some e:=⟨ps[i],by simp[aP]⟩;obtain⟨n,o,jw,bC,aU⟩:=cw.elem (P:=ao) aP (t:=42) (t':=44) ff.2.2.2.1 fu.1;have aU:=aU M' (ha.le hb);have bV:=eF i;have wS:=ES gA;have hdl:=yB ps i;have jT:=fb (mem_of_getElem? gA);have yK:=(jd.get gA).agr (ha.le hb);have F_:IntKind.i64.wrap ((c:Int)+dV e)=((c+dV e:Nat):Int):=by rw[wrap_i64 af af];omega
   generalize (row.drop (i*4)).take 4=ecs at aU yK;have Gk:∃a1 a2 a3 a4,ecs=[.int .i64 a1,.int .u64 a2,.int .u64 a3,a4]/\cellsOf a4=[a4]/\ax a4=true:=by
    obtain⟨k',x',y',ps'⟩:=e;simp only[bG]at yK;obtain⟨v',row',rfl,ox,_⟩:=yK;exact⟨_,_,_,_,rfl,ox.cell⟩
   obtain⟨a1,a2,a3,a4,rfl,p1,p2⟩:=Gk;refine mD fT e3 e7 e8 e9 aL bC aU ?_;refine gQ (ih e _ _ b _ af (yK.agr (((aq.refl b M').set af _).set af _)) af af) ?_;rintro⟨v',M'',nx''⟩ ⟨h1,h2,h3⟩;simp only at h1 h2 h3;subst h1;refine ky fT e3 e7 e8 e9 bV F_ ?_;exact⟨ps.length - (i+1),af,i+1,c+dV e,af,rfl,af,rfl,rfl,((ha.set af _).set af _).trans (h2.le af),af⟩
  ·have hd:ps.drop i=[]:=drop_eq_nil_of_le af
   refine ky fT e3 e7 e8 e9 aL @fe.eq_1 ?_;refine⟨?_,ha,af⟩;rw[hd]at hc;simp only[jb]at hc;simp only[dV];congr 1;omega
theorem f284 (ρ:aK):∀(sz:Nat) (e:Ex) (M:Hp) (nx b:Nat) (cs:List XV),dV e<sz->bG M b e cs->b<=nx->dV e<=1000->ar ao ρ 284 [.agg cs] M nx (fe nx M (.int .i64 (Ee e))):=by
 intro sz
 induction sz with
 | zero=>intro e M nx b cs h;omega
 | succ sz ih =>
 intro e M nx b cs cJ he hb Zc;obtain⟨k,x,y,ps⟩:=e;simp only[bG]at he;obtain⟨v,row,rfl,cw,jd⟩:=he;have hv:=cw.cell;have ay:=fun N=>cw.len (P:=ao) (t:=42) ff.2.2.2.2.2 N
 have hz:=cw.1;simp only[dV]at Zc cJ;refine ar.wk 20 [.tmp 2] Tryz.func284 ?_;refine jz fT hv.1 hv.2 ay ?_;refine aC (fun m s=>∃(i c:Nat),i<=ps.length/\m=ps.length - i/\max c (vC (ps.drop i))=vC ps/\gG s.env 3=some (.int .i64 c)/\gG s.env 7=some v/\gG s.env 8=some (.int .i64 ps.length)/\gG s.env 9=some (.int .i64 i)/\aq nx M s.M/\nx<=s.nx)
  ps.length ⟨0,0,af,af,aj,?_⟩ ?_
 ·refine dt fT ?_
  exact⟨(aq.refl _ _).set af _,af⟩
 ·rintro m ⟨env,M',nx'⟩ ⟨i,c,hi,hm,hc,e3,e7,e8,e9,ha,hn⟩
  simp only at e3 e7 e8 e9 ha hn;by_cases aL:(i:Int)<ps.length
  ·have aP:i<ps.length:=af
   obtain⟨e,gA⟩:∃e,ps[i]?=some e:=⟨ps[i],by simp[aP]⟩;obtain⟨n,o,jw,bC,aU⟩:=cw.elem (P:=ao) aP (t:=42) (t':=44) ff.2.2.2.1 fu.1;have aU:=aU M' (ha.le hb);have bV:=eF i;have wS:=FR gA;have hdl:=Hz e;have hds:=s7 ps;have jT:=fb (mem_of_getElem? gA);have yK:=(jd.get gA).agr (ha.le hb);have F_:max (c:Int) (Ee e:Int)=((max c (Ee e):Nat):Int):=af;generalize (row.drop (i*4)).take 4=ecs at aU yK;have Gk:∃a1 a2 a3 a4,ecs=[.int .i64 a1,.int .u64 a2,.int .u64 a3,a4]/\cellsOf a4=[a4]/\ax a4=true:=by
    obtain⟨k',x',y',ps'⟩:=e;simp only[bG]at yK;obtain⟨v',row',rfl,ox,_⟩:=yK;exact⟨_,_,_,_,rfl,ox.cell⟩
   obtain⟨a1,a2,a3,a4,rfl,p1,p2⟩:=Gk;refine mD fT e3 e7 e8 e9 aL bC aU ?_;refine gQ (ih e _ _ b _ af (yK.agr (((aq.refl b M').set af _).set af _)) af af) ?_;rintro⟨v',M'',nx''⟩ ⟨h1,h2,h3⟩;simp only at h1 h2 h3;subst h1;refine ky fT e3 e7 e8 e9 bV F_ ?_;exact⟨ps.length - (i+1),af,i+1,max c (Ee e),af,rfl,af,rfl,rfl,((ha.set af _).set af _).trans (h2.le af),af⟩
  ·have hd:ps.drop i=[]:=drop_eq_nil_of_le af
   refine ky fT e3 e7 e8 e9 aL @fe.eq_1 ?_;refine⟨?_,ha,af⟩;rw[hd]at hc;simp only[vC]at hc;have hds:=s7 ps;have QM:IntKind.i64.wrap ((c:Int)+1)=(c:Int)+1:=wrap_i64 af af;simp only[Ee,QM];congr 1;omega
def yw (e:Ex):Bool:=iE e&&decide (Ee e<=8)&&decide (dV e<=32)
theorem Xi (ρ:aK) {e:Ex} {M:Hp} {nx b:Nat} {cs:List XV} (he:bG M b e cs) (hb:b<=nx) (hc:dV e<=1000):ar ao ρ 196 [.agg cs] M nx (fe nx M (.bool (yw e))):=by
 have sx:=he;obtain⟨k,x,y,ps⟩:=e;simp only[bG]at sx;obtain⟨v,row,rfl,cw,jd⟩:=sx;have hv:=cw.cell;refine ar.wk 15 [.tmp 2] Tryz.func196 ?_;refine gk fT hv.1 hv.2 ?_;generalize xu:aG M nx _=M1;have ha:aq nx M M1:=by rw[<-xu];exact(aq.refl _ _).set (Nat.le_refl _) _
 have hg:gG M1 nx=some (.row [.int .i64 k,.int .u64 x,.int .u64 y,v]):=by rw[<-xu,aB,if_pos rfl]
 clear xu;generalize hee:Ex.mk k x y ps=e at he hc ⊢;refine lG (f283 ρ _ e _ _ b _ (lt_succ_self _) (he.agr (ha.le hb)) af) fun M2 n2 h2 h3=>?_
 have hg2:gG M2 nx=some (.row [.int .i64 k,.int .u64 x,.int .u64 y,v]):=by rw[h2 nx af,hg]
 have jX:aq nx M M2:=ha.trans (h2.le af);cases h0:iE e with
 | false =>
   refine gk fT h0 @fe.eq_1 ?_;exact⟨by simp[yw,h0],jX,af⟩
 | true =>
   refine gk fT h0 hg2 ?_;refine lG (f284 ρ _ e _ _ b _ (lt_succ_self _) (he.agr (jX.le hb)) af hc) fun M3 n3 h4 h5=>?_
   have VA:gG M3 nx=some (.row [.int .i64 k,.int .u64 x,.int .u64 y,v]):=by rw[h4 nx af,hg2]
   have oN:aq nx M M3:=jX.trans (h4.le af);by_cases hd:(Ee e:Int)<=8
   ·refine gk fT hd VA ?_
    refine lG (f285 ρ _ e _ _ b _ (lt_succ_self _) (he.agr (oN.le hb)) af hc) fun M4 n4 h6 h7=>?_
    refine fM fT @fe.eq_1 ?_;refine⟨?_,oN.trans (h6.le af),af⟩;have:decide (Ee e<=8)=true:=decide_eq_true af;rw[yw,h0,this];congr 1;simp;omega
   ·refine jz fT hd VA @fe.eq_1 ?_
    have:decide (Ee e<=8)=false:=decide_eq_false af;exact⟨by simp[yw,h0,this],oN,af⟩
end Go.Xs
namespace Go.Xs
open List Nat Option
variable{v:XV}
noncomputable section
variable {P:Program} {ρ:aK} {w w':World} {σ σ':cb} {M N:Hp} {nx n g:Nat} {args:List XV} {R:ew->Prop}
def Cl (n:Nat) (M:Hp):Prop:=∀k o,gG M k=some o->k<n/\cp n o=true
mutual
theorem VR.klt (h:∀k,n<=k->σ k=none):∀{x:XV} {v:Value},VR ρ σ x v->kltV n x=true
 | .un,_,_ | .udf,_,_ | .int ..,_,_ | .bool _,_,_ | .str _,_,_ | .si ..,_,_ | .nils,_,_ | .nilp,_,_ | .nilf,_,_ | .nilm,_,_ | .nili,_,_ | .txt _,_,_=>by simp only[kltV]
 | .sl k ..,v,hv | .mp k _,v,hv | .mm k,v,hv | .yd k,v,hv=>by
   simp only[kltV,blt_eq];refine Nat.lt_of_not_le fun hk=>?_
   simp only[VR,h k hk]at hv;simp at hv
 | .agg cs,v,hv=>by
   simp only[VR]at hv;obtain⟨us,_,r⟩:=hv;simp only[kltV];exact ce.klt h r
 | .tup cs,v,hv=>by
   simp only[VR]at hv;obtain⟨us,_,r⟩:=hv;simp only[kltV];exact ce.klt h r
 | .fn f xs ys,v,hv=>by
   simp only[VR]at hv;obtain⟨us,us',_,r,r'⟩:=hv;unfold kltV;rw[ce.klt h r];exact ce.klt h r'
 | .ifc t x,v,hv=>by
   simp only[VR]at hv;obtain⟨u,_,r⟩:=hv;simp only[kltV];exact VR.klt h r
theorem ce.klt (h:∀k,n<=k->σ k=none):∀{xs:List XV} {us:List Value},ce ρ σ xs us->aE n xs=true
 | [],_,_=>by simp only[aE]
 | x::xs,us,hv=>by
   simp only[ce]at hv;obtain⟨u,us',_,h1,h2⟩:=hv;unfold aE;rw[VR.klt h h1];exact ce.klt h h2
end
theorem eU.klt (h:∀k,n<=k->σ k=none):∀{xs:List (Nat×XV×XV)} {es:List MapEntry},eU ρ σ xs es->cp.go n xs=true
 | [],_,_=>by simp only[cp.go]
 | (b,k,v)::xs,es,hv=>by
   simp only[eU]at hv;obtain⟨e,es',_,_,h1,h2,h3⟩:=hv;unfold cp.go;rw[VR.klt h h1,VR.klt h h2];exact eU.klt h h3
theorem OR.klt (h:∀k,n<=k->σ k=none) {p:Nat×Nat}:∀{o:bx},OR ρ w σ p o->cp n o=true
 | .cst cs,ho=>by
   simp only[OR]at ho;obtain⟨us,t,fz,_,_,_,h5⟩:=ho;simp only[cp];exact ce.klt h h5
 | .row cs,ho=>by
   simp only[OR]at ho;obtain⟨us,t,fz,_,_,_,_,h5⟩:=ho;simp only[cp];exact ce.klt h h5
 | .map es clock,ho=>by
   simp only[OR]at ho;obtain⟨es',_,h2⟩:=ho;simp only[cp];exact eU.klt h h2
 | .iter none _ _ _,_=>by simp only[cp]
 | .iter (Option.some m) _ _ _,ho=>by
   simp only[cp,blt_eq];refine Nat.lt_of_not_le fun hk=>?_
   simp only[OR,h m hk]at ho;simp at ho
theorem Ok.cl (aQ:Ok ρ w σ M) (h:∀k,n<=k->σ k=none):Cl n M:=fun k o hk=>by
 obtain⟨p,hp,ho⟩:=aQ.obj k o hk;refine⟨Nat.lt_of_not_le fun hn=>?_,ho.klt h⟩;rw[h k hn]at hp;cases hp
theorem ft.closed (h:Cl nx M->aE nx args=true->ft P ρ g args M nx R):ft P ρ g args M nx R :=
 fun w σ vs aQ aO aX=>h (aQ.cl aO) (ce.klt aO aX) w σ vs aQ aO aX
theorem ft.imp {R':ew->Prop} (h:ft P ρ g args M nx R) (hR:∀w σ r v w',Ok ρ w σ M->(∀k,nx<=k->σ k=none)->R r->cK ρ w σ M nx r v w'->∃r',R' r'/\cK ρ w σ M nx r' v w'):ft P ρ g args M nx R' :=
 fun w σ vs aQ aO aX o a K Q hK=>h w σ vs aQ aO aX o a K Q fun v w' ⟨r,hr,hp⟩=>hK v w' (hR w σ r v w' aQ aO hr hp)
theorem ar.closed (h:Cl nx M->aE nx args=true->ar P ρ g args M nx R):ar P ρ g args M nx R:=by
 refine⟨ft.closed fun h1 h2=>(h h1 h2).1,fun hd ⟨r0,mP⟩=>?_⟩;by_cases hc:Cl nx M/\aE nx args=true
 ·exact(h hc.1 hc.2).2 hd ⟨r0,mP⟩
 ·exact⟨r0,mP,ft.closed fun h1 h2=>(hc ⟨h1,h2⟩).elim⟩
theorem ar.mono {R':ew->Prop} (h:ar P ρ g args M nx R) (hR:∀r,R r->R' r):ar P ρ g args M nx R':=by
 refine⟨h.1.mono hR,fun hd ⟨r0,mP⟩=>?_⟩;by_cases hc:∃r,R r
 ·obtain⟨r,h1,h2⟩:=h.2 hd hc
  exact⟨r,hR r h1,h2⟩
 ·exact⟨r0,mP,h.1.mono fun r hr=>(hc ⟨r,hr⟩).elim⟩
theorem ft.out (h:ft P ρ g args M nx R):ft P ρ g args M nx fun r=>R r/\Cl r.2.2 r.2.1/\kltV r.2.2 r.1=true:=h.imp fun w σ r v w' aQ aO hr hp=>by
 refine⟨r,⟨hr,?_⟩,hp⟩;obtain⟨σ',h1,h2,h3,h4,h5⟩:=hp;have hf:∀k,r.2.2<=k->σ' k=none:=fun k hk=>by
  rcases h5 k with e | e
  ·rw[e];exact aO k af
  ·omega
 exact⟨h2.cl hf,h1.klt hf⟩
theorem ar.out (h:ar P ρ g args M nx R):ar P ρ g args M nx fun r=>R r/\Cl r.2.2 r.2.1/\kltV r.2.2 r.1=true:=by
 refine⟨h.1.out,fun hd ⟨r0,mP⟩=>?_⟩;obtain⟨r,h1,h2⟩:=h.2 hd ⟨r0,mP.1⟩;by_cases hc:Cl r.2.2 r.2.1/\kltV r.2.2 r.1=true
 ·exact⟨r,⟨h1,hc⟩,h2⟩
 ·exact⟨r0,mP,h2.out.mono fun x hx=>by
   obtain⟨rfl,hx⟩:=hx;exact(hc hx).elim⟩
theorem Cl.sub (h:Cl nx M) {ks:List Nat}:Cl nx (kR M ks):=fun k o hk=>h k o (by rw[iK]at hk;split at hk;exact hk;cases hk)
theorem Cl.set (h:Cl n M) {k:Nat} {o:bx} (hk:k<n) (ho:cp n o=true):Cl n (aG M k o):=fun j x hj=>by
 rw[aB]at hj;split at hj
 ·rename_i e;subst e;cases hj;exact⟨hk,ho⟩
 ·exact h j x hj
mutual
theorem kltV.le {m:Nat} (hm:n<=m):∀{x:XV},kltV n x=true->kltV m x=true
 | .un,_ | .udf,_ | .int ..,_ | .bool _,_ | .str _,_ | .si ..,_ | .nils,_ | .nilp,_ | .nilf,_ | .nilm,_ | .nili,_ | .txt _,_=>by simp only[kltV]
 | .sl k ..,h | .mp k _,h | .mm k,h | .yd k,h=>by
   simp only[kltV,blt_eq]at h ⊢;omega
 | .agg cs,h | .tup cs,h=>by
   simp only[kltV]at h ⊢;exact aE.le hm h
 | .fn f xs ys,h=>by
   unfold kltV at h ⊢;split at h<;>(try (cases h;done))
   rename_i h0;rw[aE.le hm h0];exact aE.le hm h
 | .ifc t x,h=>by
   simp only[kltV]at h ⊢;exact kltV.le hm h
theorem aE.le {m:Nat} (hm:n<=m):∀{xs:List XV},aE n xs=true->aE m xs=true
 | [],_=>by simp only[aE]
 | x::xs,h=>by
   unfold aE at h ⊢;split at h<;>(try (cases h;done))
   rename_i h0;rw[kltV.le hm h0];exact aE.le hm h
end
theorem cp.le {m:Nat} (hm:n<=m):∀{o:bx},cp n o=true->cp m o=true
 | .row cs,h | .cst cs,h=>by
   simp only[cp]at h ⊢;exact aE.le hm h
 | .map es _,h=>by
   simp only[cp]at h ⊢
   revert h
   induction es with
   | nil=>intro _;simp only[cp.go]
   | cons e es ih =>
     obtain⟨b,k,v⟩:=e;intro h;unfold cp.go at h ⊢;split at h<;>(try (cases h;done))
     rename_i h1 h2;rw[kltV.le hm h1,kltV.le hm h2];exact ih h
 | .iter none _ _ _,_=>by simp only[cp]
 | .iter (Option.some k) _ _ _,h=>by
   simp only[cp,blt_eq]at h ⊢;omega
theorem Cl.le {m:Nat} (h:Cl n M) (hm:n<=m):Cl m M:=fun k o hk=>⟨Nat.lt_of_lt_of_le (h k o hk).1 hm,cp.le hm (h k o hk).2⟩
theorem pM (h:Cl n M):∀(ks:List Nat),pi n M ks=true
 | []=>rfl
 | k::ks=>by
   unfold pi;split
   ·rename_i o ho
    obtain⟨h1,h2⟩:=h k o ho;rw[<-blt_eq]at h1;rw[h1,h2];exact pM h ks
   ·exact pM h ks
theorem cK.forget {u:Value} {r:ew} (cF:Cl nx M) (aO:∀k,nx<=k->σ k=none) (hv:kltV nx v=true) (hr:fe nx M v r) (hp:cK ρ w σ M nx r u w'):cK ρ w σ M nx (v,M,nx) u w':=by
 obtain⟨σ',h1,h2,h3,h4,h5⟩:=hp;obtain⟨e1,e2,e3⟩:=hr;have tr:∀k,k<nx->Xs.trunc σ' nx k=σ' k:=fun k hk=>if_pos hk
 have old:∀k o,gG M k=some o->gG r.2.1 k=some o/\k<nx:=fun k o hk=>⟨(e2 k (cF k o hk).1).trans hk,(cF k o hk).1⟩
 have un:∀k p,Xs.trunc σ' nx k=some p->σ' k=some p:=fun k p h=>by
  simp only[Xs.trunc]at h;split at h
  ·exact h
  ·cases h
 refine⟨Xs.trunc σ' nx,by rw[e1]at h1;exact VR.trunc hv h1,⟨fun k o hk=>?_,fun k k' o o' p p' hk ia iR hp uV he=>?_,fun b x hb=>⟨(h2.fix b x hb).1,fun⟨k,o,p,hk,hp,q⟩=>(h2.fix b x hb).2 ⟨k,o,p,(old k o hk).1,un _ _ hp,q⟩⟩⟩,
  ⟨h3.os,h3.tape,h3.output,h3.size,h3.blk,fun b ⟨k,o,p,hk,hp,q⟩=>h3.own b ⟨k,o,p,(old k o hk).1,un _ _ hp,q⟩,fun k p hk=>?_,fun b ⟨k,o,p,hk,hp,q⟩=>h3.held b ⟨k,o,p,(old k o hk).1,un _ _ hp,q⟩⟩,Nat.le_refl _,fun k=>?_⟩
 ·obtain⟨g1,g2⟩:=old k o hk
  obtain⟨p,hp,ho⟩:=h2.obj k o g1;exact⟨p,by rw[tr k g2];exact hp,OR.trunc (cF k o hk).2 ho⟩
 ·exact h2.inj k k' o o' p p' (old _ _ hk).1 (old _ _ ia).1 iR (un _ _ hp) (un _ _ uV) he
 ·rw[tr k (Nat.lt_of_not_le fun hn=>by rw[aO k hn]at hk;cases hk)]
  exact h3.sig k p hk
 ·left
  by_cases hk:k<nx
  ·rw[tr k hk]
   rcases h5 k with e | e
   ·exact e
   ·omega
  ·simp only[Xs.trunc,if_neg hk]
   exact(aO k af).symm
theorem ft.forget (cF:Cl nx M) (hv:kltV nx v=true) (h:ft P ρ g args M nx (fe nx M v)):ft P ρ g args M nx fun r=>r=(v,M,nx) :=
 h.imp fun _ _ _ _ _ _ aO hr hp=>⟨_,rfl,hp.forget cF aO hv hr⟩
theorem yC (nx:Nat) (M:Hp):aq nx M (kR M (List.range nx)):=fun k hk=>by rw[iK,if_pos (mem_range.2 hk)]
theorem bN.read (cF:Cl nx M) (ha:aE nx args=true) (hv:kltV nx v=true) (h:∀N,aq nx M N->ar P ρ g args N nx (fe nx N v)):bN P ρ g args M nx ⟨v,List.range nx,[]⟩ nx :=
 ⟨ha,pM cF _,(fun k hk=>by cases hk),Nat.le_refl _,(h _ (yC nx M)).1.forget cF.sub hv⟩
theorem cK.less {N N':Hp} {lo hi:Nat} {val:XV} {v:Value} (h:∀k o,gG N' k=some o->gG N k=some o) (hp:cK ρ w σ M lo (val,N,hi) v w'):cK ρ w σ M lo (val,N',hi) v w':=by
 obtain⟨σ',h1,h2,h3,h4,h5⟩:=hp;refine⟨σ',h1,h2.sub h,⟨h3.os,h3.tape,h3.output,h3.size,h3.blk,fun b hb=>h3.own b ?_,h3.sig,fun b hb=>h3.held b ?_⟩,h4,h5⟩
 ·obtain⟨k,o,p,q,r⟩:=hb;exact⟨k,o,p,h _ _ q,r⟩
 ·obtain⟨k,o,p,q,r⟩:=hb;exact⟨k,o,p,h _ _ q,r⟩
theorem PA (ρ:aK) (b:Bool):VR { ρ with det:=b } = VR ρ:=U
theorem Kk (ρ:aK) (b:Bool):ce { ρ with det:=b } = ce ρ:=U
theorem HR (ρ:aK) (b:Bool):OR { ρ with det:=b } = OR ρ:=U
theorem Hm (ρ:aK) (b:Bool):Ok { ρ with det:=b } w σ M ↔ Ok ρ w σ M :=
 ⟨fun h=>⟨fun k o hk=>by have:=h.obj k o hk;rwa [HR]at this,h.inj,h.fix⟩,fun h=>⟨fun k o hk=>by rw[HR];exact h.obj k o hk,h.inj,h.fix⟩⟩
theorem ft.det {b:Bool} (h:ft P { ρ with det:=b } g args M nx R):ft P ρ g args M nx R :=
 fun w σ vs aQ aO aX o a K Q hK=>h w σ vs ((Hm ρ b).2 aQ) aO (by rw[Kk];exact aX) o a K Q fun v w' ⟨r,hr,σ',h1,h2,h3,h4,h5⟩=>hK v w' ⟨r,hr,σ',by rw[PA]at h1;exact h1,(Hm ρ b).1 h2,h3,h4,h5⟩
def dH (M:Hp) (lo hi:Nat):List (Nat×Option bx):=ri M (List.range' lo (hi - lo))
theorem eI (M:Hp) (lo hi:Nat):∀k ∈ bM (dH M lo hi),lo<=k/\k<hi:=fun k hk=>by
 rw[dH,q_,mem_range']at hk;obtain⟨i,h1,rfl⟩:=hk;omega
theorem bW (M N:Hp) (lo hi k:Nat):gG (aY N (dH M lo hi)) k=if lo<=k/\k<hi then gG M k else gG N k:=by
 rw[dH,lf];congr 1;rw[mem_range',eq_iff_iff];exact⟨fun⟨i,h1,h2⟩=>af,fun⟨h1,h2⟩=>⟨k - lo,af,af⟩⟩
theorem bN.made {Q:ew->Prop} (cF:Cl nx M) (ha:aE nx args=true) (h:∀N,aq nx M N->ar P { ρ with det:=true } g args N nx fun r=>Q r/\aq nx N r.2.1/\nx<=r.2.2)
 (v0:XV) (hv0:kltV nx v0=true) (YX:∀N,aq nx M N->Q (v0,N,nx)) :
 ∃(v:XV) (N:Hp) (hi:Nat),bN P ρ g args M nx ⟨v,List.range nx,dH N nx hi⟩ hi/\Q (v,N,hi)/\aq nx M N/\nx<=hi/\Cl hi N/\kltV hi v=true:=by
 have hN:=yC nx M;have hD:=(h _ hN).out;obtain⟨⟨v,N,hi⟩,⟨⟨g1,g2,g3⟩,g4,g5⟩,g6⟩:=hD.2 rfl ⟨(v0,_,nx),⟨YX _ hN,aq.refl _ _,Nat.le_refl _⟩,cF.sub,hv0⟩;simp only at g2 g3 g4 g5;refine⟨v,N,hi,⟨ha,pM cF _,fun k hk=>.inr (eI _ _ _ k hk),g3,?_⟩,g1,fun k hk=>(g2 k hk).trans (hN k hk),g3,g4,g5⟩;refine(ft.det g6).imp fun w σ r u w' _ _ hr hp=>⟨_,rfl,?_⟩
 subst hr;refine hp.less fun k o hk=>?_
 rw[bW]at hk;split at hk
 ·exact hk
 ·rw[<-hk]
  exact g2 k ((cF.sub k o hk).1)
end
end Go.Xs
namespace Go.Xs
open List Nat Option
variable{M:Hp}{b kb nx:Nat}{cs:List XV}{pv:XV}
open Go.Proofs
mutual
def jf (x v:Int):Ex->Bool
 | .mk k a b ps=>if k=1 then true else if k=2 then decide (x<=a) else if k=3 then decide (v<=a) else if k=4 then decide (v.tmod a=b) else if k=5 then ny x v false ps else if k=6 then ny x v true ps else !(ny x v false ps)
def ny (x v:Int) (is:Bool):List Ex->Bool
 | []=>true
 | e::es=>(jf x v e==is)&&ny x v is es
end
theorem wX {x v:Int} {is:Bool}:∀(ps:List Ex),ny x v is ps = !(ps.any fun e=>jf x v e != is)
 | []=>by simp[ny]
 | e::es=>by
   simp only[ny,any_cons,wX es];cases jf x v e<;>cases is<;>simp
mutual
def gI:Ex->Prop
 | .mk _ _ b ps=>0<=b/\o_ ps
def o_:List Ex->Prop
 | []=>True
 | e::es=>gI e/\o_ es
end
theorem uB:∀{ps:List Ex} {e:Ex},o_ ps->e ∈ ps->gI e
 | [],_,_,h=>by cases h
 | a::ps,e,h,hm=>by
   simp only[o_]at h;rcases mem_cons.1 hm with rfl | hm
   ·exact h.1
   ·exact uB h.2 hm
theorem wV:∀{ps:List Ex} {e:Ex},C3 ps=true->e ∈ ps->iE e=true
 | [],_,_,h=>by cases h
 | a::ps,e,h,hm=>by
   simp only[C3,Bool.and_eq_true]at h;rcases mem_cons.1 hm with rfl | hm
   ·exact h.1
   ·exact wV h.2 hm
theorem rG {i k:Nat} {v:XV} {us:List (Nat×Option bx)} {l:jg} (h:0<k):dM i ⟨v,List.range k,us⟩ l=(i,List.range k,bM us)::l:=by
 obtain⟨a,t,e⟩:∃a t,List.range k=a::t:=by
  cases hr:List.range k with
  | nil=>have:=congrArg List.length hr;simp at this;omega
  | cons a t=>exact⟨a,t,rfl⟩
 unfold dM;simp only[e]
theorem Th (yc a b:Bool):io ao g0 4 .neq yc (.bool a) (.bool b)=some (.bool (a != b)):=by cases yc<;>cases a<;>cases b<;>kernel_rfl
theorem f364 (ρ:aK) {e:Ex} {k1 k2 k3:Nat} {x v:Int} {is:Bool} (he:bG M b e cs) (m1:gG M k1=some (.row [.int .u64 x])) (m2:gG M k2=some (.row [.int .u64 v])) (m3:gG M k3=some (.row [.bool is])) (b1:k1<nx) (b2:k2<nx) (b3:k3<nx)
 (h:∀(M':Hp) (nx':Nat),aq nx M M'->nx<=nx'->ar ao ρ 197 [.agg cs,.int .u64 x,.int .u64 v] M' nx' (fe nx' M' (.bool (jf x v e)))) :
 ar ao ρ 364 [.agg cs,.mp k1 0,.mp k2 0,.mp k3 0] M nx (fe nx M (.bool (jf x v e != is))):=by
 refine ar.closed fun cF ha=>?_
 have sx:=he;obtain⟨k,p,q,ps⟩:=e;simp only[bG]at sx;obtain⟨pv,row,rfl,cw,jd⟩:=sx;have hv:=cw.cell;have hk:kltV nx pv=true:=by
  simp only[aE,kltV]at ha;split at ha
  ·rename_i q;split at q
   ·rename_i q2;exact q2
   ·cases q
  ·cases ha
 have a1:=fun o=>(aq.refl nx M).set (Nat.le_refl nx) o
 refine ar.wk 12 [.tmp 5] Tryz.func364 ?_;refine ul EZ hv.1 hv.2 m1 m2 m3 ?_;refine aT (bN.read ((cF.le af).set af ?_) ?_ rfl fun N hN=>h N _ ((a1 _).trans (hN.le af)) af) ak ?_
 ·simp only[cp,aE,kltV];rw[kltV.le af hk]
 ·simp only[aE,kltV];rw[kltV.le af hk]
 ·refine lO EZ m3 @Th @rG @fe.eq_1 ?_
  exact⟨O,af⟩
theorem Vy (ρ:aK) {ps:List Ex} {row:List XV} {k p q:Int} {x v:Int} {is:Bool} (cw:bE M b pv 4 ps.length row) (jd:cj M b ps row) (hb:b<=nx)
 (h:∀e ∈ ps,∀(M':Hp) (nx':Nat) (cs:List XV),aq nx M M'->nx<=nx'->bG M' b e cs->ar ao ρ 197 [.agg cs,.int .u64 x,.int .u64 v] M' nx' (fe nx' M' (.bool (jf x v e)))) :
 ar ao ρ 363 [.agg [.int .i64 k,.int .u64 p,.int .u64 q,pv],.int .u64 x,.int .u64 v,.bool is] M nx (fe nx M (.bool (ny x v is ps))):=by
 have hv:=cw.cell;refine ar.wk 14 [.tmp 8] Tryz.func363 ?_;refine gk EZ hv.1 hv.2 ?_;generalize xu:aG (aG (aG (aG M nx (bx.row [XV.int IntKind.i64 k,XV.int IntKind.u64 p,XV.int IntKind.u64 q,pv])) (nx+1) (bx.row [XV.int IntKind.u64 x])) (nx+2) (bx.row [XV.int IntKind.u64 v])) (nx+3) (bx.row [XV.bool is])=M1;have a1:aq nx M M1:=by rw[<-xu];exact O
 have m1:gG M1 (nx+1)=some (.row [.int .u64 x]):=by rw[<-xu];simp[aB]
 have m2:gG M1 (nx+2)=some (.row [.int .u64 v]):=by rw[<-xu];simp[aB]
 have m3:gG M1 (nx+3)=some (.row [.bool is]):=by rw[<-xu];simp[aB]
 clear xu;refine gQ (W5 ρ (cw.agr (a1.le hb)) (jd.agr (a1.le hb)) af (fun e=>jf x v e != is) fun e hm M' nx' cs ha hn he=>?_) ?_
 ·exact f364 ρ he ((ha _ af).trans m1) ((ha _ af).trans m2) ((ha _ af).trans m3) af af af fun M2 n2 jX fq=>h e hm M2 n2 cs ((a1.trans (ha.le af)).trans (jX.le af)) af (he.agr (jX.le af))
 ·rintro⟨u,M2,n2⟩ ⟨g1,g2,g3⟩
  simp only at g1 g2 g3;subst g1;refine fM EZ @fe.eq_1 ?_;exact⟨by rw[wX],a1.trans (g2.le af),af⟩
theorem f369 (ρ:aK) {ps:List Ex} {row:List XV} {k p q:Int} {x v:Int} (cw:bE M b pv 4 ps.length row) (jd:cj M b ps row) (hb:b<=nx) (hE:qR M kb) (hkb:kb<nx)
 (h:∀e ∈ ps,∀(M':Hp) (nx':Nat) (cs:List XV),aq nx M M'->nx<=nx'->bG M' b e cs->ar ao ρ 197 [.agg cs,.int .u64 x,.int .u64 v] M' nx' (fe nx' M' (.bool (jf x v e)))) :
 ar ao ρ 369 [.agg [.int .i64 k,.int .u64 p,.int .u64 q,pv],.int .u64 x,.int .u64 v,.mp kb 0] M nx (fe nx M (.bool (ny x v false ps))):=by
 have hv:=cw.cell;unfold qR at hE;have a1:=fun o=>(aq.refl nx M).set (Nat.le_refl nx) o
 refine ar.wk 13 [.tmp 7] Tryz.func369 ?_;refine jz U9 hv.1 hv.2 hE ?_;refine lG (Vy ρ (is:=false) (cw.agr ((a1 _).le hb)) (jd.agr ((a1 _).le hb)) af fun e hm M' nx' cs ha hn he=>h e hm M' nx' cs ((a1 _).trans (ha.le af)) af he) fun M2 n2 g2 g3=>?_
 refine fM U9 @fe.eq_1 ?_;exact⟨(a1 _).trans (g2.le af),af⟩
theorem f370 (ρ:aK) {ps:List Ex} {row:List XV} {k p q:Int} {x v:Int} (cw:bE M b pv 4 ps.length row) (jd:cj M b ps row) (hb:b<=nx) (hE:qR M kb) (hkb:kb<nx)
 (h:∀e ∈ ps,∀(M':Hp) (nx':Nat) (cs:List XV),aq nx M M'->nx<=nx'->bG M' b e cs->ar ao ρ 197 [.agg cs,.int .u64 x,.int .u64 v] M' nx' (fe nx' M' (.bool (jf x v e)))) :
 ar ao ρ 370 [.agg [.int .i64 k,.int .u64 p,.int .u64 q,pv],.int .u64 x,.int .u64 v,.mp kb 0] M nx (fe nx M (.bool (ny x v true ps))):=by
 have hv:=cw.cell;unfold qR at hE;have a1:=fun o=>(aq.refl nx M).set (Nat.le_refl nx) o
 refine ar.wk 13 [.tmp 7] Tryz.func370 ?_;refine jz U9 hv.1 hv.2 hE ?_;refine lG (Vy ρ (is:=true) (cw.agr ((a1 _).le hb)) (jd.agr ((a1 _).le hb)) af fun e hm M' nx' cs ha hn he=>h e hm M' nx' cs ((a1 _).trans (ha.le af)) af he) fun M2 n2 g2 g3=>?_
 refine fM U9 @fe.eq_1 ?_;exact⟨(a1 _).trans (g2.le af),af⟩
theorem f371 (ρ:aK) {ps:List Ex} {row:List XV} {k p q:Int} {x v:Int} (cw:bE M b pv 4 ps.length row) (jd:cj M b ps row) (hb:b<=nx) (hE:qR M kb) (hkb:kb<nx)
 (h:∀e ∈ ps,∀(M':Hp) (nx':Nat) (cs:List XV),aq nx M M'->nx<=nx'->bG M' b e cs->ar ao ρ 197 [.agg cs,.int .u64 x,.int .u64 v] M' nx' (fe nx' M' (.bool (jf x v e)))) :
 ar ao ρ 371 [.agg [.int .i64 k,.int .u64 p,.int .u64 q,pv],.int .u64 x,.int .u64 v,.mp kb 0] M nx (fe nx M (.bool (!(ny x v false ps)))):=by
 have hv:=cw.cell;unfold qR at hE;have a1:=fun o=>(aq.refl nx M).set (Nat.le_refl nx) o
 refine ar.wk 14 [.tmp 7] Tryz.func371 ?_;refine jz gy9 hv.1 hv.2 hE ?_;refine lG (Vy ρ (is:=false) (cw.agr ((a1 _).le hb)) (jd.agr ((a1 _).le hb)) af fun e hm M' nx' cs ha hn he=>h e hm M' nx' cs ((a1 _).trans (ha.le af)) af he) fun M2 n2 g2 g3=>?_
 refine fM gy9 @fe.eq_1 ?_;exact⟨(a1 _).trans (g2.le af),af⟩
theorem f197 (ρ:aK) {x v:Int}:∀(sz:Nat) (e:Ex) (M:Hp) (nx b:Nat) (cs:List XV),dV e<sz->bG M b e cs->b<=nx->iE e=true->gI e->ar ao ρ 197 [.agg cs,.int .u64 x,.int .u64 v] M nx (fe nx M (.bool (jf x v e))):=by
 intro sz
 induction sz with
 | zero=>intro e M nx b cs h;omega
 | succ sz ih =>
 intro e M nx b cs cJ he hb aQ iu;obtain⟨k,p,q,ps⟩:=e;simp only[bG]at he;obtain⟨pv,row,rfl,cw,jd⟩:=he;have hv:=cw.cell;simp only[gI]at iu;simp only[iE,Bool.and_eq_true]at aQ;obtain⟨hn,ZX⟩:=aQ;have hk:1<=k/\k<8:=by
  simp only[gL,Bool.and_eq_true,decide_eq_true_eq]at hn;omega
 have hp4:k=4->p≠0:=by
  intro h4;subst h4;simp[gL,np]at hn;omega
 have gS:∀(M1:Hp) (n1:Nat),aq nx M M1->nx<=n1->∀e ∈ ps,∀(M':Hp) (nx':Nat) (cs:List XV),aq n1 M1 M'->n1<=nx'->bG M' b e cs->ar ao ρ 197 [.agg cs,.int .u64 x,.int .u64 v] M' nx' (fe nx' M' (.bool (jf x v e))):=by
  intro M1 n1 Qw bT e hm M' nx' cs _ yZ he;refine ih e M' nx' b cs ?_ he af (wV ZX hm) (uB iu.2 hm);have:=fb hm;simp only[dV]at cJ;omega
 refine ar.wk 24 [.tmp 6] Tryz.func197 ?_;refine gk KC hv.1 hv.2 ?_;refine gQ (WO ρ _ _ k hk.1 af) ?_;rintro⟨v',M',nx'⟩ ⟨kb,h1,h2,h3,h4,h5⟩;simp only at h1 h2 h3 h4 h5;subst h1;have hM:gG M' nx=some (.row [.int .i64 k,.int .u64 p,.int .u64 q,pv]):=by rw[h5 nx af,aB,if_pos rfl]
 have ha:aq nx M M':=((aq.refl nx M).set (Nat.le_refl _) _).trans (h5.le af);clear h5;have gE:ax (sp kb k)=true:=by
  have:k=1\/k=2\/k=3\/k=4\/k=5\/k=6\/k=7:=af;rcases this with rfl | rfl | rfl | rfl | rfl | rfl | rfl<;>rfl
 clear cJ ih hn;have hE:∀o o':bx,qR (aG (aG M' (nx'+3) o) (nx'+3) o') kb:=fun o o'=>by
  unfold qR at h4 ⊢;rw[aB,if_neg af,aB,if_neg af];exact h4
 have jX:∀(o o':bx),aq nx M (aG (aG M' (nx'+3) o) (nx'+3) o'):=fun o o'=>(ha.set af _).set af _
 have fin:∀(s:Bool),jf x v (.mk k p q ps)=s->∀(M1:Hp) (n1:Nat),aq nx M M1->nx<=n1->fe nx M (.bool (jf x v (.mk k p q ps))) (.bool s,M1,n1):=fun s h M1 n1 h1 h2=>by rw[h];exact .mk h1 h2
 have dW:∃g caps,sp kb k = .fn (.func g) [] caps/\∀(M1:Hp) (n1:Nat),aq nx M M1->nx<=n1->qR M1 kb->kb<n1 ->
  ar ao ρ g ([.agg [.int .i64 k,.int .u64 p,.int .u64 q,pv],.int .u64 x,.int .u64 v]++caps) M1 n1 (fe n1 M1 (.bool (jf x v (.mk k p q ps)))):=by
  have:k=1\/k=2\/k=3\/k=4\/k=5\/k=6\/k=7:=af;rcases this with rfl | rfl | rfl | rfl | rfl | rfl | rfl
  ·exact⟨365,[],rfl,fun M1 n1 h1 h2 _ _=>f365 ρ 1 p q x v pv hv⟩
  ·exact⟨366,[],rfl,fun M1 n1 h1 h2 _ _=>f366 ρ 2 p q x v pv hv⟩
  ·exact⟨367,[],rfl,fun M1 n1 h1 h2 _ _=>f367 ρ 3 p q x v pv hv⟩
  ·exact⟨368,[],rfl,fun M1 n1 h1 h2 _ _=>f368 ρ 4 p q x v pv hv (hp4 rfl)⟩
  ·exact⟨369,[.mp kb 0],rfl,fun M1 n1 h1 h2 h3 h4=>f369 ρ (cw.agr (h1.le hb)) (jd.agr (h1.le hb)) af h3 h4 (gS M1 n1 h1 h2)⟩
  ·exact⟨370,[.mp kb 0],rfl,fun M1 n1 h1 h2 h3 h4=>f370 ρ (cw.agr (h1.le hb)) (jd.agr (h1.le hb)) af h3 h4 (gS M1 n1 h1 h2)⟩
  ·exact⟨371,[.mp kb 0],rfl,fun M1 n1 h1 h2 h3 h4=>f371 ρ (cw.agr (h1.le hb)) (jd.agr (h1.le hb)) af h3 h4 (gS M1 n1 h1 h2)⟩
 obtain⟨g,caps,hg,hF⟩:=dW;refine jz KC hM @uZ.eq_1 gE ?_;rw[hg];refine dt KC ?_;have:=hF (aG (aG M' (nx'+3) (.row [.int .i64 0,.int .i64 0,.int .i64 0,.nilf])) (nx'+3) (.row [.int .i64 (np k),.int .i64 (qt k),.int .i64 (uM k),.fn (.func g) [] caps])) (nx'+13) (jX _ _) af (hE _ _) af;refine gQ this ?_;rintro⟨u,M2,n2⟩ ⟨g1,g2,g3⟩;simp only at g1 g2 g3;subst g1;refine fM KC @fe.eq_1 ?_;exact⟨(jX _ _).trans (g2.le af),af⟩
def xS (e:Ex) (x v:Int):Bool:=yw e&&jf x v e
theorem X2 (ρ:aK) {e:Ex} (he:bG M b e cs) (hb:b<=nx) (hc:dV e<=1000) (iu:gI e) (x v:Int):ar ao ρ 133 [.agg cs,.int .u64 x,.int .u64 v] M nx (fe nx M (.bool (xS e x v))):=by
 have sx:=he;obtain⟨k,p,q,ps⟩:=e;simp only[bG]at sx;obtain⟨pv,row,rfl,cw,jd⟩:=sx;have hv:=cw.cell;have a1:=fun o=>(aq.refl nx M).set (Nat.le_refl nx) o
 refine ar.wk 15 [.tmp 6] Tryz.func133 ?_;refine gk fT hv.1 hv.2 ?_;refine lG (Xi ρ (he.agr ((a1 _).le hb)) af hc) fun M2 n2 g2 g3=>?_
 have a2:=(a1 (.row [.int .i64 k,.int .u64 p,.int .u64 q,pv])).trans (g2.le af);have y:=g2 nx af;rw[aB,if_pos rfl]at y;cases hr:yw (.mk k p q ps) with
 | false =>
   refine jz fT y hr @fe.eq_1 ?_;exact⟨by simp[xS,hr],a2,af⟩
 | true =>
   have aQ:iE (.mk k p q ps)=true:=by
    simp only[yw,Bool.and_eq_true]at hr;exact hr.1.1
   refine gk fT y hr ?_;refine lG (f197 ρ (x:=x) (v:=v) _ (.mk k p q ps) M2 _ b _ (lt_succ_self _) (he.agr (a2.le hb)) af aQ iu) fun M3 n3 k2 k3=>?_
   refine fM fT @fe.eq_1 ?_;exact⟨by simp[xS,hr],a2.trans (k2.le af),af⟩
end Go.Xs
namespace Go.Xs
open List Nat Option
open Go.Proofs
section
variable {P:Program} {M:Hp} {b n:Nat} {t:TypeId} {xs:List XV}
theorem gO.int {k:IntKind} (hu:P.underlying t=some (.int k)) (h:gO P M b n t xs):∃i,xs=[.int k i]/\(Lit.int k i).wf=true:=by
 cases n with
 | zero=>exact h.elim
 | succ n=>simp only[gO,hu]at h;exact h
theorem gO.bool (hu:P.underlying t=some .bool) (h:gO P M b n t xs):∃v,xs=[.bool v]:=by
 cases n with
 | zero=>exact h.elim
 | succ n=>simp only[gO,hu]at h;exact h
theorem gO.slice {e:TypeId} (hu:P.underlying t=some (.slice e)) (h:gO P M b n t xs) :
 ∃(m:Nat) (v:XV) (xss:List (List XV)),n=m+1/\xs=[v]/\bE M b v (P.cellsOf e) xss.length xss.flatten/\∀ys ∈ xss,ys.length=P.cellsOf e/\gO P M b m e ys:=by
 cases n with
 | zero=>exact h.elim
 | succ n =>
   simp only[gO,hu]at h;obtain⟨v,len,row,xss,h1,h2,rfl,rfl,h5⟩:=h;exact⟨n,v,xss,rfl,h1,h2,h5⟩
theorem gO.struct {fs:Array Field} (hu:P.underlying t=some (.struct fs)) (h:gO P M b n t xs):∃m,n=m+1/\DM (gO P M b m) P fs.toList xs:=by
 cases n with
 | zero=>exact h.elim
 | succ n=>simp only[gO,hu]at h;exact⟨n,rfl,h⟩
theorem TX {sz:Nat}:∀{xss:List (List XV)} {i:Nat} {ys:List XV},(∀ys ∈ xss,ys.length=sz)->xss[i]?=some ys->(xss.flatten.drop (i*sz)).take sz=ys
 | [],_,_,_,h=>by simp at h
 | x::xss,0,ys,hl,h=>by
   simp only[getElem?_cons_zero,Option.some.injEq]at h;subst h;rw[Nat.zero_mul,drop_zero,flatten_cons,take_left' (hl _ mem_cons_self)]
 | x::xss,i+1,ys,hl,h=>by
   simp only[getElem?_cons_succ]at h;have hx:=hl x mem_cons_self;rw[flatten_cons,succ_mul,Nat.add_comm,<-drop_drop,drop_left' hx];exact TX (fun ys hy=>hl ys (mem_cons_of_mem _ hy)) h
theorem zD {α β:Type} {p:α->β->Prop}:∀{l:List α},(∀a ∈ l,∃b,p a b)->∃bs:List β,bs.length=l.length/\∀(i:Nat) a b,l[i]?=some a->bs[i]?=some b->p a b
 | [],_=>⟨[],rfl,fun i a b h=>by simp at h⟩
 | a::l,h=>by
   obtain⟨b,hb⟩:=h a mem_cons_self;obtain⟨bs,h1,h2⟩:=zD fun x hx=>h x (mem_cons_of_mem _ hx)
   refine⟨b::bs,by simp[h1],fun i x y hx hy=>?_⟩;cases i with
   | zero =>
     simp only[getElem?_cons_zero,Option.some.injEq]at hx hy;subst hx;subst hy;exact hb
   | succ i=>exact h2 i x y (by simpa using hx) (by simpa using hy)
end
section
variable {M:Hp} {b n:Nat} {xs:List XV}
theorem P3 (h:gO ao M b n 33 xs):∃w v:Int,xs=[.int .u64 w,.int .u64 v]:=by
 obtain⟨m,rfl,h⟩:=h.struct Tryz.underlying33;obtain⟨y0,z0,rfl,_,h0,y1,z1,rfl,_,h1,rfl⟩:=h;obtain⟨w,rfl,_⟩:=h0.int Tryz.underlying31;obtain⟨v,rfl,_⟩:=h1.int Tryz.underlying31;exact⟨w,v,rfl⟩
theorem Xw (h:gO ao M b n 67 xs):∃e,xs=fI e:=by
 obtain⟨m,rfl,h⟩:=h.struct Tryz.underlying67;obtain⟨y0,z0,rfl,_,h0,y1,z1,rfl,_,h1,y2,z2,rfl,_,h2,rfl⟩:=h;obtain⟨x,rfl,_⟩:=h0.int Tryz.underlying31;obtain⟨w,v,rfl⟩:=P3 h1;obtain⟨m,rfl⟩:=h2.bool Tryz.underlying4;exact⟨⟨x,w,v,m⟩,rfl⟩
theorem OO (ih:∀xs,gO ao M b n 44 xs->∃e,bG M b e xs/\gI e):∀xss:List (List XV),(∀ys ∈ xss,ys.length=4/\gO ao M b n 44 ys)->∃es:List Ex,es.length=xss.length/\cj M b es xss.flatten/\o_ es
 | [],_=>⟨[],rfl,by simp only[cj],by simp only[o_]⟩
 | ys::xss,h=>by
   obtain⟨e,h1,h2⟩:=ih ys (h ys mem_cons_self).2;obtain⟨es,h3,h4,h5⟩:=OO ih xss fun y hy=>h y (mem_cons_of_mem _ hy)
   have hl:=(h ys mem_cons_self).1;refine⟨e::es,by simp[h3],?_,by simp only[o_];exact⟨h2,h5⟩⟩;simp only[cj,flatten_cons];rw[take_left' hl,drop_left' hl];exact⟨h1,h4⟩
theorem WB:∀(n:Nat) (xs:List XV),gO ao M b n 44 xs->∃e,bG M b e xs/\gI e:=by
 intro n
 induction n using Nat.strongRecOn with
 | _ n ih =>
   intro xs h;obtain⟨m,rfl,h⟩:=h.struct Tryz.underlying44;obtain⟨y0,z0,rfl,_,h0,y1,z1,rfl,_,h1,y2,z2,rfl,_,h2,y3,z3,rfl,_,h3,rfl⟩:=h;obtain⟨k,rfl,_⟩:=h0.int Tryz.underlying3;obtain⟨x,rfl,_⟩:=h1.int Tryz.underlying31;obtain⟨y,rfl,hy⟩:=h2.int Tryz.underlying31;obtain⟨q,v,xss,rfl,rfl,cw,dy⟩:=h3.slice Tryz.underlying42;have cJ:ao.cellsOf 44=4:=U;rw[cJ]at cw;obtain⟨es,e1,e2,e3⟩:=OO (fun xs h=>ih q af xs h) xss fun ys Oi=>by rw[<-cJ];exact dy ys Oi
   refine⟨.mk k x y es,?_,?_⟩
   ·simp only[bG]
    exact⟨v,xss.flatten,rfl,by rw[e1];exact cw,e2⟩
   ·simp only[gI]
    refine⟨?_,e3⟩;simp[Lit.wf,IntKind.min,IntKind.max,IntKind.signed,IntKind.bits]at hy;omega
theorem Ve (h:gO ao M b n 47 xs):∃r,c_ M b r xs/\gI r.p:=by
 obtain⟨m,rfl,h⟩:=h.struct Tryz.underlying47;obtain⟨y0,z0,rfl,_,h0,y1,z1,rfl,_,h1,y2,z2,rfl,_,h2,y3,z3,rfl,_,h3,y4,z4,rfl,_,h4,y5,z5,rfl,_,h5,y6,z6,rfl,_,h6,rfl⟩:=h;obtain⟨k,rfl,_⟩:=h0.int Tryz.underlying3;obtain⟨t,rfl,_⟩:=h1.int Tryz.underlying31;obtain⟨x,rfl,_⟩:=h2.int Tryz.underlying31;obtain⟨w,v,rfl⟩:=P3 h3;obtain⟨y,rfl,_⟩:=h4.int Tryz.underlying31;obtain⟨e,he,hp⟩:=WB _ _ h5;obtain⟨q,ve,xss,_,rfl,cw,dy⟩:=h6.slice Tryz.underlying45;have cJ:ao.cellsOf 67=4:=U;rw[cJ]at cw dy;obtain⟨es,e1,e2⟩:=zD (p:=fun ys e=>ys=fI e) fun ys hy=>Xw (dy ys hy).2
 refine⟨⟨k,t,x,w,v,y,e,es⟩,⟨y5,ve,aj,he,?_⟩,hp⟩;have:xss=es.map fI:=by
  apply ext_getElem (by simp[e1]);intro i h1 h2;have h3:i<es.length:=by simpa using h2
  rw[getElem_map];exact e2 i _ _ (getElem?_eq_getElem h1) (getElem?_eq_getElem h3)
 subst this;simp only[jm];rw[flatMap_def];simpa using cw
theorem Sz {v:XV} (h:gO ao M b n 22 [v]):∃L,cP M b v L/\∀r ∈ L,gI r.p:=by
 obtain⟨q,v',xss,_,e,cw,dy⟩:=h.slice Tryz.underlying22;cases e;have cJ:ao.cellsOf 47=11:=U;rw[cJ]at cw dy;obtain⟨L,e1,e2⟩:=zD (p:=fun ys r=>c_ M b r ys/\gI r.p) fun ys hy=>Ve (dy ys hy).2
 have get:∀(i:Nat) r,L[i]?=some r->∃ys,xss[i]?=some ys/\c_ M b r ys/\gI r.p:=fun i r hr=>by
  have h1:=(List.getElem?_eq_some_iff.1 hr).1;have h2:xss[i]?=some xss[i]:=getElem?_eq_getElem af;exact⟨_,h2,e2 i _ _ h2 hr⟩
 refine⟨L,⟨xss.flatten,by rw[e1];exact cw,fun i r hr=>?_⟩,fun r hr=>?_⟩
 ·obtain⟨ys,h1,h2,_⟩:=get i r hr
  rw[TX (fun ys hy=>(dy ys hy).1) h1];exact h2
 ·obtain⟨i,hi,rfl⟩:=mem_iff_getElem.1 hr
  obtain⟨_,_,_,h⟩:=get i _ (getElem?_eq_getElem hi);exact h
def oH:List TypeId:=[3,4,22,31,33,42,44,45,47,67]
theorem C1:∀t ∈ oH,RL ao oH t=true :=
 List.all_eq_true.1 (show (oH.all fun t=>RL ao oH t)=true by kernel_rfl)
end
end Go.Xs
namespace Go.Xs
open List Nat Option
noncomputable section
variable {P:Program} {ρ:aK} {w w':World} {σ σ':cb} {M N M' N':Hp} {nx n g:Nat} {args:List XV} {R:ew->Prop}
theorem zX {α:Type} (f:Nat->Option α):∀(n:Nat),∃t:Tr α,∀k,gG t k=if k<n then f k else none
 | 0=>⟨.nil,fun k=>by rw[if_neg af];rfl⟩
 | n+1=>by
   obtain⟨t,ht⟩:=zX f n;cases hf:f n with
   | none =>
     refine⟨t,fun k=>?_⟩;rw[ht];by_cases hk:k=n
     ·subst hk;rw[if_neg af,if_pos af,hf]
     ·by_cases h:k<n
      ·rw[if_pos h,if_pos af]
      ·rw[if_neg h,if_neg af]
   | some v =>
     refine⟨aG t n v,fun k=>?_⟩;rw[aB,ht];by_cases hk:k=n
     ·subst hk;rw[if_pos rfl,if_pos af,hf]
     ·rw[if_neg (fun e=>hk e.symm)]
      by_cases h:k<n
      ·rw[if_pos h,if_pos af]
      ·rw[if_neg h,if_neg af]
theorem qc {α:Type}:∀(t:Tr α),∃n,∀k,n<=k->gG t k=none
 | .nil=>⟨0,fun _ _=>rfl⟩
 | .node v l r=>by
   obtain⟨a,ha⟩:=qc l;obtain⟨b,hb⟩:=qc r;refine⟨2*a+2*b+3,fun k hk=>?_⟩;rcases mW k with rfl | ⟨q,rfl⟩ | ⟨q,rfl⟩
   ·omega
   ·rw[eH];exact ha q af
   ·rw[dE];exact hb q af
theorem H9 (nx:Nat) (N M N':Hp):∃t:Hp,∀k,gG t k=if k<nx/\gG N k=none/\(gG M k).isSome=true then gG M k else gG N' k:=by
 obtain⟨b,hb⟩:=qc N';obtain⟨t,ht⟩:=zX (fun k=>if k<nx/\gG N k=none/\(gG M k).isSome=true then gG M k else gG N' k) (nx+b);refine⟨t,fun k=>?_⟩;rw[ht];by_cases h:k<nx+b
 ·rw[if_pos h]
 ·rw[if_neg h,if_neg af,hb k af]
def K_ (nx:Nat) (N M N':Hp):Hp:=Classical.choose (H9 nx N M N')
theorem od (nx:Nat) (N M N':Hp) (k:Nat):gG (K_ nx N M N') k=if k<nx/\gG N k=none/\(gG M k).isSome=true then gG M k else gG N' k:=Classical.choose_spec (H9 nx N M N') k
def Pi (N M:Hp):Prop:=∀k o,gG N k=some o->gG M k=some o
structure Nv (nx:Nat) (N M N' M':Hp):Prop where
 sub:∀k y,gG N' k=some y->kF y=true->gG M' k=some y
 new:(∀k o,gG M k=some o->k<nx)->∀k,nx<=k->gG M' k=gG N' k
 own:∀k x,gG N k=some x->gG M' k=gG N' k
 old:∀k x,k<nx->gG N k=none->gG M k=some x->gG M' k=some x
 apart:∀k x,k<nx->gG N k=none->gG M k=some x->∀y,gG N' k=some y->kF y=false
 mid:∀k,k<nx->gG N k=none->gG N' k=none->gG M' k=gG M k
theorem cK.frame (aQ:Ok ρ w σ M) (aO:∀k,nx<=k->σ k=none) (hN:Pi N M) {r:ew} {v:Value} (h:cK ρ w σ N nx r v w') :
 cK ρ w σ M nx (r.1,K_ nx N M r.2.1,r.2.2) v w'/\Nv nx N M r.2.1 (K_ nx N M r.2.1):=by
 obtain⟨σ',h1,h2,h3,h4,h5⟩:=h;have get:∀k o,gG (K_ nx N M r.2.1) k=some o->(gG r.2.1 k=some o)\/(k<nx/\gG N k=none/\gG M k=some o):=fun k o hk=>by
  rw[od]at hk;split at hk
  ·rename_i hc;exact .inr ⟨hc.1,hc.2.1,hk⟩
  ·exact .inl hk
 have apart:∀k o p b,gG N k=none->gG M k=some o->σ k=some p->p.1=b->¬ eB σ N b:=by
  rintro k o p b hk hm hp hb ⟨j,x,q,hj,hq,he,iR⟩;have:=aQ.inj j k x o q p (hN _ _ hj) hm iR hq hp (by rw[hb,he]);subst this;rw[hk]at hj;cases hj
 have side:∀k o,gG N k=none->gG M k=some o->∃p,σ k=some p/\OR ρ w σ p o/\w'.heap[p.1]?=w.heap[p.1]?:=fun k o hk hm=>by
  obtain⟨p,hp,ho⟩:=aQ.obj k o hm;exact⟨p,hp,ho,h3.blk p.1 ho.lt (apart k o p p.1 hk hm hp rfl)⟩
 have mm:∀k x,gG N k=none->gG M k=some x->∀y,gG r.2.1 k=some y->kF y=false:=fun k x hk hm y hy=>by
  cases iR:kF y with
  | false=>rfl
  | true =>
    exfalso;obtain⟨q,hq,ho,_⟩:=side k x hk hm;rcases h3.own q.1 ⟨k,y,q,hy,h3.sig _ _ hq,rfl,iR⟩ with g | g
    ·exact apart k x q q.1 hk hm hq rfl g
    ·have:=ho.lt;omega
 have ext:zN w σ M w' σ' (K_ nx N M r.2.1):=by
  refine⟨h3.os,h3.tape,h3.output,h3.size,fun b hb hn=>h3.blk b hb fun ho=>hn (ho.sub hN),fun b hb=>?_,h3.sig,fun b hb=>?_⟩
  ·obtain⟨k,o,p,hk,hp,rfl,iR⟩:=hb
   rcases get k o hk with hk | ⟨_,hn,hk⟩
   ·exact(h3.own p.1 ⟨k,o,p,hk,hp,rfl,iR⟩).imp (fun g=>g.sub hN) id
   ·obtain⟨q,hq,_⟩:=side k o hn hk
    rw[h3.sig _ _ hq]at hp;cases hp;exact .inl ⟨k,o,p,hk,hq,rfl,iR⟩
  ·obtain⟨k,o,p,hk,hp,rfl⟩:=hb
   rcases get k o hk with hk | ⟨_,hn,hk⟩
   ·exact(h3.held p.1 ⟨k,o,p,hk,hp,rfl⟩).imp (fun⟨j,x,q,g1,g2⟩=>⟨j,x,q,hN _ _ g1,g2⟩) id
   ·obtain⟨q,hq,_⟩:=side k o hn hk
    rw[h3.sig _ _ hq]at hp;cases hp;exact .inl ⟨k,o,p,hk,hq,rfl⟩
 refine⟨⟨σ',h1,⟨fun k o hk=>?_,fun k k' o o' p p' hk ia iR hp uV he=>?_,ext.fix aQ⟩,ext,h4,h5⟩,⟨fun k y hy iR=>?_,fun hM k hk=>?_,fun k x hx=>?_,fun k x hk hn hm=>?_,fun k x _ hn hm=>mm k x hn hm,fun k hk hn yZ=>?_⟩⟩
 ·rcases get k o hk with hk | ⟨_,hn,hk⟩
  ·exact h2.obj k o hk
  ·obtain⟨p,hp,ho,hb⟩:=side k o hn hk
   exact⟨p,h3.sig _ _ hp,OR.mono h3.sig hb ho⟩
 ·rcases get k o hk with hk | ⟨_,hn,hk⟩<;>rcases get k' o' ia with ia | ⟨_,yZ,ia⟩
  ·exact h2.inj k k' o o' p p' hk ia iR hp uV he
  ·exfalso
   obtain⟨q,hq,ho,_⟩:=side k' o' yZ ia;rw[h3.sig _ _ hq]at uV;cases uV;rcases h3.own p.1 ⟨k,o,p,hk,hp,rfl,iR⟩ with g | g
   ·exact apart k' o' p' p.1 yZ ia hq he.symm g
   ·have:=ho.lt;omega
  ·exfalso
   obtain⟨q,hq,ho,_⟩:=side k o hn hk;rw[h3.sig _ _ hq]at hp;cases hp;rcases h3.held p'.1 ⟨k',o',p',ia,uV,rfl⟩ with ⟨j,x,q',hj,nP,D1⟩ | g
   ·have mS:=hN _ _ hj
    have:=aQ.inj k j o x p q' hk mS iR hq nP (he.trans D1.symm);subst this;rw[hn]at hj;cases hj
   ·have:=ho.lt;omega
  ·obtain⟨q,hq,_⟩:=side k o hn hk
   obtain⟨q',nP,_⟩:=side k' o' yZ ia;rw[h3.sig _ _ hq]at hp;rw[h3.sig _ _ nP]at uV;cases hp;cases uV;exact aQ.inj k k' o o' p p' hk ia iR hq nP he
 ·rw[od]
  split
  ·rename_i hc
   obtain⟨x,hx⟩:=isSome_iff_exists.1 hc.2.2;rw[mm k x hc.2.1 hx y hy]at iR;cases iR
  ·exact hy
 ·rw[od,if_neg af]
 ·rw[od,if_neg (fun h=>by rw[hx]at h;cases h.2.1)]
 ·rw[od,if_pos ⟨hk,hn,by rw[hm];rfl⟩,hm]
 ·rw[od]
  split
  ·rfl
  ·rename_i hc
   rw[yZ];cases hm:gG M k with
   | none=>rfl
   | some x=>exact(hc ⟨hk,hn,by rw[hm];rfl⟩).elim
theorem ft.frame (hN:Pi N M) (h:ft P ρ g args N nx R):ft P ρ g args M nx fun o=>∃N',R (o.1,N',o.2.2)/\o.2.1=K_ nx N M N'/\Nv nx N M N' o.2.1:=by
 intro w σ vs aQ aO aX o a K Q hK;refine h w σ vs (aQ.sub hN) aO aX o a K Q fun v w' ⟨r,hr,hp⟩=>?_
 obtain⟨q1,q2⟩:=hp.frame aQ aO hN;exact hK v w' ⟨(r.1,K_ nx N M r.2.1,r.2.2),⟨r.2.1,hr,rfl,q2⟩,q1⟩
theorem ar.frame (hN:Pi N M) (h:ar P ρ g args N nx R):ar P ρ g args M nx fun o=>∃N',R (o.1,N',o.2.2)/\Nv nx N M N' o.2.1:=by
 refine⟨(h.1.frame hN).mono fun o ⟨N',h1,h2,h3⟩=>⟨N',h1,h3⟩,fun hd ⟨r0,mP⟩=>?_⟩;obtain⟨N0,q1,q2⟩:=mP;obtain⟨r,g1,g2⟩:=h.2 hd ⟨_,q1⟩;by_cases hc:Nv nx N M r.2.1 (K_ nx N M r.2.1)
 ·refine⟨(r.1,K_ nx N M r.2.1,r.2.2),⟨r.2.1,g1,hc⟩,(g2.frame hN).mono fun o ⟨N',h1,h2,h3⟩=>?_⟩
  obtain⟨o1,o2,o3⟩:=o;simp only at h1 h2;rw[<-h1];simp only;rw[h2]
 ·exact⟨r0,⟨N0,q1,q2⟩,(g2.frame hN).mono fun o ⟨N',h1,h2,h3⟩=>by
   obtain⟨o1,o2,o3⟩:=o;simp only at h1 h2 h3;refine(hc ?_).elim;rw[<-h1];simp only;rw[<-h2];exact h3⟩
def Mu (N M:Hp):Prop:=∀k o,gG N k=some o->gG M k=some o/\kF o=true
theorem Nn (N:Hp):∃t:Hp,∀k,gG t k=(gG N k).filter kF:=by
 obtain⟨b,hb⟩:=qc N;obtain⟨t,ht⟩:=zX (fun k=>(gG N k).filter kF) b;refine⟨t,fun k=>?_⟩;rw[ht];by_cases h:k<b
 ·rw[if_pos h]
 ·rw[if_neg h,hb k af];rfl
def Rt (N:Hp):Hp:=Classical.choose (Nn N)
theorem KU (N:Hp) (k:Nat):gG (Rt N) k=(gG N k).filter kF:=Classical.choose_spec (Nn N) k
theorem pI {k:Nat} {o:bx}:gG (Rt N) k=some o ↔ gG N k=some o/\kF o=true:=by
 rw[KU];cases h:gG N k with
 | none=>simp
 | some x =>
   simp only[filter_some,Option.some.injEq];constructor
   ·intro h
    split at h
    ·rename_i hm
     cases h;exact⟨rfl,hm⟩
    ·cases h
   ·rintro⟨rfl,hm⟩
    rw[if_pos hm]
def gM (nx:Nat) (N M N' M':Hp):Prop:=∀k x,k<nx->gG N k=none->gG M k=some x->gG M' k=some x/\gG N' k=none
theorem gM.trans {MP:Nat} {N1 M1 N2 M2:Hp} (h:gM nx N M N1 M1) (h':gM MP N1 M1 N2 M2) (hn:nx<=MP):gM nx N M N2 M2:=fun k x h1 h2 h3 =>
 let ⟨a,b⟩:=h k x h1 h2 h3;h' k x af b a
theorem Nv.mu (h:Nv nx N M N' M'):Mu (Rt N') M'/\gM nx N M (Rt N') M':=by
 refine⟨fun k o hk=>?_,fun k x h1 h2 h3=>⟨h.old k x h1 h2 h3,?_⟩⟩
 ·obtain⟨q1,q2⟩:=pI.1 hk
  exact⟨h.sub k o q1 q2,q2⟩
 ·cases hk:gG (Rt N') k with
  | none=>rfl
  | some y =>
    obtain⟨q1,q2⟩:=pI.1 hk;rw[h.apart k x h1 h2 h3 y q1]at q2;cases q2
theorem Mu.sub (h:Mu N M):Pi N M:=fun k o hk=>(h k o hk).1
end
end Go.Xs
namespace Go.Xs
open List Nat Option
noncomputable section
open Go.RowKit
mutual
def EJ (d:Nat):XV->XV
 | .sl n e o l c=>.sl (n+d) e o l c
 | .mp n o=>.mp (n+d) o
 | .mm n=>.mm (n+d)
 | .yd n=>.yd (n+d)
 | .agg cs=>.agg (nO d cs)
 | .tup cs=>.tup (nO d cs)
 | .fn f xs ys=>.fn f (nO d xs) (nO d ys)
 | .ifc t x=>.ifc t (EJ d x)
 | x=>x
def nO (d:Nat):List XV->List XV
 | []=>[]
 | x::xs=>EJ d x::nO d xs
end
section
variable {ρ:aK} {σ σ':cb} {d:Nat} {P:Program} {g:Nat} {args:List XV} {M:Hp} {nx:Nat}
mutual
theorem VR.sh (h:∀k p,σ k=some p->σ' (k+d)=some p):∀{x:XV} {v:Value},VR ρ σ x v->VR ρ σ' (EJ d x) v
 | .un,_,_=>by simp only[EJ,VR]
 | .udf,_,hv | .int ..,_,hv | .bool _,_,hv | .str _,_,hv | .si ..,_,hv | .nils,_,hv | .nilp,_,hv | .nilf,_,hv | .nilm,_,hv | .nili,_,hv | .txt _,_,hv=>by simpa only [EJ,VR] using hv
 | .sl n esz off len cap,v,hv=>by
   simp only[EJ,VR]at hv ⊢;obtain⟨b,room,cap',off',h1,r⟩:=hv;exact⟨b,room,cap',off',h _ _ h1,r⟩
 | .mp n off,v,hv=>by
   simp only[EJ,VR]at hv ⊢;obtain⟨b,room,h1,r⟩:=hv;exact⟨b,room,h _ _ h1,r⟩
 | .mm n,v,hv=>by
   simp only[EJ,VR]at hv ⊢;obtain⟨b,room,h1,r⟩:=hv;exact⟨b,room,h _ _ h1,r⟩
 | .yd n,v,hv=>by
   simp only[EJ,VR]at hv ⊢;obtain⟨b,room,h1,r⟩:=hv;exact⟨b,room,h _ _ h1,r⟩
 | .agg cs,v,hv=>by
   simp only[EJ,VR]at hv ⊢;obtain⟨us,h1,r⟩:=hv;exact⟨us,h1,ce.sh h r⟩
 | .tup cs,v,hv=>by
   simp only[EJ,VR]at hv ⊢;obtain⟨us,h1,r⟩:=hv;exact⟨us,h1,ce.sh h r⟩
 | .fn f xs ys,v,hv=>by
   simp only[EJ,VR]at hv ⊢;obtain⟨us,us',h1,r,r'⟩:=hv;exact⟨us,us',h1,ce.sh h r,ce.sh h r'⟩
 | .ifc t x,v,hv=>by
   simp only[EJ,VR]at hv ⊢;obtain⟨u,h1,r⟩:=hv;exact⟨u,h1,VR.sh h r⟩
theorem ce.sh (h:∀k p,σ k=some p->σ' (k+d)=some p):∀{xs:List XV} {us:List Value},ce ρ σ xs us->ce ρ σ' (nO d xs) us
 | [],us,hv=>by simpa only [nO,ce] using hv
 | x::xs,us,hv=>by
   simp only[nO,ce]at hv ⊢;obtain⟨u,us',h1,h2,h3⟩:=hv;exact⟨u,us',h1,VR.sh h h2,ce.sh h h3⟩
end
theorem wv:∀{xs:List XV},(nO d xs).length=xs.length
 | []=>rfl
 | x::xs=>by simp only[nO,length_cons,wv]
def LZ (d:Nat) (H:Hp):List Nat->Hp
 | []=>.nil
 | k::ks=>match gG H k with
   | some (.row cs)=>aG (LZ d H ks) (k+d) (.row (nO d cs))
   | _=>LZ d H ks
theorem kO {H:Hp}:∀{ks:List Nat} {j:Nat} {o:bx},gG (LZ d H ks) j=some o->∃k cs,k ∈ ks/\j=k+d/\gG H k=some (.row cs)/\o = .row (nO d cs)
 | [],j,o,h=>by simp[LZ,jR]at h
 | k::ks,j,o,h=>by
   unfold LZ at h;split at h
   ·rename_i cs hk
    rw[aB]at h;split at h
    ·rename_i e
     cases h;exact⟨k,cs,mem_cons_self ..,(show k+d=j from e).symm,hk,rfl⟩
    ·obtain⟨k',cs',h1,h2⟩:=kO h
     exact⟨k',cs',mem_cons_of_mem _ h1,h2⟩
   ·obtain⟨k',cs',h1,h2⟩:=kO h
    exact⟨k',cs',mem_cons_of_mem _ h1,h2⟩
theorem E5 {H:Hp}:∀{ks:List Nat} {k:Nat} {cs:List XV},k ∈ ks->gG H k=some (.row cs)->gG (LZ d H ks) (k+d)=some (.row (nO d cs))
 | [],k,cs,h,_=>by cases h
 | k'::ks,k,cs,h,hk=>by
   unfold LZ;by_cases e:k'=k
   ·subst e
    rw[hk];simp only;rw[aB,if_pos rfl]
   ·have hm:k ∈ ks:=by
     rcases mem_cons.1 h with h | h
     ·exact absurd h.symm e
     ·exact h
    split
    ·rw[aB,if_neg af]
     exact E5 hm hk
    ·exact E5 hm hk
theorem ft.shift (ha:∀σ vs,ce ρ σ args vs->ce ρ Vh args vs) {v:XV} {H:Hp} {n:Nat} (h:ft P ρ g args .nil 0 fun r=>r=(v,H,n)) (ks:List Nat) (nx:Nat):ft P ρ g args .nil nx fun r=>r=(EJ nx v,LZ nx H ks,n+nx):=by
 intro w σ vs aQ aO aX o a K Q hK;refine h w Vh vs (GU fun b x hb=>(aQ.fix b x hb).1) (fun _ _=>rfl) (ha σ vs aX) o a K Q fun u w' hu=>?_
 obtain⟨r,rfl,σ',h1,h2,h3,_,h5⟩:=hu;simp only at h1 h2 h3 h5;refine hK u w' ⟨_,rfl,fun k=>if k<nx then σ k else σ' (k - nx),?_,?_,?_,an,?_⟩
 all_goals simp only
 all_goals have hs:∀k p,σ' k=some p->(if k+nx<nx then σ (k+nx) else σ' (k+nx - nx))=some p:=fun k p hk=>by rw[if_neg af,Nat.add_sub_cancel];exact hk
 ·exact VR.sh (σ:=σ') hs h1
 all_goals
  have ho:∀b,eB (fun k=>if k<nx then σ k else σ' (k - nx)) (LZ nx H ks) b->eB σ' H b:=fun b ⟨k,o,p,q1,q2,q3,q4⟩=>by
   obtain⟨k',cs,r1,rfl,r3,rfl⟩:=kO q1;simp only[Nat.add_sub_cancel,show ¬ k'+nx<nx by omega,if_false]at q2;exact⟨k',_,p,r3,q2,q3,rfl⟩
 all_goals
  have hh:∀b,SN (fun k=>if k<nx then σ k else σ' (k - nx)) (LZ nx H ks) b->SN σ' H b:=fun b ⟨k,o,p,q1,q2,q3⟩=>by
   obtain⟨k',cs,r1,rfl,r3,rfl⟩:=kO q1;simp only[Nat.add_sub_cancel,show ¬ k'+nx<nx by omega,if_false]at q2;exact⟨k',_,p,r3,q2,q3⟩
 ·refine⟨fun k o hk=>?_,fun k k' o o' p p' q1 q2 q3 q4 q5 q6=>?_,fun b x hb=>⟨(h2.fix b x hb).1,fun q=>(h2.fix b x hb).2 (ho b q)⟩⟩
  ·obtain⟨k',cs,r1,rfl,r3,rfl⟩:=kO hk
   obtain⟨p,s1,s2⟩:=h2.obj k' _ r3;refine⟨p,hs k' p s1,?_⟩;simp only[OR]at s2 ⊢;obtain⟨us,t,fz,e1,e2,e3,e4,e5⟩:=s2;exact⟨us,t,fz,e1,e2,by rw[wv];exact e3,e4,by rw[wv];exact ce.sh (σ:=σ') hs e5⟩
  ·obtain⟨j,cs,r1,rfl,r3,rfl⟩:=kO q1
   obtain⟨j',cs',r1',rfl,r3',rfl⟩:=kO q2;simp only[Nat.add_sub_cancel,show ¬ j+nx<nx by omega,show ¬ j'+nx<nx by omega,if_false]at q4 q5;rw[h2.inj j j' _ _ p p' r3 r3' rfl q4 q5 q6]
 ·refine⟨h3.os,h3.tape,h3.output,h3.size,fun b hb _=>h3.blk b hb (fun⟨k,o,p,q,_⟩=>by simp[jR]at q),fun b hb=>?_,fun k p hk=>?_,fun b hb=>?_⟩
  ·rcases h3.own b (ho b hb) with ⟨k,o,p,q,_⟩ | q
   ·simp[jR]at q
   ·exact .inr q
  ·by_cases QP:k<nx
   ·simp only[QP,if_true];exact hk
   ·rw[aO k af]at hk;cases hk
  ·rcases h3.held b (hh b hb) with ⟨k,o,p,q,_⟩ | q
   ·simp[jR]at q
   ·exact .inr q
 ·intro k
  by_cases hk:k<nx
  ·exact .inl (by rw[if_pos hk])
  ·rw[if_neg hk]
   rcases h5 (k - nx) with e | e
   ·left
    rw[e,aO k af];rfl
   ·exact .inr ⟨af,af⟩
theorem ar.shift (ha:∀σ vs,ce ρ σ args vs->ce ρ Vh args vs) {v:XV} {H:Hp} {n:Nat} (h:ft P ρ g args .nil 0 fun r=>r=(v,H,n)) (ks:List Nat) (M:Hp) (nx:Nat) :
 ar P ρ g args M nx fun r=>r.1=EJ nx v/\r.2.2=n+nx/\aq nx M r.2.1/\∀k cs,k ∈ ks->gG H k=some (.row cs)->gG r.2.1 (k+nx)=some (.row (nO nx cs)):=by
 have h0:=ft.shift ha h ks nx;have h1:ar P ρ g args .nil nx fun r=>r=(EJ nx v,LZ nx H ks,n+nx):=⟨h0,fun _ _=>⟨_,rfl,h0⟩⟩
 refine(ar.frame (M:=M) (fun k o hk=>by simp[jR]at hk) h1).mono fun r ⟨N',e,hF⟩=>?_
 obtain⟨rv,rm,rn⟩:=r;simp only[Prod.mk.injEq]at e hF;obtain⟨rfl,rfl,rfl⟩:=e;refine⟨rfl,rfl,fun k hk=>?_,fun k cs hk hc=>hF.sub _ _ (E5 hk hc) rfl⟩;simp only;cases hM:gG M k with
 | some x=>exact hF.old k x hk (jR _) hM
 | none =>
   rw[hF.mid k hk (jR _) ?_,hM];cases hN:gG (LZ nx H ks) k with
   | none=>rfl
   | some o =>
     obtain⟨k',cs,_,e,_⟩:=kO hN;omega
end
end
end Go.Xs
namespace Go.Xs
open List Nat Option
structure Md where
 v:Int
 dead:Bool
def gn (r:aR):Bool:=decide (r.kind=3)||decide (r.kind=4)
def oI (t x:Int) (r:aR):Bool:=gn r&&(decide (r.t=t)&&decide (r.x=x))
def nv (r:aR):Md:=if r.kind=3 then ⟨r.v,false⟩ else ⟨0,true⟩
def bd (l:List aR) (t x:Int):List Md:=(l.filter (oI t x)).map nv
def de (t:Int) (o:Option Bool) (r:aR):Option Bool:=if r.t=t then (if r.kind=1 then some false else if r.kind=6\/r.kind=7 then some true else o) else o
def bH (l:List aR) (t:Int):Option Bool:=l.foldl (de t) none
theorem o9 (l:List aR) (r:aR) (t x:Int):bd (l++[r]) t x=if oI t x r=true then bd l t x++[nv r] else bd l t x:=by
 unfold bd;rw[filter_append,map_append];by_cases h:oI t x r=true
 ·simp[h]
 ·simp[h]
theorem bL (l:List aR) (r:aR) (t:Int):bH (l++[r]) t=de t (bH l t) r:=by
 unfold bH;rw[foldl_append];rfl
def rV (l:List aR) (x w n:Int):Option Md:=if 1<=n/\n<=(bd l w x).length then (bd l w x)[(n - 1).toNat]? else none
def lV (l:List aR) (x w n:Int):Bool:=(decide (w=0)&&decide (n=0))||(rV l x w n).isSome
def CT (l:List aR) (r:aR):Bool:=!(decide (r.kind=2))||lV l r.x r.w r.n
def FB (l:List aR) (r:aR):Bool:=!(decide (r.kind=2))||(decide ((bd l r.t r.x).length=0)||(decide (r.w=r.t)&&decide (r.n=(bd l r.t r.x).length)))
def tN (l:List aR) (r:aR):Bool:=r.es.all fun e=>lV l e.x e.w e.n
def P_ (l:List aR) (t:Int):List Int:=(l.filter fun r=>gn r&&decide (r.t=t)).map (·.x)
def ka (l:List aR) (r:aR):Bool:=!(decide (r.kind=5))||(P_ l r.t).all fun x=>r.es.any fun e=>decide (e.x=x)&&(decide (e.w=r.t)&&decide (e.n=(bd l r.t x).length))
end Go.Xs
namespace Go.Xs
open List Nat Option
variable{b sz:Nat}{cs:List XV}{ps:List (Int×Int)}{v:XV}
noncomputable section
variable {τ:Type} {M M':Hp} {lo hi hi':Nat} {tag tag':Nat->τ}
def bS (M:Hp) (lo hi:Nat) (tag:Nat->τ) (tg:τ) (v:XV) (sz len:Nat) (cs:List XV):Prop :=
 len<=9223372036854775807/\cs.length=len*sz/\((v = .nils/\len=0)\/0<len/\∃k,v = .sl k sz 0 len len/\lo<=k/\k<hi/\tag k=tg/\gG M k=some (.row cs))
theorem bS.sl {tg:τ} {len:Nat} (h:bS M lo hi tag tg v sz len cs):bE M hi v sz len cs:=by
 obtain⟨h1,h2,⟨rfl,rfl⟩ | ⟨_,k,rfl,h3,h4,h5,h6⟩⟩:=h
 ·exact⟨h1,.inl ⟨rfl,rfl,length_eq_zero_iff.1 af⟩⟩
 ·refine⟨h1,.inr ⟨k,0,len,cs,rfl,h4,by unfold vR;rw[h6],af,?_⟩⟩
  rw[drop_zero,<-h2,take_length]
theorem bE.fldG {P:Program} {M:Hp} {len:Nat} {row:List XV} (h:bE M b v sz len row) {i:Nat} (hi:i<len) {t:Nat} (ht:es P t=some sz) :
 ∃n o,n<b/\(∀k,br P t v (.int k (i:Int))=some (.mp n o))/\∀(j:Nat) (x:XV),j<sz->((row.drop (i*sz)).take sz)[j]?=some x->∀(t' m:Nat),sa P t'=some (m,false)->∀N,aq b M N->b_ P N t' (.mp n (o+j))=some ⟨x,[n],[]⟩:=by
 obtain⟨n,o,h1,h2,cs,h3,h4,h5⟩:=h.at hi ht;refine⟨n,o,h1,h2,fun j x hj hx t' m zp N hN=>?_⟩;refine dB (lR h3 hN h1) zp ?_;rw[h4,getElem?_take,if_pos hj,getElem?_drop]at hx;exact hx
theorem aZ {a:Nat} {x y:τ} (h1:tag a=x) (h2:tag b=y) (h:x≠y):a≠b:=fun e=>h (by rw[<-h1,<-h2,e])
theorem bS.keep {tg:τ} {len:Nat} (h:bS M lo hi tag tg v sz len cs) (hk:∀k,k<hi->tag k=tg->gG M' k=gG M k/\tag' k=tg) (hh:hi<=hi'):bS M' lo hi' tag' tg v sz len cs:=by
 obtain⟨h1,h2,h3 | ⟨h0,k,rfl,h3,h4,h5,h6⟩⟩:=h
 ·exact⟨h1,h2,.inl h3⟩
 ·obtain⟨q1,q2⟩:=hk k h4 h5
  exact⟨h1,h2,.inr ⟨h0,k,rfl,h3,af,q2,by rw[q1];exact h6⟩⟩
inductive Tg where
 | none | mach | num | names | rows | row (i:Nat) | ended
def fj (p:Int×Int):List XV:=[.int .u64 p.1,.int .u64 p.2]
def et (d:Md):List XV:=[.int .u64 d.v,.bool d.dead]
def fW (p:Int×Int):List (Int×Int)->Nat->Option Int
 | [],_=>none
 | q::ps,i=>if q=p then some i else fW p ps (i+1)
def ou (ps:List (Int×Int)) (p:Int×Int):Option Int:=fW p ps 0
def ly (M:Hp) (lo hi:Nat) (tag:Nat->Tg) (v:XV) (ps:List (Int×Int)):Prop :=
 (v = .nilm/\ps=[])\/ps≠[]/\∃k c lv,v = .mm k/\lo<=k/\k<hi/\tag k = .num/\gG M k=some (.map (eY (vI .i64) lv) c)/\jL 2 lv/\(∀e ∈ lv,e.1<c)/\∀a b,aH lv [a,b]=ou ps (a,b)
def uD (M:Hp) (lo hi:Nat) (tag:Nat->Tg) (v:XV) (le:List (Nat×Int×Bool)):Prop :=
 (v = .nilm/\le=[])\/∃k c,v = .mm k/\lo<=k/\k<hi/\tag k = .ended/\gG M k=some (.map (cx vB le) c)
structure kI (M:Hp) (lo hi m mn:Nat) (l:List aR) (tag:Nat->Tg) (ps:List (Int×Int)) (vnum vnames vrows vend:XV) (rs:List XV) (le:List (Nat×Int×Bool)):Prop where
 lo_m:lo<=m
 m_hi:m<hi
 tg:tag m = .mach
 row:gG M m=some (.row [vnum,vnames,vrows,.int .i64 mn,vend])
 num:ly M lo hi tag vnum ps
 names:bS M lo hi tag .names vnames 2 ps.length (ps.flatMap fj)
 rows:bS M lo hi tag .rows vrows 1 ps.length rs
 all:∀(i:Nat) (t x:Int),ps[i]?=some (t,x)->bd l t x≠[]/\∃v,rs[i]?=some v/\bS M lo hi tag (.row i) v 2 (bd l t x).length ((bd l t x).flatMap et)
 whole:∀t x,bd l t x≠[]->(t,x) ∈ ps
 nodup:ps.Nodup
 ends:uD M lo hi tag vend le
 ended:∀t,aH le t=bH l t
 few:ps.length<=l.length
def cZ (M:Hp) (lo hi m:Nat) (l:List aR):Prop:=∃tag ps vnum vnames vrows vend rs le,kI M lo hi m l.length l tag ps vnum vnames vrows vend rs le
theorem ly.agr {tag:Nat->Tg} (h:ly M lo hi tag v ps) (ha:aq hi M M') (hh:hi<=hi'):ly M' lo hi' tag v ps:=by
 rcases h with h | ⟨h0,k,c,lv,h1,h2,h3,h4,h5,h6⟩
 ·exact .inl h
 ·exact .inr ⟨h0,k,c,lv,h1,h2,af,h4,by rw[ha k h3];exact h5,h6⟩
theorem uD.agr {tag:Nat->Tg} {le:List (Nat×Int×Bool)} (h:uD M lo hi tag v le) (ha:aq hi M M') (hh:hi<=hi'):uD M' lo hi' tag v le:=by
 rcases h with h | ⟨k,c,h1,h2,h3,h4,h5⟩
 ·exact .inl h
 ·exact .inr ⟨k,c,h1,h2,af,h4,by rw[ha k h3];exact h5⟩
theorem bS.agr {tg:τ} {len:Nat} (h:bS M lo hi tag tg v sz len cs) (ha:aq hi M M') (hh:hi<=hi'):bS M' lo hi' tag tg v sz len cs:=h.keep (fun k hk hg=>⟨ha k hk,hg⟩) hh
theorem cZ.agr {m:Nat} {l:List aR} (h:cZ M lo hi m l) (ha:aq hi M M') (hh:hi<=hi'):cZ M' lo hi' m l:=by
 obtain⟨tag,ps,vnum,vnames,vrows,vend,rs,le,h⟩:=h;exact⟨tag,ps,vnum,vnames,vrows,vend,rs,le,h.lo_m,Nat.lt_of_lt_of_le h.m_hi hh,h.tg,by rw[ha m h.m_hi];exact h.row,h.num.agr ha hh,h.names.agr ha hh,h.rows.agr ha hh,fun i t x hi=>by
  obtain⟨q1,v,q2,q3⟩:=h.all i t x hi;exact⟨q1,v,q2,q3.agr ha hh⟩,h.whole,h.nodup,h.ends.agr ha hh,h.ended,h.few⟩
theorem rK {p:Int×Int}:∀{ps:List (Int×Int)} {i:Nat} {n:Int},fW p ps i=some n->∃j:Nat,n=((i+j:Nat):Int)/\ps[j]?=some p
 | [],_,_,h=>by cases h
 | q::ps,i,n,h=>by
   unfold fW at h;split at h
   ·rename_i e
    cases h;exact⟨0,rfl,by rw[<-e];rfl⟩
   ·obtain⟨j,h1,h2⟩:=rK h
    exact⟨j+1,by rw[h1];omega,by simpa using h2⟩
theorem xi {p:Int×Int} {n:Int} (h:ou ps p=some n):∃j:Nat,n=(j:Int)/\ps[j]?=some p:=by
 obtain⟨j,h1,h2⟩:=rK h;exact⟨j,by rw[h1];omega,h2⟩
theorem sf {p:Int×Int}:∀{ps:List (Int×Int)} {i:Nat},fW p ps i=none ↔ p ∉ ps
 | [],_=>by simp[fW]
 | q::ps,i=>by
   unfold fW;split
   ·rename_i e;subst e;simp
   ·rename_i e
    rw[sf];simp only[mem_cons,not_or];exact⟨fun h=>⟨fun q=>e q.symm,h⟩,fun h=>h.2⟩
theorem qN {p:Int×Int}:ou ps p=none ↔ p ∉ ps:=sf
theorem sj {p q:Int×Int}:∀{ps:List (Int×Int)} {i:Nat},fW p (ps++[q]) i=match fW p ps i with | some n=>some n | none=>if q=p then some ((i+ps.length:Nat):Int) else none
 | [],i=>by simp[fW]
 | r::ps,i=>by
   simp only[cons_append,fW];split
   ·rfl
   ·rw[sj]
    simp only[length_cons];rw[show i+1+ps.length=i+(ps.length+1) by omega]
theorem qZ (ps:List (Int×Int)) (p q:Int×Int):ou (ps++[q]) p=match ou ps p with | some n=>some n | none=>if q=p then some (ps.length:Int) else none:=by
 have:=sj (p:=p) (q:=q) (ps:=ps) (i:=0);simpa [ou] using this
end
end Go.Xs
namespace Go.Xs
open List Nat Option
variable{N:Hp}{env:eX}{key kt m n t:Nat}{xs:List XV}{z:XV}{Γ:eP}
noncomputable section
variable {P:Program} {M:Hp} {β:Type}
theorem Tw (h:mq P t = .a kt z m):∃el,P.underlying t=some (.map kt el)/\wI P el=some z:=by
 unfold mq at h;split at h
 ·rename_i kt' el hu
  split at h
  ·cases h
  ·rename_i z' fs hz hk
   split at h
   ·split at h
    ·cases h;exact⟨el,hu,hz⟩
    ·cases h
   ·cases h
  ·cases h
 ·cases h
theorem vL (hq:mq P t = .a kt z m) (h1:xR xs=true) (h2:xs.length=m) (M:Hp) (ok:Bool):cT P M t .nilm (.agg xs) ok=some ⟨tF ok z none,[],[]⟩:=by
 obtain⟨el,hu,hz⟩:=Tw hq;unfold cT;simp only[hu,hz,pJ hq h1 h2,i6];cases ok<;>rfl
theorem EI {κ:Type} [DecidableEq κ] {l:List (Nat×κ×β)} {k:κ} (h:aH l k=none) (i:Nat):nI l k i=none:=by
 have:=jD l k i;rw[h]at this;cases hx:nI l k i with
 | none=>rfl
 | some r=>rw[hx]at this;cases this
theorem Lt {vf:β->XV} {c:Nat} {z:β} {l:List (Nat×List Int×β)} (hq:mq P t = .a kt (vf z) m) (hM:gG M n=some (.map (eY vf l) c)) (h1:xR xs=true) (h2:xs.length=m) (h3:jL m l) (hn:aH l (ov xs)=none) :
 ee P M t (.mm n) (.agg xs)=some ⟨.tup [vf z,.int .i64 (c:Nat)],[n],[(n,some (.map (eY vf (l++[(c,ov xs,z)])) (c+1)))]⟩:=by
 obtain⟨el,hu,hz⟩:=Tw hq;unfold ee;simp only[hu,hM,hz,pJ hq h1 h2,te hq h1 h2 (eY vf l) 0 (pX h3),nV,EI hn,map_none];have e:=pZ h1;simp only[eY,map_append,map_cons,map_nil,ry];rw[<-e]
theorem xg {vf:β->XV} {c:Nat} {ks:List Int} {z:β}:∀{l:List (Nat×List Int×β)} (i:Nat),(∀e ∈ l,e.1<c)->r_ c (eY vf (l++[(c,ks,z)])) i=some (i+l.length)
 | [],i,_=>by simp[eY,r_]
 | (b,k,v)::l,i,h=>by
   have hb:Nat.beq b c=false:=by
    have:b<c:=h (b,k,v) mem_cons_self;cases hb:Nat.beq b c with
    | false=>rfl
    | true=>have:=eq_of_beq_eq_true hb;omega
   have:=xg (vf:=vf) (c:=c) (ks:=ks) (z:=z) (l:=l) (i+1) fun e he=>h e (mem_cons_of_mem _ he)
   simp only[eY,cons_append,map_cons,r_,hb]at this ⊢;rw[this];simp only[length_cons];congr 1;omega
theorem rI {vf:β->XV} {c:Nat} {ks:List Int} {z v:β}:∀{l:List (Nat×List Int×β)},gJ (vf v) (eY vf (l++[(c,ks,z)])) l.length=eY vf (l++[(c,ks,v)])
 | []=>rfl
 | (b,k,u)::l=>by
   have:=rI (vf:=vf) (c:=c) (ks:=ks) (z:=z) (v:=v) (l:=l);simp only[eY,cons_append,map_cons,length_cons,gJ]at this ⊢;rw[this]
theorem PF {vf:β->XV} {c c':Nat} {kk:IntKind} {ks:List Int} {z v:β} {l:List (Nat×List Int×β)} (hM:gG M n=some (.map (eY vf (l++[(c,ks,z)])) c')) (hl:∀e ∈ l,e.1<c) :
 fY M (.mm n) (.int kk (c:Nat)) (vf v)=some ⟨.udf,[n],[(n,some (.map (eY vf (l++[(c,ks,v)])) c'))]⟩:=by
 unfold fY;simp only[Int.ofNat_eq_natCast];show (match gG M n with | some (.map es clock)=>_ | _=>_)=_;simp only[hM,xg 0 hl,Nat.zero_add,rI]
theorem tp (t:Nat) (m k:Operand):cY P Γ env M key (.mapEntry t m k)=ee P M t (cG env m) (cG env k):=rfl
theorem qm (t:Nat) (m s x:Operand):cY P Γ env M key (.entryStore t m s x)=fY M (cG env m) (cG env s) (cG env x):=rfl
def WG (P:Program) (M:Hp) (t n:Nat) (xs:List XV):Option bx->Option bZ
 | some (.map es c)=>ee P (aG .nil n (.map es c)) t (.mm n) (.agg xs)
 | _=>ee P M t (.mm n) (.agg xs)
theorem Ow (t n:Nat) (xs:List XV) (h:gG N n=gG M n):ee P M t (.mm n) (.agg xs)=ee P N t (.mm n) (.agg xs):=by
 unfold ee;generalize P.underlying t=u;cases u with
 | none=>rfl
 | some d=>cases d<;>first | rfl | (dsimp only;rw[h])
theorem Ny (t n:Nat) (xs:List XV):ee P M t (.mm n) (.agg xs)=WG P M t n xs (gG M n):=by
 unfold WG;split
 ·rename_i es c h
  exact Ow t n xs (by rw[aB,if_pos rfl,h])
 ·rfl
theorem C_ {vf:β->XV} {c:Nat} {z:β} {l:List (Nat×List Int×β)} (hq:mq P t = .a kt (vf z) m) (h1:xR xs=true) (h2:xs.length=m) (h3:jL m l) (hn:aH l (ov xs)=none) (M:Hp) :
 WG P M t n xs (some (.map (eY vf l) c))=some ⟨.tup [vf z,.int .i64 (c:Nat)],[n],[(n,some (.map (eY vf (l++[(c,ov xs,z)])) (c+1)))]⟩ :=
 Lt hq (by rw[aB,if_pos rfl]) h1 h2 h3 hn
def W2 (M:Hp) (n:Nat) (st v:XV):Option bx->Option bZ
 | some (.map es c)=>fY (aG .nil n (.map es c)) (.mm n) st v
 | _=>fY M (.mm n) st v
theorem Pg (n:Nat) (st v:XV) (h:gG N n=gG M n):fY M (.mm n) st v=fY N (.mm n) st v:=by
 unfold fY;cases st with
 | int k i =>
   cases i with
   | ofNat b=>dsimp only;rw[h]
   | negSucc b=>rfl
 | _=>rfl
theorem Nm (n:Nat) (st v:XV):fY M (.mm n) st v=W2 M n st v (gG M n):=by
 unfold W2;split
 ·rename_i es c h
  exact Pg n st v (by rw[aB,if_pos rfl,h])
 ·rfl
theorem DA {vf:β->XV} {c c':Nat} {kk:IntKind} {ks:List Int} {z v:β} {l:List (Nat×List Int×β)} (hl:∀e ∈ l,e.1<c) (M:Hp) :
 W2 M n (.int kk (c:Nat)) (vf v) (some (.map (eY vf (l++[(c,ks,z)])) c'))=some ⟨.udf,[n],[(n,some (.map (eY vf (l++[(c,ks,v)])) c'))]⟩ :=
 PF (kk:=kk) (by rw[aB,if_pos rfl]) hl
end
end Go.Xs
namespace Go.Xs
open List Nat Option
variable{M M':Hp}{c1 c2 c3 c4 v vend vnames vnum vrows:XV}{hi i j lo m mn nx:Nat}{l:List aR}{ps:List (Int×Int)}{r:aR}{rs:List XV}{tag:Nat->Tg}
open Go.Proofs
theorem f380 (ρ:aK) (hM:gG M m=some (.row [v,c1,c2,c3,c4])) (hm:m<nx) (h:ly M lo hi tag v ps) (hh:hi<=nx) (a c:Int):ar ao ρ 380 [.mp m 0,.agg [.int .u64 a,.int .u64 c]] M nx (fe nx M (.tup [.int .i64 ((ou ps (a,c)).getD 0),.bool (ou ps (a,c)).isSome])):=by
 rcases h with ⟨rfl,rfl⟩ | ⟨_,k,cl,lv,rfl,h1,h2,h3,h4,h5,h6,h7⟩
 ·have hn:=fun M ok=>vL (P:=ao) (t:=141) (xs:=[.int .u64 a,.int .u64 c]) iq.2.2.2.1 rfl rfl M ok
  refine ar.wk 19 [.tmp 4,.tmp 5] Tryz.func380 ?_;refine jz Sj hM hn @fe.eq_1 ?_;exact⟨rfl,(aq.refl _ _).set (Nat.le_refl _) _,af⟩
 ·refine ar.wk 19 [.tmp 4,.tmp 5] Tryz.func380 ?_
  refine lO Sj hM h4 h7 @fe.eq_1 ?_;exact⟨(aq.refl _ _).set (Nat.le_refl _) _,af⟩
theorem Xr (ρ:aK) (hM:gG M m=some (.row [v,c1,c2,c3,c4])) (hm:m<nx) (h:ly M lo hi tag v ps) (hh:hi<=nx) (a c:Int):ar ao ρ 358 [.mp m 0,.agg [.int .u64 a,.int .u64 c]] M nx (fe nx M (.tup [.int .i64 ((ou ps (a,c)).getD 0),.bool (ou ps (a,c)).isSome])):=by
 refine ar.wk 15 [.tmp 4,.tmp 5] Tryz.func358 ?_;refine dt Im ?_;have a1:=fun o=>(aq.refl nx M).set (Nat.le_refl nx) o
 refine lL (f380 ρ ((a1 _ m hm).trans hM) af (h.agr ((a1 _).le hh) (Nat.le_refl _)) af a c) ak ?_ ?_
 ·refine dt Im ?_;try exact⟨⟩
 ·rintro⟨u,M2,n2⟩ ⟨g1,g2,g3⟩
  simp only at g1 g2 g3;subst g1;refine fM Im @fe.eq_1 ?_;exact⟨(a1 _).trans (g2.le af),af⟩
theorem Xc (ρ:aK) (hM:gG M m=some (.row [c1,v,c2,c3,c4])) (hm:m<nx) (h:bS M lo hi tag .names v 2 ps.length (ps.flatMap fj)):ar ao ρ 323 [.mp m 0] M nx (fe nx M (.int .i64 ps.length)):=by
 have ay:=fun N=>h.sl.len (P:=ao) (t:=142) iw.2.2.2.2.2 N
 refine ar.wk 11 [.tmp 2] Tryz.func323 ?_;refine jz Pt hM ay @fe.eq_1 ?_;exact⟨aq.refl _ _,af⟩
theorem HM:∀(ps:List (Int×Int)) (i:Nat) (p:Int×Int),ps[i]?=some p->((ps.flatMap fj).drop (i*2)).take 2=fj p
 | [],_,_,h=>by simp at h
 | a::ps,0,p,h=>by
   simp only[getElem?_cons_zero,Option.some.injEq]at h;subst h;simp[fj]
 | a::ps,i+1,p,h=>by
   simp only[getElem?_cons_succ]at h;have:=HM ps i p h;rw[<-this,flatMap_cons,show (i+1)*2=(fj a).length+i*2 by simp[fj];omega,<-drop_drop];simp
theorem f359 (ρ:aK) (hM:gG M m=some (.row [c1,v,c2,c3,c4])) (hm:m<nx) (h:bS M lo hi tag .names v 2 ps.length (ps.flatMap fj)) (hh:hi<=nx) {p:Int×Int} (hi:ps[i]?=some p) :
 ar ao ρ 359 [.mp m 0,.int .i64 (i:Nat)] M nx (fe nx M (.tup [.agg (fj p),.int .i64 0])):=by
 have ay:=fun N=>h.sl.len (P:=ao) (t:=142) iw.2.2.2.2.2 N
 have aL:i<ps.length:=(List.getElem?_eq_some_iff.1 hi).1;have c0:¬ (i:Int)<0:=af;have c1':¬ (ps.length:Int)<=i:=af;obtain⟨n,o,jw,bC,aU⟩:=h.sl.elem (P:=ao) aL (t:=142) (t':=355) iw.2.2.2.1 rH.1;rw[HM ps i p hi]at aU;have a1:=fun o=>(aq.refl nx M).set (Nat.le_refl nx) o
 have g1:=fun q=>aU (aG M nx q) ((a1 q).le hh)
 simp only[fj]at g1 ⊢;clear aU;refine ar.wk 25 [.cell 4 355,.tmp 5] Tryz.func359 ?_;refine mD Wp hM ay c0 c1' bC g1 @fe.eq_1 ?_;exact⟨((a1 _).set (Nat.le_refl _) _),af⟩
theorem WC (ρ:aK) (hM:gG M m=some (.row [c1,v,c2,c3,c4])) (hm:m<nx) (h:bS M lo hi tag .names v 2 ps.length (ps.flatMap fj)) (hh:hi<=nx) {p:Int×Int} (hi:ps[i]?=some p) :
 ar ao ρ 324 [.mp m 0,.int .i64 (i:Nat)] M nx (fe nx M (.tup [.agg (fj p),.int .i64 0])):=by
 refine ar.wk 16 [.cell 4 355,.tmp 5] Tryz.func324 ?_;refine dt Im ?_;have a1:=fun o=>(aq.refl nx M).set (Nat.le_refl nx) o
 refine gQ (f359 ρ ((a1 _ m hm).trans hM) af (h.agr ((a1 _).le hh) (Nat.le_refl _)) af hi) ?_;rintro⟨u,M2,n2⟩ ⟨g1,g2,g3⟩;simp only[fj]at g1 g2 g3;subst g1;have z:∀o,(aG M nx o)=(aG M nx o):=fun _=>rfl
 have y:=g2 nx af;rw[aB,if_pos rfl]at y;refine jz Im y @fe.eq_1 @fj.eq_1 ?_;exact⟨((a1 _).trans (g2.le af)).set (Nat.le_refl _) _,af⟩
def fH (ps:List (Int×Int)) (p:Int×Int):List (Int×Int):=if p ∈ ps then ps else ps++[p]
def kh (M:Hp) (nx lo m:Nat) (tag:Nat->Tg) (ps:List (Int×Int)) (p:Int×Int) (c2 c3 c4:XV) (r:ew):Prop :=
 ∃(i:Nat) (tag':Nat->Tg) (v0 v1:XV),r.1 = .int .i64 (i:Nat)/\(fH ps p)[i]?=some p/\ou (fH ps p) p=some (i:Int)/\gG r.2.1 m=some (.row [v0,v1,c2,c3,c4])/\ly r.2.1 lo r.2.2 tag' v0 (fH ps p) /\
  bS r.2.1 lo r.2.2 tag' .names v1 2 (fH ps p).length ((fH ps p).flatMap fj)/\(∀k,k<nx->tag' k=tag k)/\(∀k,k<nx->k≠m->tag k ≠ .num->tag k ≠ .names->gG r.2.1 k=gG M k)/\aq lo M r.2.1/\nx<=r.2.2
theorem uh {β:Type} {c:Nat} {k:List Int} {v:β}:∀{l:List (Nat×List Int×β)} (j:List Int),aH (l++[(c,k,v)]) j=match aH l j with | some u=>some u | none=>if j=k then some v else none
 | [],j=>by simp[aH]
 | (b,k',u)::l,j=>by
   simp only[cons_append,aH];split
   ·rfl
   ·exact uh j
theorem kh.le {n1 n2:Nat} {p:Int×Int} (h:kh M nx lo m tag ps p c2 c3 c4 (v,M',n1)) (hn:n1<=n2):kh M nx lo m tag ps p c2 c3 c4 (v,M',n2):=by
 obtain⟨i,tag',v0,v1,h1,h2,h3,h4,h5,h6,h7,h8,h9,Gf⟩:=h;exact⟨i,tag',v0,v1,h1,h2,h3,h4,h5.agr (aq.refl _ _) hn,h6.agr (aq.refl _ _) hn,h7,h8,h9,Nat.le_trans Gf hn⟩
theorem XF (ρ:aK) {k:Nat} {v0 v1:XV} (mo:lo<=m) (hmh:m<hi) (ht:tag m = .mach) (hM:gG M m=some (.row [v0,v1,c2,c3,c4])) (h0:ly M lo hi tag v0 ps) (h1:bS M lo hi tag .names v1 2 ps.length (ps.flatMap fj)) (hh:hi<=nx)
 (few:ps.length<=1000) (a c:Int) (hk:gG M k=some (.row [.int .u64 a,.int .u64 c])) (QP:k<nx) (V6:hi<=k) :
 ar ao ρ 325 [.mp m 0,.sl k 2 0 1 1] M nx (kh M nx lo m tag ps (a,c) c2 c3 c4):=by
 rcases h0 with ⟨rfl,rfl⟩ | ⟨cf,nk,cl,lv,rfl,q1,q2,q3,q4,q5,q6,q7⟩
 ·have hn:=fun M ok=>vL (P:=ao) (t:=141) (xs:=[.int .u64 a,.int .u64 c]) iq.2.2.2.1 rfl rfl M ok
  obtain⟨_,dI,⟨rfl,_⟩ | ⟨hl,_⟩⟩:=h1
  rotate_right
  ·simp at hl
  refine ar.wk 62 [.tmp 4] Tryz.func325 ?_;refine dt xW ?_;refine aC (fun m' s=>(m'=1/\s=⟨aG (aG (aG (aG (aG (aG (aG .nil 0 (.mp m 0)) 1 (.sl k 2 0 1 1)) 4 (.int .i64 0)) 5 (.int .i64 (-1))) 10 (.sl k 2 0 1 1)) 11 (.int .i64 1)) 12 (.int .i64 0),M,nx+5⟩)\/(m'=0/\gG s.env 11=some (.int .i64 1)/\gG s.env 12=some (.int .i64 1)/\gG s.env 5=some (.int .i64 0)/\kh M nx lo m tag [] (a,c) c2 c3 c4 (.int .i64 0,s.M,s.nx))) 1 (.inl ⟨rfl,?_⟩) ?_
  ·rfl
  ·rintro m' ⟨env,M',nx'⟩ (⟨rfl,hs⟩ | ⟨rfl,kW,vS,e5,hp⟩)
   ·cases hs
    have hE:=fun M n=>C_ (P:=ao) (vf:=vI .i64) (t:=141) (n:=n) (c:=0) (z:=(0:Int)) (xs:=[.int .u64 a,.int .u64 c]) (l:=[]) iq.2.2.2.1 rfl rfl (fun _ h=>by cases h) rfl M
    have hS:=fun M n=>DA (vf:=vI .i64) (n:=n) (c:=0) (c':=1) (kk:=.i64) (ks:=[a,c]) (z:=(0:Int)) (v:=(0:Int)) (l:=[]) (fun _ h=>by cases h) M
    simp only[eY,map_nil,vI,nil_append,map_cons,ov,Int.ofNat_eq_natCast,Int.cast_ofNat_Int]at hE hS;refine rf xW hM hk hn @tp @Ny hE @qm @Nm hS ?_;refine⟨?_,0,af,.inr ⟨rfl,rfl,?_⟩⟩
    ·(repeat' apply ap)<;>exact yj
    ·refine⟨0,fun k=>if k=nx+35 then .num else if k=nx+52 then .names else tag k,.mm (nx+35),.sl (nx+52) 2 0 1 1,rfl,by simp[fH],by simp[fH,ou,fW],J,?_,?_,fun k hk=>?_,fun k hk h1 h2 h3=>J,fun k hk=>J,an⟩
     ·refine .inr ⟨by simp[fH],nx+35,1,[(0,[a,c],0)],rfl,af,an,aj,J,fun e he=>by simp only[mem_singleton]at he;subst he;rfl,fun e he=>by simp only[mem_singleton]at he;subst he;omega,fun a' b'=>?_⟩
      simp only[aH,fH,ou,fW];by_cases h:a'=a/\b'=c
      ·obtain⟨rfl,rfl⟩:=h
       simp[fW]
      ·have h2:¬ ((a,c):Int×Int)=(a',b'):=fun e=>h (by cases e;exact⟨rfl,rfl⟩)
       have h3:¬ ([a',b']=[a,c]):=fun e=>h (by cases e;exact⟨rfl,rfl⟩)
       simp[h2,h3,fW]
     ·exact⟨by simp[fH],by simp[fH,fj],.inr ⟨by simp[fH],nx+52,by simp[fH],af,an,aj,J⟩⟩
     ·simp only
      rw[if_neg af,if_neg af]
   ·simp only at kW vS e5 hp
    refine jz xW kW vS e5 ?_;exact hp.le af
 ·obtain⟨_,dI,⟨rfl,hl⟩ | ⟨hl,sk,rfl,s1,s2,s3,s4⟩⟩:=h1
  ·exact(cf (length_eq_zero_iff.1 hl)).elim
  have n1:=aZ ht q3 aj;have n2:=aZ ht s3 aj;have n3:=aZ q3 s3 aj;have hd:aw m nk=False/\aw nk m=False/\aw m sk=False/\aw sk m=False/\aw nk sk=False/\aw sk nk=False:=by simp only[aw,eq_iff_iff,iff_false];exact⟨n1,n1.symm,n2,n2.symm,n3,n3.symm⟩
  have jc:=q7 a c;cases hp:ou ps (a,c) with
  | some j =>
    rw[hp]at jc;obtain⟨i,rfl,hi⟩:=xi hp;have pB:=mem_of_getElem? hi;clear n1 n2 n3;refine ar.wk 62 [.tmp 4] Tryz.func325 ?_;refine dt xW ?_;refine aC (fun m' s=>(m'=1/\s=⟨aG (aG (aG (aG (aG (aG (aG .nil 0 (.mp m 0)) 1 (.sl k 2 0 1 1)) 4 (.int .i64 0)) 5 (.int .i64 (-1))) 10 (.sl k 2 0 1 1)) 11 (.int .i64 1)) 12 (.int .i64 0),M,nx+5⟩)\/(m'=0/\gG s.env 11=some (.int .i64 1)/\gG s.env 12=some (.int .i64 1)/\gG s.env 5=some (.int .i64 (i:Nat))/\kh M nx lo m tag ps (a,c) c2 c3 c4 (.int .i64 (i:Nat),s.M,s.nx))) 1 (.inl ⟨rfl,?_⟩) ?_
    ·rfl
    ·rintro m' ⟨env,M',nx'⟩ (⟨rfl,hs⟩ | ⟨rfl,kW,vS,e5,hq⟩)
     ·cases hs
      refine ul xW hM hk q4 jc hd ?_;refine⟨0,af,.inr ⟨rfl,rfl,?_⟩⟩;have a1:aq nx M (aG (aG M (nx+8) (.row [.int .u64 0,.int .u64 0])) (nx+8) (.row [.int .u64 a,.int .u64 c])):=O;have hA:fH ps (a,c)=ps:=by simp[fH,pB]
      refine⟨i,tag,.mm nk,.sl sk 2 0 ps.length ps.length,rfl,by rw[hA];exact hi,by rw[hA];exact hp,(a1 m af).trans hM,?_,?_,fun k hk=>rfl,fun k hk _ _ _=>a1 k hk,a1.le af,an⟩
      ·rw[hA]
       exact .inr ⟨cf,nk,cl,lv,rfl,q1,an,q3,(a1 nk af).trans q4,q5,q6,q7⟩
      ·rw[hA]
       exact⟨af,dI,.inr ⟨hl,sk,rfl,s1,an,s3,(a1 sk af).trans s4⟩⟩
     ·simp only at kW vS e5 hq
      refine jz xW kW vS e5 ?_;exact hq.le af
  | none =>
    rw[hp]at jc;have hE:=fun M n=>C_ (P:=ao) (vf:=vI .i64) (t:=141) (n:=n) (c:=cl) (z:=(0:Int)) (xs:=[.int .u64 a,.int .u64 c]) (l:=lv) iq.2.2.2.1 rfl rfl q5 jc M
    have hS:=fun M n=>DA (vf:=vI .i64) (n:=n) (c:=cl) (c':=cl+1) (kk:=.i64) (ks:=[a,c]) (z:=(0:Int)) (v:=(ps.length:Int)) (l:=lv) q6 M
    simp only[vI,ov]at hE hS;refine ar.wk 62 [.tmp 4] Tryz.func325 ?_;refine dt xW ?_;refine aC (fun m' s=>(m'=1/\s=⟨aG (aG (aG (aG (aG (aG (aG .nil 0 (.mp m 0)) 1 (.sl k 2 0 1 1)) 4 (.int .i64 0)) 5 (.int .i64 (-1))) 10 (.sl k 2 0 1 1)) 11 (.int .i64 1)) 12 (.int .i64 0),M,nx+5⟩)\/(m'=0/\gG s.env 11=some (.int .i64 1)/\gG s.env 12=some (.int .i64 1)/\gG s.env 5=some (.int .i64 ps.length)/\kh M nx lo m tag ps (a,c) c2 c3 c4 (.int .i64 ps.length,s.M,s.nx))) 1 (.inl ⟨rfl,?_⟩) ?_
    ·rfl
    ·rintro m' ⟨env,M',nx'⟩ (⟨rfl,hs⟩ | ⟨rfl,kW,vS,e5,hq⟩)
     ·cases hs
      refine yq xW hM hk q4 jc hd s4 dI @tp @Ny hE (aI @qm (aI @Nm hS)) ?_;refine⟨?_,0,af,.inr ⟨rfl,rfl,?_⟩⟩
      ·(repeat' apply ap)<;>exact yj
      ·have hA:fH ps (a,c)=ps++[(a,c)]:=if_neg (qN.1 hp)
       have kB:List.take (ps.length*2) (ps.flatMap fj)=ps.flatMap fj:=by rw[<-dI,take_length]
       refine⟨ps.length,fun k=>if k=nx+47 then .names else tag k,.mm nk,.sl (nx+47) 2 0 (ps.length+1) (ps.length+1),rfl,by rw[hA];simp,by rw[hA,qZ,hp];simp,J,?_,?_,fun k hk=>?_,fun k hk h1 h2 h3=>?_,fun k hk=>J,an⟩
       ·refine .inr ⟨by rw[hA];simp,nk,cl+1,lv++[(cl,[a,c],(ps.length:Int))],rfl,q1,an,by simp only;rw[if_neg af];exact q3,J,fun e he=>?_,fun e he=>?_,fun a' b'=>?_⟩
        ·rcases mem_append.1 he with he | he
         ·exact q5 e he
         ·simp only[mem_singleton]at he;subst he;rfl
        ·rcases mem_append.1 he with he | he
         ·have:=q6 e he;omega
         ·simp only[mem_singleton]at he;subst he;simp only;omega
        ·rw[uh,q7,hA,qZ]
         cases ou ps (a',b') with
         | some n=>rfl
         | none =>
           simp only;by_cases h:a'=a/\b'=c
           ·obtain⟨rfl,rfl⟩:=h
            simp
           ·have h2:¬ ((a,c):Int×Int)=(a',b'):=fun e=>h (by cases e;exact⟨rfl,rfl⟩)
            have h3:¬ ([a',b']=[a,c]):=fun e=>h (by cases e;exact⟨rfl,rfl⟩)
            rw[if_neg h2,if_neg h3]
       ·refine⟨by rw[hA];simp;omega,by rw[hA,flatMap_append,length_append,dI];simp[fj];omega,.inr ⟨by rw[hA];simp,nx+47,by rw[hA];simp,af,an,aj,?_⟩⟩
        rw[hA,flatMap_append]
        conv=>rhs;rw[<-kB]
        exact J
       ·simp only
        rw[if_neg af]
       ·have e1:k≠nk:=fun e=>h2 (by rw[e];exact q3)
        have e2:k≠sk:=fun e=>h3 (by rw[e];exact s3)
        exact J
     ·simp only at kW vS e5 hq
      refine jz xW kW vS e5 ?_;exact hq.le af
theorem E9 {α:Type} {l:List α} (h:l.Nodup) {a:α} (hi:l[i]?=some a) (hj:l[j]?=some a):i=j:=by
 obtain⟨h1,e1⟩:=List.getElem?_eq_some_iff.1 hi;obtain⟨h2,e2⟩:=List.getElem?_eq_some_iff.1 hj;exact(getElem_inj h).1 (e1.trans e2.symm)
theorem tM {p:Int×Int} (h:ps.Nodup):(fH ps p).Nodup:=by
 unfold fH;split
 ·exact h
 ·rename_i hp
  rw[nodup_append];exact⟨h,aj,fun a ha b hb=>by simp only[mem_singleton]at hb;subst hb;exact fun e=>hp (e ▸ ha)⟩
theorem IH {p:Int×Int} (hj:j<ps.length):(fH ps p)[j]?=ps[j]?:=by
 unfold fH;split
 ·rfl
 ·rw[getElem?_append_left hj]
theorem Ha (h:gn r=true):r.kind=3\/r.kind=4:=by
 simp only[gn,Bool.or_eq_true,decide_eq_true_eq]at h;exact h
theorem Ch (hr:gn r=true):bd (l++[r]) r.t r.x=bd l r.t r.x++[nv r]:=by
 rw[o9,if_pos];simp[oI,hr]
theorem rR {t x:Int} (h:(t,x)≠(r.t,r.x)):bd (l++[r]) t x=bd l t x:=by
 rw[o9,if_neg];intro hm;simp only[oI,Bool.and_eq_true,decide_eq_true_eq]at hm;exact h (by rw[hm.2.1,hm.2.2])
theorem ss {t x:Int} (h:gn r=false):bd (l++[r]) t x=bd l t x:=by
 rw[o9,if_neg];simp[oI,h]
theorem ly.keep {hi':Nat} {tag':Nat->Tg} (h:ly M lo hi tag v ps) (hk:∀k,k<hi->tag k = .num->gG M' k=gG M k/\tag' k = .num) (hh:hi<=hi'):ly M' lo hi' tag' v ps:=by
 rcases h with q | ⟨h0,k,c,lv,q1,q2,q3,q4,q5,q6⟩
 ·exact .inl q
 ·obtain⟨e1,e2⟩:=hk k q3 q4
  exact .inr ⟨h0,k,c,lv,q1,q2,af,e2,by rw[e1];exact q5,q6⟩
theorem kI.put {M3:Hp} {n3:Nat} {tag3:Nat->Tg} {v0 v1 vrows':XV} {rs':List XV} {le:List (Nat×Int×Bool)} (h:kI M lo hi m mn l tag ps vnum vnames vrows vend rs le) (hr:gn r=true)
 (cH:∀k,k<hi->tag3 k=tag k) (Tz:gG M3 m=some (.row [v0,v1,vrows',.int .i64 mn,vend])) (num:ly M3 lo n3 tag3 v0 (fH ps (r.t,r.x))) (names:bS M3 lo n3 tag3 .names v1 2 (fH ps (r.t,r.x)).length ((fH ps (r.t,r.x)).flatMap fj))
 (rows:bS M3 lo n3 tag3 .rows vrows' 1 (fH ps (r.t,r.x)).length rs') (hi':(fH ps (r.t,r.x))[i]?=some (r.t,r.x))
 (new:∃v,rs'[i]?=some v/\bS M3 lo n3 tag3 (.row i) v 2 (bd l r.t r.x++[nv r]).length ((bd l r.t r.x++[nv r]).flatMap et))
 (oth:∀j,j<ps.length->j≠i->rs'[j]?=rs[j]?) (keep:∀k j,k<hi->tag k = .row j->j≠i->gG M3 k=gG M k) (keepE:∀k,k<hi->tag k = .ended->gG M3 k=gG M k) (hn:hi<=n3) :
 kI M3 lo n3 m mn (l++[r]) tag3 (fH ps (r.t,r.x)) v0 v1 vrows' vend rs' le:=by
 refine⟨h.lo_m,Nat.lt_of_lt_of_le h.m_hi hn,by rw[cH m h.m_hi];exact h.tg,Tz,num,names,rows,fun j t x hj=>?_,fun t x cf=>?_,tM h.nodup,?_,fun t=>?_,?_⟩
 ·by_cases kX:j=i
  ·subst kX
   rw[hi']at hj;cases hj;rw[Ch hr];exact⟨aj,new⟩
  ·have cf:((t,x):Int×Int)≠(r.t,r.x):=fun e=>kX (E9 (tM h.nodup) hj (by rw[e];exact hi'))
   have yY:j<ps.length:=by
    have yY:=(List.getElem?_eq_some_iff.1 hj).1;unfold fH at yY hj;split at yY
    ·exact yY
    ·rename_i hp
     rw[if_neg hp]at hj;simp only[length_append,length_cons,length_nil]at yY;rcases Nat.lt_or_ge j ps.length with q | q
     ·exact q
     ·have:j=ps.length:=af
      subst this;simp only[getElem?_concat_length,Option.some.injEq]at hj;exact(cf hj.symm).elim
   rw[IH yY]at hj;obtain⟨q1,v,q2,q3⟩:=h.all j t x hj;rw[rR cf];exact⟨q1,v,by rw[oth j yY kX];exact q2,q3.keep (fun k hk hg=>⟨keep k j hk hg kX,by rw[cH k hk];exact hg⟩) hn⟩
 ·by_cases he:((t,x):Int×Int)=(r.t,r.x)
  ·rw[he]
   exact mem_of_getElem? hi'
  ·rw[rR he]at cf
   have:=h.whole t x cf;unfold fH;split
   ·exact this
   ·exact mem_append_left _ this
 ·rcases h.ends with q | ⟨k,c,q1,q2,q3,q4,q5⟩
  ·exact .inl q
  ·exact .inr ⟨k,c,q1,q2,af,by rw[cH k q3];exact q4,by rw[keepE k q3 q4];exact q5⟩
 ·rw[h.ended,bL]
  unfold de;rcases Ha hr with e | e<;>simp[e]
 ·have:=h.few
  unfold fH;split<;>simp<;>omega
theorem X_ {v:XV}:∀(rs:List XV) (i:Nat),i<rs.length->bp rs i [v]=rs.set i v
 | [],_,h=>by simp at h
 | a::rs,0,_=>by cases rs<;>rfl
 | a::rs,i+1,h=>by
   simp only[length_cons]at h;simp only[bp,set_cons_succ];rw[X_ rs i af]
theorem uJ {a v:XV}:∀(rs:List XV),bp (rs++[a]) rs.length [v]=rs++[v]
 | []=>rfl
 | b::rs=>by
   simp only[cons_append,length_cons,bp];rw[uJ rs]
theorem kI.norm {le:List (Nat×Int×Bool)} (h:kI M lo hi m mn l tag ps vnum vnames vrows vend rs le) :
 kI M lo hi m mn l (fun k=>if k<hi then tag k else .none) ps vnum vnames vrows vend rs le:=by
 have hk:∀(k:Nat) (tg:Tg),k<hi->tag k=tg->(if k<hi then tag k else Tg.none)=tg:=fun k tg h1 h2=>by rw[if_pos h1,h2]
 refine⟨h.lo_m,h.m_hi,hk _ _ h.m_hi h.tg,h.row,?_,h.names.keep (fun k h1 h2=>⟨rfl,hk _ _ h1 h2⟩) (Nat.le_refl _),h.rows.keep (fun k h1 h2=>⟨rfl,hk _ _ h1 h2⟩) (Nat.le_refl _),fun i t x hi=>?_,h.whole,h.nodup,?_,h.ended,h.few⟩
 ·rcases h.num with q | ⟨h0,k,c,lv,q1,q2,q3,q4,q5⟩
  ·exact .inl q
  ·exact .inr ⟨h0,k,c,lv,q1,q2,q3,hk _ _ q3 q4,q5⟩
 ·obtain⟨q1,v,q2,q3⟩:=h.all i t x hi
  exact⟨q1,v,q2,q3.keep (fun k h1 h2=>⟨rfl,hk _ _ h1 h2⟩) (Nat.le_refl _)⟩
 ·rcases h.ends with q | ⟨k,c,q1,q2,q3,q4,q5⟩
  ·exact .inl q
  ·exact .inr ⟨k,c,q1,q2,q3,hk _ _ q3 q4,q5⟩
end Go.Xs
namespace Go.Xs
open List Nat Option
variable{M M':Hp}{b b' hi lo m mn:Nat}{l:List aR}{ps:List (Int×Int)}{r:aR}{rs:List XV}{tag:Nat->Tg}{vend vnames vnum vrows:XV}
theorem kI.upd {hi' mn':Nat} {l':List aR} {tag':Nat->Tg} {vend':XV} {le le':List (Nat×Int×Bool)} (h:kI M lo hi m mn l tag ps vnum vnames vrows vend rs le)
 (row':gG M' m=some (.row [vnum,vnames,vrows,.int .i64 mn',vend'])) (keep:∀k,k<hi->k≠m->tag k ≠ .ended->gG M' k=gG M k) (cH:∀k,k<hi->tag' k=tag k) (hh:hi<=hi') (same:∀t x,bd l' t x=bd l t x)
 (ends:uD M' lo hi' tag' vend' le') (ended:∀t,aH le' t=bH l' t) (few:l.length<=l'.length):kI M' lo hi' m mn' l' tag' ps vnum vnames vrows vend' rs le':=by
 have kk:∀(tg:Tg),tg ≠ .ended->tg ≠ .mach->∀k,k<hi->tag k=tg->gG M' k=gG M k/\tag' k=tg:=fun tg h1 h2 k hk hg =>
  ⟨keep k hk (fun e=>h2 (by rw[<-hg,e];exact h.tg)) (by rw[hg];exact h1),by rw[cH k hk];exact hg⟩
 refine⟨h.lo_m,Nat.lt_of_lt_of_le h.m_hi hh,by rw[cH m h.m_hi];exact h.tg,row',h.num.keep (kk _ aj aj) hh,h.names.keep (kk _ aj aj) hh,h.rows.keep (kk _ aj aj) hh,fun i t x hi=>?_,fun t x cf=>h.whole t x (by rw[<-same];exact cf),h.nodup,ends,ended,Nat.le_trans h.few few⟩;obtain⟨q1,v,q2,q3⟩:=h.all i t x hi;rw[same];exact⟨q1,v,q2,q3.keep (kk _ aj aj) hh⟩
theorem kI.doEnd {n' mn' E c':Nat} {l':List aR} {le le':List (Nat×Int×Bool)} (h:kI M lo hi m mn l tag ps vnum vnames vrows vend rs le)
 (hE:(lo<=E/\E<hi/\tag E = .ended)\/hi<=E) (YD:E<n') (row:gG M' m=some (.row [vnum,vnames,vrows,.int .i64 mn',.mm E])) (map:gG M' E=some (.map (cx vB le') c')) (keep:∀k,k<hi->k≠m->k≠E->gG M' k=gG M k) (hn:hi<=n')
 (same:∀t x,bd l' t x=bd l t x) (ended:∀t,aH le' t=bH l' t) (few:l.length<=l'.length):∃tag',kI M' lo n' m mn' l' tag' ps vnum vnames vrows (.mm E) rs le':=by
 have hm:=h.m_hi;have mo:=h.lo_m;refine⟨fun k=>if k=E then .ended else tag k,h.upd row (fun k h1 h2 h3=>keep k h1 h2 fun e=>?_) (fun k hk=>?_) hn same (.inr ⟨E,c',rfl,af,YD,if_pos rfl,map⟩) ended few⟩
 ·rcases hE with ⟨_,_,q⟩ | q
  ·exact h3 (by rw[e];exact q)
  ·omega
 ·split
  ·rename_i e
   rcases hE with ⟨_,_,q⟩ | q
   ·rw[e];exact q.symm
   ·omega
  ·rfl
theorem kI.many {n' mn':Nat} {le:List (Nat×Int×Bool)} (h:kI M lo hi m mn l tag ps vnum vnames vrows vend rs le)
 (row:gG M' m=some (.row [vnum,vnames,vrows,.int .i64 mn',vend])) (keep:∀k,k<hi->k≠m->gG M' k=gG M k) (hn:hi<=n'):kI M' lo n' m mn' l tag ps vnum vnames vrows vend rs le:=by
 refine h.upd row (fun k h1 h2 _=>keep k h1 h2) (fun _ _=>rfl) hn (fun _ _=>rfl) ?_ h.ended (Nat.le_refl _);rcases h.ends with q | ⟨k,c,q1,q2,q3,q4,q5⟩
 ·exact .inl q
 ·exact .inr ⟨k,c,q1,q2,af,q4,by rw[keep k q3 (fun e=>by rw[e,h.tg]at q4;cases q4)];exact q5⟩
theorem tI (h1:r.kind≠1) (h6:r.kind≠6) (h7:r.kind≠7) (t:Int):bH (l++[r]) t=bH l t:=by
 rw[bL];unfold de;simp[h1,h6,h7]
theorem rU (h1:r.kind=1) (t:Int):bH (l++[r]) t=if t=r.t then some false else bH l t:=by
 rw[bL];unfold de;by_cases e:r.t=t
 ·rw[if_pos e,if_pos h1,if_pos e.symm]
 ·rw[if_neg e,if_neg fun q=>e q.symm]
theorem n_ (h1:r.kind=6\/r.kind=7) (t:Int):bH (l++[r]) t=if t=r.t then some true else bH l t:=by
 rw[bL];unfold de;by_cases e:r.t=t
 ·rw[if_pos e,if_neg af,if_pos h1,if_pos e.symm]
 ·rw[if_neg e,if_neg fun q=>e q.symm]
theorem rL (h3:r.kind≠3) (h4:r.kind≠4):gn r=false:=by simp[gn,h3,h4]
theorem bE.wk {v:XV} {sz len:Nat} {row:List XV} (h:bE M b v sz len row) (hb:b<=b'):bE M b' v sz len row:=by
 refine⟨h.1,?_⟩;rcases h.2 with h | ⟨n,off,cap,cs,h1,h2,h3⟩
 ·exact .inl h
 ·exact .inr ⟨n,off,cap,cs,h1,af,h3⟩
mutual
theorem bG.wk {M:Hp} {b b':Nat} (hb:b<=b'):∀{e:Ex} {cs:List XV},bG M b e cs->bG M b' e cs
 | .mk k x y ps,cs,h=>by
   simp only[bG]at h ⊢;obtain⟨v,row,h1,h2,h3⟩:=h;exact⟨v,row,h1,h2.wk hb,cj.wk hb h3⟩
theorem cj.wk {M:Hp} {b b':Nat} (hb:b<=b'):∀{es:List Ex} {row:List XV},cj M b es row->cj M b' es row
 | [],_,_=>by simp only[cj]
 | e::es,row,h=>by
   simp only[cj]at h ⊢;exact⟨bG.wk hb h.1,cj.wk hb h.2⟩
end
theorem c_.wk {cs:List XV} (h:c_ M b r cs) (hb:b<=b'):c_ M b' r cs:=by
 obtain⟨pc,ve,h1,h2,h3⟩:=h;exact⟨pc,ve,h1,h2.wk hb,bE.wk h3 hb⟩
end Go.Xs
namespace Go.Xs
open List Nat Option
variable{P:Program}{b key sz:Nat}{v:XV}
noncomputable section
variable {M M':Hp} {p q:Nat->Prop}
def dN (M:Hp) (p:Nat->Prop) (v:XV) (sz len:Nat) (row:List XV):Prop :=
 len<=9223372036854775807/\((v = .nils/\len=0/\row=[])\/∃n off cap cs,v = .sl n sz off len cap/\p n/\vR M n=some cs/\off+len*sz<=cs.length/\row=(cs.drop off).take (len*sz))
mutual
def dm (M:Hp) (p:Nat->Prop):Ex->List XV->Prop
 | .mk k x y ps,cs=>∃v row,cs=[.int .i64 k,.int .u64 x,.int .u64 y,v]/\dN M p v 4 ps.length row/\bP M p ps row
def bP (M:Hp) (p:Nat->Prop):List Ex->List XV->Prop
 | [],_=>True
 | e::es,row=>dm M p e (row.take 4)/\bP M p es (row.drop 4)
end
theorem dN.keep {len:Nat} {row:List XV} (h:dN M p v sz len row) (hk:∀k,p k->gG M' k=gG M k/\q k):dN M' q v sz len row:=by
 refine⟨h.1,?_⟩;rcases h.2 with h | ⟨n,off,cap,cs,h1,h2,h3,h4⟩
 ·exact .inl h
 ·obtain⟨e1,e2⟩:=hk n h2
  exact .inr ⟨n,off,cap,cs,h1,e2,by unfold vR at h3 ⊢;rw[e1];exact h3,h4⟩
theorem bE.pp {len:Nat} {row:List XV} (h:bE M b v sz len row):dN M (· < b) v sz len row:=h
theorem dN.lt {len:Nat} {row:List XV} (h:dN M (· < b) v sz len row):bE M b v sz len row:=h
mutual
theorem dm.keep (hk:∀k,p k->gG M' k=gG M k/\q k):∀{e:Ex} {cs:List XV},dm M p e cs->dm M' q e cs
 | .mk k x y ps,cs,h=>by
   simp only[dm]at h ⊢;obtain⟨v,row,h1,h2,h3⟩:=h;exact⟨v,row,h1,h2.keep hk,bP.keep hk h3⟩
theorem bP.keep (hk:∀k,p k->gG M' k=gG M k/\q k):∀{es:List Ex} {row:List XV},bP M p es row->bP M' q es row
 | [],_,_=>by simp only[bP]
 | e::es,row,h=>by
   simp only[bP]at h ⊢;exact⟨dm.keep hk h.1,bP.keep hk h.2⟩
end
mutual
theorem bG.pp {b:Nat}:∀{e:Ex} {cs:List XV},bG M b e cs ↔ dm M (· < b) e cs
 | .mk k x y ps,cs=>by
   simp only[bG,dm];exact⟨fun⟨v,row,h1,h2,h3⟩=>⟨v,row,h1,h2,cj.pp.1 h3⟩,fun⟨v,row,h1,h2,h3⟩=>⟨v,row,h1,h2,cj.pp.2 h3⟩⟩
theorem cj.pp {b:Nat}:∀{es:List Ex} {row:List XV},cj M b es row ↔ bP M (· < b) es row
 | [],_=>by simp only[cj,bP]
 | e::es,row=>by
   simp only[cj,bP];exact and_congr bG.pp cj.pp
end
theorem bP.get:∀{es:List Ex} {row:List XV} {i:Nat} {e:Ex},bP M p es row->es[i]?=some e->dm M p e ((row.drop (i*4)).take 4)
 | [],_,_,_,_,h=>by simp at h
 | e::es,row,0,e',h,he=>by
   simp only[bP]at h;simp only[getElem?_cons_zero,Option.some.injEq]at he;subst he;simpa using h.1
 | e::es,row,i+1,e',h,he=>by
   simp only[bP]at h;simp only[getElem?_cons_succ]at he;have:=bP.get h.2 he;rw[drop_drop]at this;rw[show (i+1)*4=4+i*4 by omega];exact this
theorem bP.of:∀{es:List Ex} {row:List XV},(∀i e,es[i]?=some e->dm M p e ((row.drop (i*4)).take 4))->bP M p es row
 | [],_,_=>by simp only[bP]
 | e::es,row,h=>by
   simp only[bP];refine⟨by simpa using h 0 e rfl,bP.of fun i e' he=>?_⟩;have:=h (i+1) e' (by simpa using he);rw[drop_drop,show 4+i*4=(i+1)*4 by omega];exact this
theorem dN.cell {len:Nat} {row:List XV} (h:dN M p v sz len row):cellsOf v=[v]/\ax v=true:=by
 rcases h.2 with ⟨rfl,_⟩ | ⟨n,off,cap,cs,rfl,_⟩<;>exact⟨rfl,rfl⟩
theorem dm.plain {e:Ex} {cs:List XV} (h:dm M p e cs):cs.length=4/\cs.all ax=true:=by
 obtain⟨k,x,y,ps⟩:=e;simp only[dm]at h;obtain⟨v,row,rfl,h2,_⟩:=h;have:=h2.cell.2;exact⟨rfl,by rw[all_cons,all_cons,all_cons,all_cons,this];rfl⟩
theorem bP.plain:∀{es:List Ex} {row:List XV},bP M p es row->row.length=es.length*4->row.all ax=true
 | [],row,_,h=>by
   have:row=[]:=length_eq_zero_iff.1 (by simpa using h);subst this;rfl
 | e::es,row,h,hl=>by
   simp only[bP]at h;rw[<-take_append_drop 4 row,all_append,h.1.plain.2,bP.plain h.2 (by simp only[length_cons]at hl;rw[length_drop];omega)];rfl
theorem Db:∀(cs vs:List XV),vs.length<=cs.length->bp.over cs vs=vs++cs.drop vs.length
 | cs,[],_=>by simp[bp.over]
 | [],v::vs,h=>by simp at h
 | c::cs,v::vs,h=>by
   simp only[length_cons]at h;simp only[bp.over,length_cons,drop_succ_cons,cons_append];rw[Db cs vs af]
theorem fa:∀(cs:List XV) (n:Nat) (vs:List XV),n+vs.length<=cs.length->bp cs n vs=cs.take n++(vs++cs.drop (n+vs.length))
 | cs,0,vs,h=>by
   rw[take_zero,nil_append,Nat.zero_add,<-Db cs vs af];cases cs<;>rfl
 | [],n+1,vs,h=>by simp at h
 | c::cs,n+1,vs,h=>by
   simp only[length_cons]at h;simp only[bp,take_succ_cons,cons_append];rw[fa cs n vs af,show n+1+vs.length=(n+vs.length)+1 by omega,drop_succ_cons]
theorem ib (cs:List XV) (n:Nat) (vs:List XV) (h:n+vs.length<=cs.length):(bp cs n vs).length=cs.length:=by
 rw[fa cs n vs h];simp;omega
theorem Fc (cs:List XV) (sz i j L:Nat) (vs:List XV) (hv:vs.length=sz) (hc:cs.length=L*sz) (hi:i<L) (hj:j<L):((bp cs (i*sz) vs).drop (j*sz)).take sz=if j=i then vs else (cs.drop (j*sz)).take sz:=by
 have h1:(i+1)*sz<=L*sz:=mul_le_mul_right _ hi;have h2:(j+1)*sz<=L*sz:=mul_le_mul_right _ hj;rw[Nat.add_mul,Nat.one_mul]at h1 h2;rw[fa cs _ vs af];rcases Nat.lt_trichotomy j i with h | h | h
 ·have h3:(j+1)*sz<=i*sz:=mul_le_mul_right _ h
  rw[Nat.add_mul,Nat.one_mul]at h3;rw[if_neg af,drop_append_of_le_length (by rw[length_take];omega),take_append_of_le_length (by rw[length_drop,length_take];omega),List.drop_take,take_take];congr 1;omega
 ·subst h
  have e:(List.take (j*sz) cs).length=j*sz:=by rw[length_take];omega
  rw[if_pos rfl,drop_append,e,Nat.sub_self,drop_zero,drop_eq_nil_of_le af,nil_append,take_append_of_le_length af,take_of_length_le af]
 ·have h3:(i+1)*sz<=j*sz:=mul_le_mul_right _ h
  rw[Nat.add_mul,Nat.one_mul]at h3;rw[if_neg af];have e:(List.take (i*sz) cs).length=i*sz:=by rw[length_take];omega
  rw[drop_append,e,drop_eq_nil_of_le af,nil_append,drop_append,hv,drop_eq_nil_of_le af,nil_append,drop_drop];congr 2;omega
theorem bE.el2 {len:Nat} {row:List XV} (h:bE M b v sz len row):∃rds:List Nat,(∀k ∈ rds,k<b)/\∀N,aq b M N->Go.Xs.el2 N v (some sz)=some (row,len,rds):=by
 rcases h.2 with ⟨rfl,rfl,rfl⟩ | ⟨n,off,cap,cs,rfl,h2,h3,h4,rfl⟩
 ·exact⟨[],aj,fun N _=>GF sz⟩
 ·refine⟨[n],by simp[h2],fun N hN=>?_⟩
  rw[Ih,hN n h2];unfold vR at h3;split at h3
  ·rename_i cs' e;cases h3;rw[e];exact Dl _ _ _ _ _ h4
  ·rename_i cs' e;cases h3;rw[e];exact LS _ _ _ _ _ h4
  ·cases h3
theorem uj (t sz eb k:Nat) (zs:List XV) (r:List Nat) (x:XV) (h1:eb<=128) (h2:1<=sz) (h3:zs.length=sz) (hk:gG M k=some (.row [])):tG P M key t (.sl k sz 0 0 0) x (some (sz,eb,zs)) (some ([],0,r))=some ⟨.sl k sz 0 0 0,k::r,[(k,some (.row []))]⟩:=by
 simp only[tG,ble_eq_true_of_le h1,ble_eq_true_of_le h2,h3,beq_refl,bA,hk,all_nil,Nat.zero_mul,Nat.add_zero,Nat.zero_add];rfl
theorem xz (t sz eb k n:Nat) (zs ys:List XV) (r:List Nat) (x:XV) (h1:eb<=128) (h2:1<=sz) (h3:zs.length=sz) (h4:1<=n) (h6:n<=fE) (h5:ys.all ax=true) (hk:gG M k=some (.row [])) (hr:k ∉ r) :
 tG P M key t (.sl k sz 0 0 0) x (some (sz,eb,zs)) (some (ys,n,r))=some ⟨.sl key sz 0 n n,k::r,[(k,none),(key,some (.row ys))]⟩:=by
 have hl:db r k=false:=by
  cases hh:db r k with
  | false=>rfl
  | true=>exact(hr ((eg _ _).1 hh)).elim
 rw[p0 t sz eb k 0 n zs ys r x h1 h2 h3 h4 af h5,hk];simp[Pk,hl,ble_eq_true_of_le]
end
end Go.Xs
namespace Go.Xs
open List Nat Option
variable{M:Hp}{b i nx:Nat}{v:XV}
open Go.Proofs
def iT (M:Hp) (nx:Nat) (v:XV) (sz len:Nat) (row:List XV) (r:ew):Prop :=
 aq nx M r.2.1/\nx<=r.2.2/\((v = .nils/\r.1 = .nils)\/v ≠ .nils/\∃K,r.1 = .sl K sz 0 len len/\nx<=K/\K<r.2.2/\gG r.2.1 K=some (.row row))
theorem f115 (ρ:aK) {len:Nat} {row:List XV} (h:bE M b v 4 len row) (hb:b<=nx) (few:len<=100000) (gE:row.all ax=true):ar ao ρ 115 [v] M nx fun r=>iT M nx v 4 len row r:=by
 obtain⟨rds,mr,F8⟩:=h.el2;have je:=h.row_len;have hv:v = .nils\/∃n off cap,v = .sl n 4 off len cap:=by
  rcases h.2 with ⟨e,_⟩ | ⟨n,off,cap,_,e,_⟩
  ·exact .inl e
  ·exact .inr ⟨n,off,cap,e⟩
 rcases hv with rfl | ⟨n,off,cap,hv⟩
 ·refine ar.wk 8 [.tmp 2] Tryz.func115 ?_
  refine fM Pn @iT.eq_1 ?_;exact⟨aq.refl _ _,aj⟩
 ·have fF:∀k o,el2 (aG M (nx+k) o) v (some 4)=some (row,len,rds):=fun k o=>F8 _ (((aq.refl nx M).set af o).le hb)
  have cf:∀yc,io ao g0 42 .eql yc v .nils=some (.bool false):=fun yc=>by rw[hv,Cy,ff.2.2.2.2.2];rfl
  have F7:v ≠ .nils:=by rw[hv];simp
  clear hv;have vR:∀k,nx+k ∉ rds:=fun k hk=>by have:=mr _ hk;omega
  by_cases h0:len=0
  ·subst h0
   have:row=[]:=length_eq_zero_iff.1 af;subst this;have dX:∀key k,tG ao (aG M (nx+k) (.row [])) key 42 (.sl (nx+k) 4 0 0 0) v (some (4,48,[.int .i64 0,.int .u64 0,.int .u64 0,.nils])) (some ([],0,rds))=some ⟨.sl (nx+k) 4 0 0 0,(nx+k)::rds,[(nx+k,some (.row []))]⟩:=fun key k=>uj _ _ _ _ _ _ _ af af rfl (by rw[aB,if_pos rfl])
   refine ar.wk 8 [.tmp 2] Tryz.func115 ?_;refine lO Pn cf fF dX @iT.eq_1 ?_;exact⟨O,af,.inr ⟨F7,_,rfl,af,af,if_pos (show aw _ _ from rfl)⟩⟩
  ·have dX:∀key k,tG ao (aG M (nx+k) (.row [])) key 42 (.sl (nx+k) 4 0 0 0) v (some (4,48,[.int .i64 0,.int .u64 0,.int .u64 0,.nils])) (some (row,len,rds))=some ⟨.sl key 4 0 len len,(nx+k)::rds,[(nx+k,none),(key,some (.row row))]⟩:=fun key k=>xz _ _ _ _ _ _ _ _ _ af af rfl af (by simp only[fE];omega) gE (by rw[aB,if_pos rfl]) (vR k)
   refine ar.wk 8 [.tmp 2] Tryz.func115 ?_;refine lO Pn cf fF dX @iT.eq_1 ?_;exact⟨fun j hj=>J,af,.inr ⟨F7,_,rfl,af,af,if_pos (show aw _ _ from rfl)⟩⟩
theorem f66 (ρ:aK) {len:Nat} {row:List XV} (h:bE M b v 4 len row) (hb:b<=nx) (few:len<=100000) (gE:row.all ax=true):ar ao ρ 66 [v] M nx fun r=>iT M nx v 4 len row r:=by
 obtain⟨rds,mr,F8⟩:=h.el2;have je:=h.row_len;have hv:v = .nils\/∃n off cap,v = .sl n 4 off len cap:=by
  rcases h.2 with ⟨e,_⟩ | ⟨n,off,cap,_,e,_⟩
  ·exact .inl e
  ·exact .inr ⟨n,off,cap,e⟩
 rcases hv with rfl | ⟨n,off,cap,hv⟩
 ·refine ar.wk 8 [.tmp 2] Tryz.func66 ?_
  refine fM OC @iT.eq_1 ?_;exact⟨aq.refl _ _,aj⟩
 ·have fF:∀k o,el2 (aG M (nx+k) o) v (some 4)=some (row,len,rds):=fun k o=>F8 _ (((aq.refl nx M).set af o).le hb)
  have cf:∀yc,io ao g0 45 .eql yc v .nils=some (.bool false):=fun yc=>by rw[hv,Cy,gX.2.2.2.2.2];rfl
  have F7:v ≠ .nils:=by rw[hv];simp
  clear hv;have vR:∀k,nx+k ∉ rds:=fun k hk=>by have:=mr _ hk;omega
  by_cases h0:len=0
  ·subst h0
   have:row=[]:=length_eq_zero_iff.1 af;subst this;have dX:∀key k,tG ao (aG M (nx+k) (.row [])) key 45 (.sl (nx+k) 4 0 0 0) v (some (4,32,[.int .u64 0,.int .u64 0,.int .u64 0,.bool false])) (some ([],0,rds))=some ⟨.sl (nx+k) 4 0 0 0,(nx+k)::rds,[(nx+k,some (.row []))]⟩:=fun key k=>uj _ _ _ _ _ _ _ af af rfl (by rw[aB,if_pos rfl])
   refine ar.wk 8 [.tmp 2] Tryz.func66 ?_;refine lO OC cf fF dX @iT.eq_1 ?_;exact⟨O,af,.inr ⟨F7,_,rfl,af,af,if_pos (show aw _ _ from rfl)⟩⟩
  ·have dX:∀key k,tG ao (aG M (nx+k) (.row [])) key 45 (.sl (nx+k) 4 0 0 0) v (some (4,32,[.int .u64 0,.int .u64 0,.int .u64 0,.bool false])) (some (row,len,rds))=some ⟨.sl key 4 0 len len,(nx+k)::rds,[(nx+k,none),(key,some (.row row))]⟩:=fun key k=>xz _ _ _ _ _ _ _ _ _ af af rfl af (by simp only[fE];omega) gE (by rw[aB,if_pos rfl]) (vR k)
   refine ar.wk 8 [.tmp 2] Tryz.func66 ?_;refine lO OC cf fF dX @iT.eq_1 ?_;exact⟨fun j hj=>J,af,.inr ⟨F7,_,rfl,af,af,if_pos (show aw _ _ from rfl)⟩⟩
theorem Px (ρ:aK) {len:Nat} {row:List XV} (h:bE M b v 8 len row) (hb:b<=nx) (few:len<=100000) (gE:row.all ax=true):ar ao ρ 192 [v] M nx fun r=>iT M nx v 8 len row r:=by
 obtain⟨rds,mr,F8⟩:=h.el2;have je:=h.row_len;have hv:v = .nils\/∃n off cap,v = .sl n 8 off len cap:=by
  rcases h.2 with ⟨e,_⟩ | ⟨n,off,cap,_,e,_⟩
  ·exact .inl e
  ·exact .inr ⟨n,off,cap,e⟩
 rcases hv with rfl | ⟨n,off,cap,hv⟩
 ·refine ar.wk 8 [.tmp 2] Tryz.func192 ?_
  refine fM OE @iT.eq_1 ?_;exact⟨aq.refl _ _,aj⟩
 ·have fF:∀k o,el2 (aG M (nx+k) o) v (some 8)=some (row,len,rds):=fun k o=>F8 _ (((aq.refl nx M).set af o).le hb)
  have cf:∀yc,io ao g0 80 .eql yc v .nils=some (.bool false):=fun yc=>by rw[hv,Cy,oi.2.2.2.2.2];rfl
  have F7:v ≠ .nils:=by rw[hv];simp
  clear hv;have vR:∀k,nx+k ∉ rds:=fun k hk=>by have:=mr _ hk;omega
  by_cases h0:len=0
  ·subst h0
   have:row=[]:=length_eq_zero_iff.1 af;subst this;have dX:∀key k,tG ao (aG M (nx+k) (.row [])) key 80 (.sl (nx+k) 8 0 0 0) v (some (8,56,[.int .i64 0,.int .u64 0,.int .u64 0,.int .u64 0,.int .u64 0,.int .u64 0,.bool false,.bool false])) (some ([],0,rds))=some ⟨.sl (nx+k) 8 0 0 0,(nx+k)::rds,[(nx+k,some (.row []))]⟩:=fun key k=>uj _ _ _ _ _ _ _ af af rfl (by rw[aB,if_pos rfl])
   refine ar.wk 8 [.tmp 2] Tryz.func192 ?_;refine lO OE cf fF dX @iT.eq_1 ?_;exact⟨O,af,.inr ⟨F7,_,rfl,af,af,if_pos (show aw _ _ from rfl)⟩⟩
  ·have dX:∀key k,tG ao (aG M (nx+k) (.row [])) key 80 (.sl (nx+k) 8 0 0 0) v (some (8,56,[.int .i64 0,.int .u64 0,.int .u64 0,.int .u64 0,.int .u64 0,.int .u64 0,.bool false,.bool false])) (some (row,len,rds))=some ⟨.sl key 8 0 len len,(nx+k)::rds,[(nx+k,none),(key,some (.row row))]⟩:=fun key k=>xz _ _ _ _ _ _ _ _ _ af af rfl af (by simp only[fE];omega) gE (by rw[aB,if_pos rfl]) (vR k)
   refine ar.wk 8 [.tmp 2] Tryz.func192 ?_;refine lO OE cf fF dX @iT.eq_1 ?_;exact⟨fun j hj=>J,af,.inr ⟨F7,_,rfl,af,af,if_pos (show aw _ _ from rfl)⟩⟩
def PK (b nx n':Nat):Nat->Prop:=fun k=>(k<b\/nx<=k)/\k<n'
theorem cq {n:Nat}:∀{cs:List XV} {x:XV},aE n cs=true->x ∈ cs->kltV n x=true
 | [],_,_,h=>by cases h
 | c::cs,x,h,hx=>by
   unfold aE at h;split at h<;>(try (cases h;done))
   rename_i h0;rcases mem_cons.1 hx with rfl | hx
   ·exact h0
   ·exact cq h hx
theorem mU {n:Nat}:∀{cs:List XV},(∀x ∈ cs,kltV n x=true)->aE n cs=true
 | [],_=>by simp only[aE]
 | c::cs,h=>by
   unfold aE;rw[h c mem_cons_self];exact mU fun x hx=>h x (mem_cons_of_mem _ hx)
def Cc (b nx:Nat) (e:Ex) (r:ew):Prop:=∃cs,r.1 = .agg cs/\dm r.2.1 (PK b nx r.2.2) e cs
theorem aA {k:Nat} {us:List (Nat×Option bx)} {l:jg} (h:0<k):dM i ⟨v,List.range k,us⟩ l=(i,List.range k,bM us)::l:=by
 obtain⟨a,t,e⟩:∃a t,List.range k=a::t:=by
  cases hr:List.range k with
  | nil=>have:=congrArg List.length hr;simp at this;omega
  | cons a t=>exact⟨a,t,rfl⟩
 unfold dM;simp only[e]
theorem lz:∀(ps:List Ex),ps.length<=jb ps
 | []=>by simp[jb]
 | e::es=>by
   have:=lz es;obtain⟨k,x,y,ps⟩:=e;simp only[jb,dV,length_cons];omega
theorem f65:∀(sz:Nat) (ρ:aK) (e:Ex) (M:Hp) (nx b:Nat) (cs:List XV),dV e<sz->bG M b e cs->b<=nx->dV e<=100000->ar ao ρ 65 [.agg cs] M nx fun r=>Cc b nx e r/\aq nx M r.2.1/\nx<=r.2.2:=by
 intro sz
 induction sz with
 | zero=>intro ρ e M nx b cs h;omega
 | succ sz ih =>
 intro ρ e M nx b cs cJ he hb ip;refine ar.closed fun cF aX=>?_
 obtain⟨k,x,y,ps⟩:=e;simp only[bG]at he;obtain⟨v,row,rfl,cw,jd⟩:=he;have hv:=cw.cell;have Us:kltV nx v=true:=by
  simp only[aE,kltV]at aX;split at aX
  ·rename_i q;split at q
   ·rename_i q2;exact q2
   ·cases q
  ·cases aX
 have gE:row.all ax=true:=bP.plain (cj.pp.1 jd) cw.row_len;have D5:ps.length<=100000:=by
  have:=lz ps;simp only[dV]at ip;omega
 have ay:=fun N=>cw.len (P:=ao) (t:=42) ff.2.2.2.2.2 N
 refine ar.wk 25 [.cell 2 44] Tryz.func65 ?_;refine gk fT hv.1 hv.2 ?_;generalize xu:aG (aG M _ _) _ _=M1;have a1:aq nx M M1:=by rw[<-xu];exact O
 have m1:gG M1 nx=some (.row [.int .i64 k,.int .u64 x,.int .u64 y,v]):=by rw[<-xu];exact J
 have m2:gG M1 (nx+1)=some (.row [.int .i64 0,.int .u64 0,.int .u64 0,.nils]):=by rw[<-xu];exact J
 clear xu;refine gQ (f115 ρ (cw.agr (a1.le hb)) af D5 gE).out ?_;rintro⟨u,M2,n2⟩ ⟨⟨g1,g2,g3⟩,g4,g5⟩;simp only at g1 g2 g3 g4 g5;have y1:=(g1 nx af).trans m1;have y2:=(g1 (nx+1) af).trans m2;have a2:aq nx M M2:=a1.trans (g1.le af);rcases g3 with ⟨rfl,rfl⟩ | ⟨Q6,K,rfl,K1,K2,K3⟩
 ·have pG:ps.length=0:=by
   rcases cw.2 with ⟨_,q,_⟩ | ⟨_,_,_,_,q,_⟩
   ·exact q
   ·cases q
  have sV:ps=[]:=length_eq_zero_iff.1 pG;refine gk fT y1 y2 ?_;refine aC (fun m' s=>gG s.env 1=some (.mp nx 0)/\gG s.env 2=some (.mp (nx+1) 0)/\gG s.env 11=some (.int .i64 0)/\gG s.env 12=some (.int .i64 0)/\gG s.M nx=some (.row [.int .i64 k,.int .u64 x,.int .u64 y,.nils])/\gG s.M (nx+1)=some (.row [.int .i64 0,.int .u64 0,.int .u64 0,.nils])/\aq nx M s.M/\n2<=s.nx) 0 ?_ ?_
  ·refine gk fT y1 y2 ?_
   exact⟨(by(repeat (refine aq.set ?_ af _));exact a2),af⟩
  ·rintro m' ⟨env,M',nx'⟩ ⟨e1,e2,kW,vS,z1,z2,ha,hn⟩
   simp only at e1 e2 kW vS z1 z2 ha hn;refine ky fT e1 e2 kW vS z1 z2 ?_;refine⟨⟨_,rfl,?_⟩,(by(repeat (refine aq.set ?_ af _));exact ha),af⟩;simp only[dm,sV,bP];exact⟨_,[],rfl,⟨aj,.inl ⟨rfl,rfl,rfl⟩⟩,trivial⟩
 ·have Oe:=cw.row_len
  refine gk fT y1 y2 ?_;refine aC (fun m' s=>∃(i:Nat) (rw:List XV),i<=ps.length/\m'=ps.length - i/\gG s.env 1=some (.mp nx 0)/\gG s.env 2=some (.mp (nx+1) 0)/\gG s.env 10=some (.sl K 4 0 ps.length ps.length)/\gG s.env 11=some (.int .i64 ps.length)/\gG s.env 12=some (.int .i64 i) /\
   gG s.M nx=some (.row [.int .i64 k,.int .u64 x,.int .u64 y,.sl K 4 0 ps.length ps.length])/\gG s.M (nx+1)=some (.row [.int .i64 0,.int .u64 0,.int .u64 0,.nils])/\gG s.M K=some (.row rw)/\rw.length=ps.length*4 /\
   (∀j e,ps[j]?=some e->dm s.M (fun q=>(q<b\/(K<q/\j<i))/\q<s.nx) e ((rw.drop (j*4)).take 4))/\aq nx M s.M/\n2<=s.nx/\Cl s.nx s.M)
   ps.length ⟨0,row,af,af,?_⟩ ?_
  ·refine jz fT y1 y2 K3 ?_
   refine⟨Oe,fun j e he=>?_,(by(repeat (refine aq.set ?_ af _));exact a2),af,?_⟩
   ·have:=bP.get (cj.pp.1 (jd.agr (a2.le hb))) he
    exact this.keep fun q hq=>⟨J,.inl hq,af⟩
   ·refine(g4.le af).set af ?_
    have xj:∀c,Nat.blt K (n2+c)=true:=fun c=>by rw[blt_eq];omega
    simp only[cp,aE,kltV,xj]
  ·rintro m' ⟨env,M',nx'⟩ ⟨i,rw',hi,ir,e1,e2,dx,kW,vS,z1,z2,z3,je,fF,ha,hn,jZ⟩
   simp only at e1 e2 dx kW vS z1 z2 z3 fF ha hn jZ;by_cases aL:(i:Int)<ps.length
   ·have aP:i<ps.length:=af
    obtain⟨c,hc⟩:∃c,ps[i]?=some c:=⟨ps[i],by simp[aP]⟩;have bV:=eF i;have hE:=fF i c hc;have NL:=hE;obtain⟨k',x',y',ps'⟩:=c;simp only[dm]at NL;obtain⟨v',row',dI,ox,_⟩:=NL;have oP:=ox.cell;have bC:∀kk,br ao 42 (.sl K 4 0 ps.length ps.length) (.int kk (i:Int))=some (.mp K (i*4)):=fun kk=>by
     rw[cy,ff.2.2.2.1,ev _ _ _ _ _ af af];simp
    have rC:(i+1)*4<=ps.length*4:=mul_le_mul_right _ aP;have aU:b_ ao M' 44 (.mp K (i*4))=some ⟨.agg [.int .i64 k',.int .u64 x',.int .u64 y',v'],[K],[]⟩:=by
     rw[fG (by unfold vR;rw[z3]) fu.1 af,dI]
    have hEb:bG M' b (.mk k' x' y' ps') [.int .i64 k',.int .u64 x',.int .u64 y',v']:=by
     rw[dI]at hE;exact bG.pp.2 (hE.keep fun q hq=>⟨rfl,by rcases hq.1 with h | h;exact h;omega⟩)
    have CI:kltV nx' v'=true:=by
     have h1:=(jZ K _ z3).2;simp only[cp]at h1;exact cq h1 (mem_of_mem_drop (mem_of_mem_take (show v' ∈ List.take 4 (List.drop (i*4) rw') by rw[dI];simp)))
    have Bh:dV (.mk k' x' y' ps')<sz/\dV (.mk k' x' y' ps')<=100000:=by
     have:=fb (mem_of_getElem? hc);simp only[dV]at cJ ip this ⊢;omega
    refine yq fT e1 e2 dx kW vS aL bC aU oP.1 oP.2 z1 ?_;generalize oM:aG (aG M' _ _) _ _=M3;have a3:aq nx' M' M3:=by rw[<-oM];exact O
    have yG:Cl (nx'+11) M3:=by
     rw[<-oM];refine((jZ.le af).set af rfl).set af ?_;simp only[cp,aE,kltV];rw[kltV.le af CI]
    clear oM;obtain⟨v1,N,bD,hC,⟨TR,qx,sP⟩,Mj,jT,lH,mN⟩:=bN.made (P:=ao) (ρ:=ρ) (g:=65) (args:=[.agg [.int .i64 k',.int .u64 x',.int .u64 y',v']]) (M:=M3) (nx:=nx'+11) (Q:=Cc b (nx'+11) (.mk k' x' y' ps')) yG
     (by simp only[aE,kltV];rw[kltV.le af CI]) (fun N hN=>ih { ρ with det:=true } _ N (nx'+11) b _ Bh.1 (hEb.agr ((a3.trans (hN.le af)).le af)) af Bh.2)
     (.agg [.int .i64 k',.int .u64 x',.int .u64 y',v']) (by simp only[kltV,aE];rw[kltV.le af CI])
     (fun N hN=>⟨_,rfl,(bG.pp.1 (hEb.agr ((a3.trans (hN.le af)).le af))).keep fun q hq=>⟨rfl,show (q<b\/nx'+11<=q)/\q<nx'+11 from ⟨.inl hq,by have:q<b:=hq;omega⟩⟩⟩)
    simp only at qx sP;subst qx;have CC:=sP;simp only[dm]at CC;obtain⟨w',oQ,hw',hw2',_⟩:=CC;subst hw';have Y2:=hw2'.cell;have dz:∀q,q<nx'->gG (aY M3 (dH N (nx'+11) bD)) q=gG M' q:=fun q hq=>by rw[bW,if_neg af];exact a3 q hq
    have hK:=(dz K af).trans z3;have iO:=eI N (nx'+11) bD;refine aT hC ak ?_;refine yq fT bC hK Y2.1 Y2.2 @aA bV e1 e2 dx kW vS ?_;have NY:i*4+[XV.int IntKind.i64 k',XV.int IntKind.u64 x',XV.int IntKind.u64 y',w'].length<=rw'.length:=by simp only[length_cons,length_nil];omega
    have hkw:kltV bD w'=true:=by
     simp only[kltV,aE]at mN;cases hq:kltV bD w' with
     | true=>rfl
     | false=>rw[hq]at mN;cases mN
    refine⟨bn _ _ _ _ _ _ (fun q hq=>by have:=iO q hq;simp only[mem_singleton];omega) (fun q hq=>aj) (fun q hq=>by simp at hq),ps.length - (i+1),af,i+1,_,af,rfl,rfl,(dz nx af).trans z1,(dz (nx+1) af).trans z2,rfl,by rw[ib _ _ _ NY];exact je,fun j e hj=>?_,fun q hq=>?_,af,?_⟩
    ·have yY:j<ps.length:=(List.getElem?_eq_some_iff.1 hj).1
     rw[Fc rw' 4 i j ps.length _ rfl je aP yY];split
     ·rename_i kX
      subst kX;rw[hc]at hj;cases hj;refine sP.keep fun q hq=>?_
      obtain⟨q1,q2⟩:(q<b\/nx'+11<=q)/\q<bD:=hq;refine⟨?_,?_,af⟩
      ·rw[aB,if_neg af,bW]
       split
       ·rfl
       ·exact(Mj q af).symm
      ·rcases q1 with h | h
       ·exact .inl h
       ·exact .inr ⟨af,af⟩
     ·refine(fF j e hj).keep fun q hq=>?_
      obtain⟨q1,q2⟩:=hq;refine⟨?_,?_,af⟩
      ·rw[aB,if_neg af]
       exact dz q q2
      ·rcases q1 with h | ⟨h,h'⟩
       ·exact .inl h
       ·exact .inr ⟨h,af⟩
    ·rw[aB,if_neg af,dz q af]
     exact ha q hq
    ·have hcH:Cl bD (aY M3 (dH N (nx'+11) bD)):=fun q o ho=>by
      rw[bW]at ho;split at ho
      ·exact lH q o ho
      ·exact yG.le jT q o ho
     refine(hcH.le af).set af ?_;simp only[cp];refine mU fun z hz=>?_
     rw[fa _ _ _ NY]at hz;have h1:=(jZ K _ z3).2;simp only[cp]at h1;rcases mem_append.1 hz with hz | hz
     ·exact kltV.le af (cq h1 (mem_of_mem_take hz))
     ·rcases mem_append.1 hz with hz | hz
      ·simp only[mem_cons,not_mem_nil,or_false]at hz
       rcases hz with rfl | rfl | rfl | rfl
       ·rfl
       ·rfl
       ·rfl
       ·exact kltV.le af hkw
      ·exact kltV.le af (cq h1 (mem_of_mem_drop hz))
   ·have gB:i=ps.length:=af
    refine wT fT e1 e2 dx kW vS aL z1 z2 ?_;refine⟨⟨_,rfl,?_⟩,(by(repeat (refine aq.set ?_ af _));exact ha),af⟩;simp only[dm];refine⟨_,rw',rfl,⟨af,.inr ⟨K,0,ps.length,rw',rfl,⟨.inr af,af⟩,by unfold vR;rw[aB,if_neg af,z3],af,by rw[drop_zero,take_of_length_le af]⟩⟩,bP.of fun j c hc=>?_⟩;exact(fF j c hc).keep fun q hq=>by
     have:=hq.2;refine⟨?_,?_,af⟩
     ·rw[aB,if_neg af]
     ·rcases hq.1 with h | h
      ·exact .inl h
      ·exact .inr af
structure ku where
 t:Int
 b:Int
 e:Int
 s:Int
 n:Int
structure fS where
 pos:Int
 t:Int
 x:Int
 w:Int
 n:Int
 v:Int
 dead:Bool
 fin:Bool
structure my where
 pos:Int
 place:Int
 t:Int
 x:Int
 w:Int
 n:Int
 pred:Bool
 m:Bool
structure HS where
 nrec:Nat
 crec:List XV
 txs:List ku
 places:Nat->Int->List Int
 num:Int->Option Int
 com:List Int
 mods:List fS
 ver:Int->Int->Int->Option Int
 looks:List my
 obj:Int->Option Int
def d_ (a:ku):List XV:=[.int .u64 a.t,.int .i64 a.b,.int .i64 a.e,.int .i64 a.s,.int .i64 a.n]
def cO (a:fS):List XV:=[.int .i64 a.pos,.int .u64 a.t,.int .u64 a.x,.int .u64 a.w,.int .u64 a.n,.int .u64 a.v,.bool a.dead,.bool a.fin]
def cX (a:my):List XV:=[.int .i64 a.pos,.int .i64 a.place,.int .u64 a.t,.int .u64 a.x,.int .u64 a.w,.int .u64 a.n,.bool a.pred,.bool a.m]
inductive Hg where
 | none | hist | recs | txs | num | com | mods | ver | looks | obj | known (i:Nat) | kmap (i:Nat) | slot (i:Nat) (x:Int)
structure kD {κ β:Type} (l:List (Nat×κ×β)) (c:Nat):Prop where
 lt:∀e ∈ l,e.1<c
 nd:(l.map (·.1)).Nodup
 kd:(l.map (·.2.1)).Nodup
theorem AH {κ β:Type} (c:Nat):kD ([]:List (Nat×κ×β)) c:=⟨aj,aj,aj⟩
theorem rS {κ β:Type} [DecidableEq κ]:∀(l:List (Nat×κ×β)) (c:Nat) (k:κ) (v:β),(dD l c k v).map (·.1)=if (aH l k).isSome then l.map (·.1) else l.map (·.1)++[c]
 | [],c,k,v=>rfl
 | (b,k',u)::l,c,k,v=>by
   simp only[dD,aH];split
   ·simp
   ·rw[map_cons,rS l c k v]
    split<;>simp
theorem wa {κ β:Type} [DecidableEq κ]:∀(l:List (Nat×κ×β)) (c:Nat) (k:κ) (v:β),(dD l c k v).map (·.2.1)=if (aH l k).isSome then l.map (·.2.1) else l.map (·.2.1)++[k]
 | [],c,k,v=>rfl
 | (b,k',u)::l,c,k,v=>by
   simp only[dD,aH];split
   ·simp
   ·rw[map_cons,wa l c k v]
    split<;>simp
theorem tA {κ β:Type} [DecidableEq κ]:∀{l:List (Nat×κ×β)} {k:κ},aH l k=none->k ∉ l.map (·.2.1)
 | [],k,_=>aj
 | (b,k',u)::l,k,h=>by
   simp only[aH]at h;split at h
   ·cases h
   ·rename_i e
    have:=tA h;rw[map_cons,mem_cons,not_or];exact⟨e,this⟩
theorem gH {κ β:Type} [DecidableEq κ]:∀{l:List (Nat×κ×β)},(l.map (·.2.1)).Nodup->∀e ∈ l,aH l e.2.1=some e.2.2
 | [],_,e,he=>by cases he
 | (b,k',u)::l,hn,e,he=>by
   simp only[aH];rw[map_cons,nodup_cons]at hn;rcases mem_cons.1 he with rfl | he
   ·rw[if_pos rfl]
   ·rw[if_neg fun q=>hn.1 (mem_map.2 ⟨e,he,q⟩)]
    exact gH hn.2 e he
theorem ju {κ β:Type} [DecidableEq κ]:∀{l:List (Nat×κ×β)} {k:κ} {v:β},aH l k=some v->∃b,(b,k,v) ∈ l
 | [],k,v,h=>by cases h
 | (b,k',u)::l,k,v,h=>by
   simp only[aH]at h;split at h
   ·rename_i e;subst e;cases h;exact⟨b,mem_cons_self⟩
   ·obtain⟨b',h'⟩:=ju h;exact⟨b',mem_cons_of_mem _ h'⟩
theorem zV {κ β:Type} [DecidableEq κ] {l:List (Nat×κ×β)} {c:Nat} {k:κ} {v:β} (h:kD l c):kD (dD l c k v) (lB l c k):=by
 have hb:=rS l c k v;have hk:=wa l c k v;have lt:∀b ∈ l.map (·.1),b<c:=fun b hb=>by
  obtain⟨e,he,rfl⟩:=mem_map.1 hb;exact h.lt e he
 unfold lB;by_cases hs:(aH l k).isSome
 ·rw[if_pos hs]at hb hk ⊢
  exact⟨fun e he=>lt _ (by rw[<-hb];exact mem_map.2 ⟨e,he,rfl⟩),by rw[hb];exact h.nd,by rw[hk];exact h.kd⟩
 ·rw[if_neg hs]at hb hk ⊢
  refine⟨fun e he=>?_,?_,?_⟩
  ·have:e.1 ∈ l.map (·.1)++[c]:=by rw[<-hb];exact mem_map.2 ⟨e,he,rfl⟩
   rcases mem_append.1 this with q | q
   ·have:=lt _ q;omega
   ·rw[mem_singleton]at q;omega
  ·rw[hb,nodup_append]
   refine⟨h.nd,aj,fun a ha b rA=>?_⟩;rw[mem_singleton]at rA;have:=lt a ha;omega
  ·rw[hk,nodup_append]
   refine⟨h.kd,aj,fun a ha b rA=>?_⟩;rw[mem_singleton]at rA;subst rA;intro e;subst e;exact tA (by simpa using hs) ha
def iB (M:Hp) (lo hi:Nat) (tag:Nat->Hg) (i:Nat) (a:ku) (pl:Int->List Int) (v:XV):Prop :=
 ∃rk mk c lm,v = .mp rk 0/\lo<=rk/\rk<hi/\tag rk = .known i/\gG M rk=some (.row (d_ a++[.mm mk]))/\lo<=mk/\mk<hi/\tag mk = .kmap i/\gG M mk=some (.map (cx vX lm) c) /\
  (kD lm c/\∀x,aH lm x=none->pl x=[])/\∀x v,aH lm x=some v->pl x≠[]/\bS M lo hi tag (.slot i x) v 1 (pl x).length ((pl x).map (XV.int .i64))
structure eM (M:Hp) (lo hi h:Nat) (S:HS) (tag:Nat->Hg) (vrec vtxs vcom vmods vlook:XV) (nk vk ok cn cv co:Nat) (ptrs:List XV) (lnum:List (Nat×Int×Int)) (lver:List (Nat×List Int×Int)) (lobj:List (Nat×Int×Int)):Prop where
 lo_h:lo<=h
 h_hi:h<hi
 tg:tag h = .hist
 row:gG M h=some (.row [vrec,vtxs,.mm nk,vcom,vmods,.mm vk,vlook,.mm ok])
 recs:bS M lo hi tag .recs vrec 11 S.nrec S.crec
 txs:bS M lo hi tag .txs vtxs 1 S.txs.length ptrs
 known:∀i a,S.txs[i]?=some a->∃v,ptrs[i]?=some v/\iB M lo hi tag i a (S.places i) v
 nlo:lo<=nk
 nhi:nk<hi
 ntg:tag nk = .num
 num:gG M nk=some (.map (cx (vI .i64) lnum) cn)
 numS:∀t,aH lnum t=S.num t
 com:bS M lo hi tag .com vcom 1 S.com.length (S.com.map (XV.int .u64))
 mods:bS M lo hi tag .mods vmods 8 S.mods.length (S.mods.flatMap cO)
 vlo:lo<=vk
 vhi:vk<hi
 vtg:tag vk = .ver
 ver:gG M vk=some (.map (eY (vI .i64) lver) cv)
 vrow:jL 3 lver
 verS:∀x w n,aH lver [x,w,n]=S.ver x w n
 looks:bS M lo hi tag .looks vlook 8 S.looks.length (S.looks.flatMap cX)
 olo:lo<=ok
 ohi:ok<hi
 otg:tag ok = .obj
 obj:gG M ok=some (.map (cx (vI .i64) lobj) co)
 objS:kD lobj co/\∀x,aH lobj x=S.obj x
def bX (M:Hp) (lo hi h:Nat) (S:HS):Prop:=∃tag vrec vtxs vcom vmods vlook nk vk ok cn cv co ptrs lnum lver lobj,eM M lo hi h S tag vrec vtxs vcom vmods vlook nk vk ok cn cv co ptrs lnum lver lobj
theorem iB.keep {M':Hp} {lo hi hi':Nat} {tag tag':Nat->Hg} {a:ku} {pl:Int->List Int} (h:iB M lo hi tag i a pl v)
 (hk:∀k,k<hi->(tag k = .known i\/tag k = .kmap i\/∃x,tag k = .slot i x)->gG M' k=gG M k/\tag' k=tag k) (hh:hi<=hi'):iB M' lo hi' tag' i a pl v:=by
 obtain⟨rk,mk,c,lm,h1,h2,h3,h4,h5,h6,h7,h8,h9,Gf,RJ⟩:=h;obtain⟨e1,e2⟩:=hk rk h3 (.inl h4);obtain⟨e3,e4⟩:=hk mk h7 (.inr (.inl h8));refine⟨rk,mk,c,lm,h1,h2,af,by rw[e2];exact h4,by rw[e1];exact h5,h6,af,by rw[e4];exact h8,by rw[e3];exact h9,Gf,fun x v hx=>?_⟩;obtain⟨g1,g2⟩:=RJ x v hx;exact⟨g1,g2.keep (fun k ia hg=>by
  obtain⟨e5,e6⟩:=hk k ia (.inr (.inr ⟨x,hg⟩));exact⟨e5,by rw[e6];exact hg⟩) hh⟩
end Go.Xs
namespace Go.Xs
open List Nat Option
def HS.look (S:HS) (a:my):HS:={ S with looks:=S.looks++[a],obj:=fun x=>if x=a.x then some ((S.obj a.x).getD 0+1) else S.obj x }
section
variable {M M':Hp} {lo hi hi' h:Nat} {S S':HS} {tag tag':Nat->Hg} {vrec vtxs vcom vmods vlook:XV} {nk vk ok cn cv co:Nat} {ptrs:List XV} {lnum:List (Nat×Int×Int)} {lver:List (Nat×List Int×Int)} {lobj:List (Nat×Int×Int)}
theorem zf {C:Hg->Prop} (keep:∀k,k<hi->¬ C (tag k)->gG M' k=gG M k) (cH:∀k,k<hi->tag' k=tag k) (tg:Hg) (hc:¬ C tg):∀k,k<hi->tag k=tg->gG M' k=gG M k/\tag' k=tg :=
 fun k hk hg=>⟨keep k hk (by rw[hg];exact hc),by rw[cH k hk];exact hg⟩
theorem eM.look {vlook':XV} {co':Nat} {lobj':List (Nat×Int×Int)} {a:my} (H:eM M lo hi h S tag vrec vtxs vcom vmods vlook nk vk ok cn cv co ptrs lnum lver lobj)
 (keep:∀k,k<hi->¬ (fun g=>g=Hg.hist\/g = .looks\/g = .obj) (tag k)->gG M' k=gG M k) (cH:∀k,k<hi->tag' k=tag k) (hh:hi<=hi')
 (row:gG M' h=some (.row [vrec,vtxs,.mm nk,vcom,vmods,.mm vk,vlook',.mm ok])) (looks:bS M' lo hi' tag' .looks vlook' 8 (S.looks.length+1) ((S.looks++[a]).flatMap cX))
 (obj:gG M' ok=some (.map (cx (vI .i64) lobj') co')) (objS:kD lobj' co'/\∀x,aH lobj' x=(S.look a).obj x) :
 eM M' lo hi' h (S.look a) tag' vrec vtxs vcom vmods vlook' nk vk ok cn cv co' ptrs lnum lver lobj':=by
 have kk:=fun tg hc=>zf (M:=M) (M':=M') (C:=fun g=>g=Hg.hist\/g = .looks\/g = .obj) keep cH tg hc
 exact {
  lo_h:=H.lo_h,h_hi:=Nat.lt_of_lt_of_le H.h_hi hh,tg:=by rw[cH h H.h_hi];exact H.tg,row:=row
  recs:=H.recs.keep (kk _ aj) hh,txs:=H.txs.keep (kk _ aj) hh
  known:=fun i b hb=>by
   obtain⟨v,h1,h2⟩:=H.known i b hb;exact⟨v,h1,h2.keep (fun k hk hg=>⟨keep k hk (by rcases hg with q | q | ⟨x,q⟩<;>rw[q]<;>simp),cH k hk⟩) hh⟩
  nlo:=H.nlo,nhi:=Nat.lt_of_lt_of_le H.nhi hh,ntg:=by rw[cH nk H.nhi];exact H.ntg,num:=by rw[(kk _ aj nk H.nhi H.ntg).1];exact H.num,numS:=H.numS
  com:=H.com.keep (kk _ aj) hh,mods:=H.mods.keep (kk _ aj) hh
  vlo:=H.vlo,vhi:=Nat.lt_of_lt_of_le H.vhi hh,vtg:=by rw[cH vk H.vhi];exact H.vtg,ver:=by rw[(kk _ aj vk H.vhi H.vtg).1];exact H.ver,vrow:=H.vrow,verS:=H.verS
  looks:=by have e:(S.look a).looks.length=S.looks.length+1:=by simp[HS.look]
            rw[e];exact looks
  olo:=H.olo,ohi:=Nat.lt_of_lt_of_le H.ohi hh,otg:=by rw[cH ok H.ohi];exact H.otg,obj:=obj,objS:=objS }
theorem eM.agr (H:eM M lo hi h S tag vrec vtxs vcom vmods vlook nk vk ok cn cv co ptrs lnum lver lobj) (ha:aq hi M M'):eM M' lo hi h S tag vrec vtxs vcom vmods vlook nk vk ok cn cv co ptrs lnum lver lobj:=by
 have kk:∀(tg:Hg) (k:Nat),k<hi->tag k=tg->gG M' k=gG M k/\tag k=tg:=fun tg k hk hg=>⟨ha k hk,hg⟩
 exact {
  lo_h:=H.lo_h,h_hi:=H.h_hi,tg:=H.tg,row:=by rw[ha h H.h_hi];exact H.row
  recs:=H.recs.keep (kk _) (Nat.le_refl _),txs:=H.txs.keep (kk _) (Nat.le_refl _)
  known:=fun i b hb=>by
   obtain⟨v,h1,h2⟩:=H.known i b hb;exact⟨v,h1,h2.keep (fun k hk _=>⟨ha k hk,rfl⟩) (Nat.le_refl _)⟩
  nlo:=H.nlo,nhi:=H.nhi,ntg:=H.ntg,num:=by rw[ha nk H.nhi];exact H.num,numS:=H.numS
  com:=H.com.keep (kk _) (Nat.le_refl _),mods:=H.mods.keep (kk _) (Nat.le_refl _)
  vlo:=H.vlo,vhi:=H.vhi,vtg:=H.vtg,ver:=by rw[ha vk H.vhi];exact H.ver,vrow:=H.vrow,verS:=H.verS
  looks:=H.looks.keep (kk _) (Nat.le_refl _)
  olo:=H.olo,ohi:=H.ohi,otg:=H.otg,obj:=by rw[ha ok H.ohi];exact H.obj,objS:=H.objS }
theorem eM.norm (H:eM M lo hi h S tag vrec vtxs vcom vmods vlook nk vk ok cn cv co ptrs lnum lver lobj):eM M lo hi h S (fun k=>if k<hi then tag k else .none) vrec vtxs vcom vmods vlook nk vk ok cn cv co ptrs lnum lver lobj:=by
 have ht:∀k,k<hi->(if k<hi then tag k else Hg.none)=tag k:=fun k hk=>if_pos hk
 have kk:∀(tg:Hg) (k:Nat),k<hi->tag k=tg->gG M k=gG M k/\(if k<hi then tag k else Hg.none)=tg:=fun tg k hk hg=>⟨rfl,by rw[ht k hk];exact hg⟩
 exact {
  lo_h:=H.lo_h,h_hi:=H.h_hi,tg:=by rw[ht h H.h_hi];exact H.tg,row:=H.row
  recs:=H.recs.keep (kk _) (Nat.le_refl _),txs:=H.txs.keep (kk _) (Nat.le_refl _)
  known:=fun i b hb=>by
   obtain⟨v,h1,h2⟩:=H.known i b hb;exact⟨v,h1,h2.keep (fun k hk _=>⟨rfl,ht k hk⟩) (Nat.le_refl _)⟩
  nlo:=H.nlo,nhi:=H.nhi,ntg:=by rw[ht nk H.nhi];exact H.ntg,num:=H.num,numS:=H.numS
  com:=H.com.keep (kk _) (Nat.le_refl _),mods:=H.mods.keep (kk _) (Nat.le_refl _)
  vlo:=H.vlo,vhi:=H.vhi,vtg:=by rw[ht vk H.vhi];exact H.vtg,ver:=H.ver,vrow:=H.vrow,verS:=H.verS
  looks:=H.looks.keep (kk _) (Nat.le_refl _)
  olo:=H.olo,ohi:=H.ohi,otg:=by rw[ht ok H.ohi];exact H.otg,obj:=H.obj,objS:=H.objS }
end
end Go.Xs
namespace Go.Xs
open List Nat Option
variable{b k sz:Nat}{cs:List XV}{v:XV}
noncomputable section
variable {P:Program} {ρ:aK} {M M' N N':Hp} {nx nx' g lo hi h:Nat} {S S':HS} {args:List XV}
def xQ (M M':Hp):Prop:=∀k x,gG M k=some x->kF x=true->gG M' k=some x
theorem xQ.row (h:xQ M M') (hk:gG M k=some (.row cs)):gG M' k=some (.row cs):=h k _ hk rfl
theorem xQ.map (h:xQ M M') {c:Nat} {es:List (Nat×XV×XV)} (hk:gG M k=some (.map es c)):gG M' k=some (.map es c):=h k _ hk rfl
theorem bS.sub {τ:Type} {tag:Nat->τ} {tg:τ} {len:Nat} (hs:xQ M M') (h:bS M lo hi tag tg v sz len cs):bS M' lo hi tag tg v sz len cs:=by
 obtain⟨h1,h2,h3 | ⟨h0,k,e,h4,h5,h6,h7⟩⟩:=h
 ·exact⟨h1,h2,.inl h3⟩
 ·exact⟨h1,h2,.inr ⟨h0,k,e,h4,h5,h6,hs.row h7⟩⟩
theorem iB.sub {tag:Nat->Hg} {i:Nat} {a:ku} {pl:Int->List Int} (hs:xQ M M') (h:iB M lo hi tag i a pl v):iB M' lo hi tag i a pl v:=by
 obtain⟨rk,mk,c,lm,h1,h2,h3,h4,h5,h6,h7,h8,h9,Gf,RJ⟩:=h;exact⟨rk,mk,c,lm,h1,h2,h3,h4,hs.row h5,h6,h7,h8,hs.map h9,Gf,fun x v hx=>⟨(RJ x v hx).1,(RJ x v hx).2.sub hs⟩⟩
theorem bX.sub (hs:xQ M M') (H:bX M lo hi h S):bX M' lo hi h S:=by
 obtain⟨tag,vrec,vtxs,vcom,vmods,vlook,nk,vk,ok,cn,cv,co,ptrs,lnum,lver,lobj,H⟩:=H;exact⟨tag,vrec,vtxs,vcom,vmods,vlook,nk,vk,ok,cn,cv,co,ptrs,lnum,lver,lobj,
  { lo_h:=H.lo_h,h_hi:=H.h_hi,tg:=H.tg,row:=hs.row H.row,recs:=H.recs.sub hs,txs:=H.txs.sub hs
    known:=fun i a ha=>let ⟨v,h1,h2⟩:=H.known i a ha;⟨v,h1,h2.sub hs⟩
    nlo:=H.nlo,nhi:=H.nhi,ntg:=H.ntg,num:=hs.map H.num,numS:=H.numS,com:=H.com.sub hs,mods:=H.mods.sub hs
    vlo:=H.vlo,vhi:=H.vhi,vtg:=H.vtg,ver:=hs.map H.ver,vrow:=H.vrow,verS:=H.verS,looks:=H.looks.sub hs
    olo:=H.olo,ohi:=H.ohi,otg:=H.otg,obj:=hs.map H.obj,objS:=H.objS }⟩
theorem bX.lo_lt (H:bX M lo hi h S):lo<hi:=by
 obtain⟨tag,vrec,vtxs,vcom,vmods,vlook,nk,vk,ok,cn,cv,co,ptrs,lnum,lver,lobj,H⟩:=H;have h1:=H.lo_h;have h2:=H.h_hi;omega
structure HF (M:Hp) (nx:Nat) (N:Hp) (lo h:Nat) (S:HS):Prop where
 mu:Mu N M
 lt:∀k x,gG N k=some x->k<nx
 ge:∀k x,gG N k=some x->lo<=k
 at':∃hi,hi<=nx/\bX N lo hi h S
theorem HF.keep (H:HF M nx N lo h S) (hk:∀k x,gG N k=some x->gG M' k=gG M k) (hn:nx<=nx'):HF M' nx' N lo h S :=
 ⟨fun k o ho=>⟨by rw[hk k o ho];exact(H.mu k o ho).1,(H.mu k o ho).2⟩,fun k x hx=>Nat.lt_of_lt_of_le (H.lt k x hx) hn,H.ge,let ⟨hi,h1,h2⟩:=H.at';⟨hi,Nat.le_trans h1 hn,h2⟩⟩
theorem HF.agr (H:HF M nx N lo h S) (ha:aq nx M M') (hn:nx<=nx'):HF M' nx' N lo h S:=H.keep (fun k x hx=>ha k (H.lt k x hx)) hn
theorem HF.msub (H:HF M nx N lo h S):xQ N M:=fun k x hk _=>(H.mu k x hk).1
theorem HF.hist (H:HF M nx N lo h S):∃hi,hi<=nx/\bX M lo hi h S:=let ⟨hi,h1,h2⟩:=H.at';⟨hi,h1,h2.sub H.msub⟩
theorem HF.out (H:HF M nx N lo h S) (hk:nx<=k):gG N k=none:=by
 cases hn:gG N k with
 | none=>rfl
 | some x=>have:=H.lt k x hn;omega
def Dg (M:Hp) (nx:Nat) (N:Hp) (lo h:Nat) (S':HS) (v:XV) (o:ew):Prop:=o.1=v/\nx<=o.2.2/\∃N',HF o.2.1 o.2.2 N' lo h S'/\gM nx N M N' o.2.1/\aq lo M o.2.1
theorem ar.hist (H:HF M nx N lo h S) (hc:∀hi,hi<=nx->bX N lo hi h S->ar P ρ g args N nx fun o=>o.1=v/\bX o.2.1 lo o.2.2 h S'/\aq lo N o.2.1/\nx<=o.2.2):ar P ρ g args M nx (Dg M nx N lo h S' v):=by
 obtain⟨hi,h1,h2⟩:=H.at';refine((hc hi h1 h2).frame H.mu.sub).out.mono fun o ⟨⟨N',⟨q1,q2,q3,q4⟩,q5⟩,q6,_⟩=>?_
 simp only at q1 q2 q3 q4;have hN:∀k,k<lo->gG N k=none:=fun k hk=>by
  cases hn:gG N k with
  | none=>rfl
  | some x=>have:=H.ge k x hn;omega
 have JT:∀k,k<lo->gG N' k=none:=fun k hk=>by rw[q3 k hk];exact hN k hk
 have mo:lo<=nx:=by have:=h2.lo_lt;omega
 refine⟨q1,q4,Rt N',⟨q5.mu.1,fun k x hx=>(q6 k x (q5.mu.1 k x hx).1).1,fun k x hx=>?_,o.2.2,Nat.le_refl _,q2.sub fun k x hx hm=>pI.2 ⟨hx,hm⟩⟩,q5.mu.2,fun k hk=>q5.mid k af (hN k hk) (JT k hk)⟩;refine Nat.le_of_not_lt fun hk=>?_
 have:=(pI.1 hx).1;rw[JT k hk]at this;cases this
def Pf (R:ew->Prop):bg->XS->Prop
 | .exit _,_=>False
 | _,s=>R (.tup [],s.M,s.nx)
theorem G8 (R:ew->Prop):vA P [] R=Pf R:=by
 funext e s;cases e<;>simp[vA,Pf,cB,cR]
theorem kq:cR [] = .tup []:=rfl
theorem kg (v:XV):cR [v]=v:=rfl
theorem km (v w:XV) (l:List XV):cR (v::w::l) = .tup (v::w::l):=rfl
theorem Pv (R:ew->Prop) (s:XS):Pf R .normal s=R (.tup [],s.M,s.nx):=rfl
def Kp (b:Nat) (M M':Hp):Prop:=∀k x,k<b->gG M k=some x->gG M' k=some x
theorem bE.kp {len:Nat} {row:List XV} (h:bE M b v sz len row) (ha:Kp b M M'):bE M' b v sz len row:=by
 refine⟨h.1,?_⟩;rcases h.2 with h | ⟨n,off,cap,cs,h1,h2,h3,h4⟩
 ·exact .inl h
 ·refine .inr ⟨n,off,cap,cs,h1,h2,?_,h4⟩
  unfold vR at h3 ⊢;cases hm:gG M n with
  | none=>rw[hm]at h3;cases h3
  | some x=>rw[ha n x h2 hm];rw[hm]at h3;exact h3
mutual
theorem bG.kp {b:Nat} (ha:Kp b M M'):∀{e:Ex} {cs:List XV},bG M b e cs->bG M' b e cs
 | .mk k x y ps,cs,h=>by
   simp only[bG]at h ⊢;obtain⟨v,row,h1,h2,h3⟩:=h;exact⟨v,row,h1,h2.kp ha,cj.kp ha h3⟩
theorem cj.kp {b:Nat} (ha:Kp b M M'):∀{es:List Ex} {row:List XV},cj M b es row->cj M' b es row
 | [],_,_=>by simp only[cj]
 | e::es,row,h=>by
   simp only[cj]at h ⊢;exact⟨bG.kp ha h.1,cj.kp ha h.2⟩
end
theorem c_.kp (ha:Kp b M M') {r:aR} (h:c_ M b r cs):c_ M' b r cs:=by
 obtain⟨pc,ve,h1,h2,h3⟩:=h;exact⟨pc,ve,h1,h2.kp ha,bE.kp h3 ha⟩
end
end Go.Xs
namespace Go.Xs
open List Nat Option
variable{b n sz:Nat}{v:XV}
noncomputable section
variable {M M':Hp} {p q:Nat->Prop}
def dG (M:Hp) (p:Nat->Prop) (v:XV) (sz len:Nat) (row:List XV):Prop :=
 len<=9223372036854775807/\row.length=len*sz/\((v = .nils/\len=0)\/∃n,v = .sl n sz 0 len len/\p n/\gG M n=some (.row row))
theorem dG.keep {len:Nat} {row:List XV} (h:dG M p v sz len row) (hk:∀k,p k->gG M' k=gG M k/\q k):dG M' q v sz len row:=by
 obtain⟨h1,h2,h | ⟨n,h3,h4,h5⟩⟩:=h
 ·exact⟨h1,h2,.inl h⟩
 ·obtain⟨e1,e2⟩:=hk n h4
  exact⟨h1,h2,.inr ⟨n,h3,e2,e1.trans h5⟩⟩
theorem dG.cell {len:Nat} {row:List XV} (h:dG M p v sz len row):cellsOf v=[v]/\ax v=true:=by
 obtain⟨_,_,⟨rfl,_⟩ | ⟨n,rfl,_⟩⟩:=h<;>exact⟨rfl,rfl⟩
theorem dG.pp {len:Nat} {row:List XV} (h:dG M p v sz len row):dN M p v sz len row:=by
 obtain⟨h1,h2,⟨rfl,rfl⟩ | ⟨n,rfl,h4,h5⟩⟩:=h
 ·exact⟨h1,.inl ⟨rfl,rfl,length_eq_zero_iff.1 af⟩⟩
 ·exact⟨h1,.inr ⟨n,0,len,row,rfl,h4,by unfold vR;rw[h5],af,by rw[drop_zero,take_of_length_le af]⟩⟩
theorem dN.at {len:Nat} {row:List XV} (h:dN M p v sz len row) (hb:∀k,p k->k<b):bE M b v sz len row :=
 (h.keep (q:=(· < b)) fun k hk=>⟨rfl,hb k hk⟩).lt
theorem dG.at {len:Nat} {row:List XV} (h:dG M p v sz len row) (hb:∀k,p k->k<b):bE M b v sz len row:=h.pp.at hb
theorem dG.klt {len:Nat} {row:List XV} (h:dG M p v sz len row) (hb:∀k,p k->k<n):kltV n v=true:=by
 obtain⟨h1,h2,⟨rfl,rfl⟩ | ⟨k,rfl,h4,h5⟩⟩:=h
 ·rfl
 ·simp only[kltV,blt_eq]
  exact hb k h4
theorem mf {i j:Nat} {rw cs:List XV} (h:rw.length=i*sz) (hc:cs.length=sz) (hj:j<i+1):((rw++cs).drop (j*sz)).take sz=if j<i then (rw.drop (j*sz)).take sz else cs:=by
 split
 ·rename_i aL
  have h1:(j+1)*sz<=i*sz:=mul_le_mul_right _ aL;rw[succ_mul]at h1;rw[drop_append_of_le_length af,take_append_of_le_length (by rw[length_drop];omega)]
 ·have:j=i:=af
  subst this;rw[drop_left' h,take_of_length_le af]
theorem Cl.del {k:Nat} (h:Cl n M):Cl n (vO M k):=fun j x hj=>by
 rw[cV]at hj;split at hj
 ·cases hj
 ·exact h j x hj
theorem jA {xs ys:List XV} (h1:aE n xs=true) (h2:aE n ys=true):aE n (xs++ys)=true :=
 mU fun x hx=>(mem_append.1 hx).elim (cq h1) (cq h2)
end
end Go.Xs
namespace Go.Xs
open List Nat Option
noncomputable section
def uE:XV->List Nat->List Nat
 | .sl k _ _ _ _,r=>k::r
 | _,r=>r
def nA:XV->Nat->List XV->List (Nat×Option bx)
 | .sl k _ _ _ _,key,row=>[(k,none),(key,some (.row row))]
 | _,key,row=>[(key,some (.row row))]
section
variable {P:Program} {M N:Hp} {lo hi hi' sz n eb key t B:Nat} {v x:XV} {cs ys zs:List XV} {r:List Nat} {o:bx}
theorem K9 (h:dG M (fun q=>lo<=q/\q<hi) v sz n cs) (hN:∀q,lo<=q->q<hi->gG N q=gG M q) (hr:∀q,lo<=q->q<hi->q ∉ r) (h1:eb<=128) (h2:1<=sz) (h3:zs.length=sz) (h4:n+1<=fE) (h5:ys.all ax=true) :
 tG P N key t v x (some (sz,eb,zs)) (some (ys,1,r))=some ⟨.sl key sz 0 (n+1) (n+1),uE v r,nA v key (cs++ys)⟩:=by
 obtain⟨h6,h7,⟨rfl,rfl⟩ | ⟨k,rfl,⟨k1,k2⟩,h8⟩⟩:=h
 ·have:cs=[]:=length_eq_zero_iff.1 af
  subst this;exact pO t sz eb 0 zs ys r x h1 h2 h3 h4 h5
 ·have hl:db r k=false:=by
   cases hh:db r k with
   | false=>rfl
   | true=>exact(hr k k1 k2 ((eg _ _).1 hh)).elim
  rw[p0 t sz eb k n 1 zs ys r x h1 h2 h3 (Nat.le_refl _) h4 h5,hN k k1 k2,h8];simp only[Pk,hl,ble_eq_true_of_le (Nat.le_of_eq h7.symm),take_of_length_le (Nat.le_of_eq h7)];rfl
theorem dG.push (h:dG M (fun q=>lo<=q/\q<hi) v sz n cs) (P:Program) (t eb:Nat) (zs ys:List XV) (h1:eb<=128) (h2:1<=sz) (h3:zs.length=sz) (h4:n+1<=fE) (h5:ys.all ax=true) :
 ∀(B:Nat) (o:bx) (key:Nat) (x:XV),hi<=B->tG P (aG M B o) key t v x (some (sz,eb,zs)) (some (ys,1,[B]))=some ⟨.sl key sz 0 (n+1) (n+1),uE v [B],nA v key (cs++ys)⟩:=fun B o key x hB =>
 K9 h (fun q _ hq=>by rw[aB,if_neg af]) (fun q _ hq=>by simp only[mem_singleton];omega) h1 h2 h3 h4 h5
theorem AD (v:XV) (key:Nat) (row:List XV) (H:Hp):gG (aY H (nA v key row)) key=some (.row row):=by
 unfold nA;split
 ·simp only[pg,yi,oX];rw[aB,if_pos rfl]
 ·simp only[pg,oX];rw[aB,if_pos rfl]
theorem dG.push_old (h:dG M (fun q=>lo<=q/\q<hi) v sz n cs) {row:List XV} (H:Hp) {q:Nat} (hq:q<lo\/hi<=q) (hk:q≠key):gG (aY H (nA v key row)) q=gG H q:=by
 obtain⟨_,_,⟨rfl,_⟩ | ⟨k,rfl,⟨k1,k2⟩,_⟩⟩:=h
 ·simp only[nA,pg,oX];rw[aB,if_neg (fun e=>hk e.symm)]
 ·simp only[nA,pg,yi,oX];rw[aB,if_neg (fun e=>hk e.symm),cV,if_neg af]
theorem dG.pushed (h:dG M (fun q=>lo<=q/\q<hi) v sz n cs) {H:Hp} (hl:lo<=key) (hk:key<hi') (hy:ys.length=sz) (hn:n+1<=9223372036854775807) :
 dG (aY H (nA v key (cs++ys))) (fun q=>lo<=q/\q<hi') (.sl key sz 0 (n+1) (n+1)) sz (n+1) (cs++ys) :=
 ⟨hn,by rw[length_append,h.2.1,hy,succ_mul],.inr ⟨key,rfl,⟨hl,hk⟩,AD _ _ _ _⟩⟩
theorem dG.up (h:dG M (fun q=>lo<=q/\q<hi) v sz n cs) (hN:∀q,lo<=q->q<hi->gG N q=gG M q) (hh:hi<=hi'):dG N (fun q=>lo<=q/\q<hi') v sz n cs :=
 h.keep fun k hk=>⟨hN k hk.1 hk.2,hk.1,Nat.lt_of_lt_of_le hk.2 hh⟩
theorem dG.nil (sz:Nat) (p:Nat->Prop):dG M p .nils sz 0 []:=⟨af,aj,.inl ⟨rfl,rfl⟩⟩
end
def di {α:Type} (M:Hp) (lo hi:Nat) (v:XV) (sz:Nat) (enc:α->List XV) (l:List α):Prop:=dG M (fun q=>lo<=q/\q<hi) v sz l.length (l.flatMap enc)
def og {α:Type} (nx:Nat) (M:Hp) (sz:Nat) (enc:α->List XV) (l:List α) (r:ew):Prop:=di r.2.1 nx r.2.2 r.1 sz enc l/\aq nx M r.2.1/\nx<=r.2.2
section
variable {α β:Type} {M N:Hp} {lo hi hi' sz:Nat} {v:XV} {enc:α->List XV} {l:List α}
theorem di.at (h:di M lo hi v sz enc l) {b:Nat} (hb:hi<=b):bE M b v sz l.length (l.flatMap enc):=dG.at h fun k hk=>Nat.lt_of_lt_of_le hk.2 hb
theorem di.up (h:di M lo hi v sz enc l) (hN:∀q,lo<=q->q<hi->gG N q=gG M q) (hh:hi<=hi'):di N lo hi' v sz enc l:=dG.up h hN hh
theorem eT {f:α->List XV} (hf:∀a,(f a).length=sz):∀{l:List α} {i:Nat} {a:α},l[i]?=some a->((l.flatMap f).drop (i*sz)).take sz=f a
 | [],_,_,h=>by simp at h
 | x::l,0,a,h=>by
   simp only[getElem?_cons_zero,Option.some.injEq]at h;subst h;rw[Nat.zero_mul,drop_zero,flatMap_cons,take_left' (hf _)]
 | x::l,i+1,a,h=>by
   simp only[getElem?_cons_succ]at h;rw[flatMap_cons,succ_mul,Nat.add_comm,<-drop_drop,drop_left' (hf _)];exact eT hf h
theorem di.push (h:di M lo hi v sz enc l) (a:α) (P:Program) (t eb:Nat) (zs:List XV) (h1:eb<=128) (h2:1<=sz) (h3:zs.length=sz) (h4:l.length+1<=fE) (h5:(enc a).all ax=true) :
 ∀(B:Nat) (o:bx) (key:Nat) (x:XV),hi<=B->tG P (aG M B o) key t v x (some (sz,eb,zs)) (some (enc a,1,[B]))=some ⟨.sl key sz 0 (l.length+1) (l.length+1),uE v [B],nA v key (l.flatMap enc++enc a)⟩:=dG.push h P t eb zs (enc a) h1 h2 h3 h4 h5
theorem di.pushed (h:di M lo hi v sz enc l) (a:α) {H:Hp} {key:Nat} (hl:lo<=key) (hk:key<hi') (hy:(enc a).length=sz) (hn:l.length+1<=9223372036854775807) :
 di (aY H (nA v key (l.flatMap enc++enc a))) lo hi' (.sl key sz 0 (l.length+1) (l.length+1)) sz enc (l++[a]):=by
 have:=dG.pushed (H:=H) (ys:=enc a) h hl hk hy hn;unfold di;simpa using this
def gY {α:Type} (M:Hp) (p:Nat->Prop) (v:XV) (sz:Nat) (enc:α->List XV) (l:List α):Prop:=dG M p v sz l.length (l.flatMap enc)
theorem gY.keep {p q:Nat->Prop} (h:gY M p v sz enc l) (hk:∀k,p k->gG N k=gG M k/\q k):gY N q v sz enc l:=dG.keep h hk
theorem gY.cell {p:Nat->Prop} (h:gY M p v sz enc l):cellsOf v=[v]/\ax v=true:=dG.cell h
theorem di.lp (h:di M lo hi v sz enc l):gY M (fun q=>lo<=q/\q<hi) v sz enc l:=h
def gV (f:Nat->α->Option β):List α->Nat->List β
 | [],_=>[]
 | a::l,i=>match f i a with
   | some b=>b::gV f l (i+1)
   | none=>gV f l (i+1)
theorem tO (f:Nat->α->Option β) (a:α):∀(l:List α) (i:Nat),gV f (l++[a]) i=gV f l i++(f (i+l.length) a).toList
 | [],i=>by
   simp only[nil_append,gV,length_nil,Nat.add_zero];cases f i a<;>rfl
 | x::l,i=>by
   simp only[cons_append,gV,tO f a l (i+1),length_cons];rw[show i+1+l.length=i+(l.length+1) by omega];cases f i x<;>rfl
theorem iM (f:Nat->α->Option β) {l:List α} {i:Nat} {a:α} (h:l[i]?=some a):gV f (l.take (i+1)) 0=gV f (l.take i) 0++(f i a).toList:=by
 have hi:=(List.getElem?_eq_some_iff.1 h).1;rw[take_add_one,h];simp only[toList_some];rw[tO,Nat.zero_add,length_take,Nat.min_eq_left af]
theorem dS (f:Nat->α->Option β):∀(l:List α) (i:Nat),(gV f l i).length<=l.length
 | [],_=>by simp[gV]
 | a::l,i=>by
   have:=dS f l (i+1);simp only[gV,length_cons];split
   ·simp only[length_cons];omega
   ·omega
end
end
end Go.Xs
namespace Go.Xs
open List Nat Option
variable{M:Hp}{b g nx:Nat}{caps first:List XV}{v:XV}
open Go.Proofs
def Ky (a c:En):Bool:=decide (a.x=c.x)&&(decide (a.w=c.w)&&(decide (a.n=c.n)&&decide (a.m=c.m)))
def lu:List En->List En->Bool
 | [],[]=>true
 | a::l,c::l'=>Ky a c&&lu l l'
 | _,_=>false
theorem iz:∀(es:List En) (i:Nat) (e:En),es[i]?=some e->((es.flatMap fI).drop (i*4)).take 4=fI e
 | [],_,_,h=>by simp at h
 | a::es,0,e,h=>by
   simp only[getElem?_cons_zero,Option.some.injEq]at h;subst h;simp[fI]
 | a::es,i+1,e,h=>by
   simp only[getElem?_cons_succ]at h;have:=iz es i e h;rw[<-this,flatMap_cons,show (i+1)*4=(fI a).length+i*4 by simp[fI];omega,<-drop_drop];simp
theorem xd:∀{l l':List En},lu l l'=true->l.length=l'.length
 | [],[],_=>rfl
 | [],_::_,h=>by simp[lu]at h
 | _::_,[],h=>by simp[lu]at h
 | a::l,c::l',h=>by simp only[lu,Bool.and_eq_true]at h;simp[xd h.2]
theorem Cn {l l':List En} {i:Nat} {a c:En} (h:l[i]?=some a) (h':l'[i]?=some c):lu (l.drop i) (l'.drop i)=(Ky a c&&lu (l.drop (i+1)) (l'.drop (i+1))):=by
 obtain⟨h1,rfl⟩:=List.getElem?_eq_some_iff.1 h;obtain⟨h2,rfl⟩:=List.getElem?_eq_some_iff.1 h';rw[drop_eq_getElem_cons h1,drop_eq_getElem_cons h2];rfl
theorem f357 (ρ:aK) {l l':List En} {v':XV} (h:jm M b v l) (h':jm M b v' l') (hb:b<=nx):ar ao ρ 357 [v,v'] M nx (fe nx M (.bool (lu l l'))):=by
 unfold jm at h h';have ay:=fun N=>h.len (P:=ao) (t:=45) gX.2.2.2.2.2 N
 have A_:=fun N=>h'.len (P:=ao) (t:=45) gX.2.2.2.2.2 N
 have hz:=h.1;refine ar.wk 26 [.tmp 4] Tryz.func357 ?_;by_cases hl:(l.length:Int)=l'.length
 ·refine jz EV ay A_ hl ?_
  refine aC (fun m s=>∃i:Nat,i<=l.length/\m=l.length - i/\lu (l.drop i) (l'.drop i)=lu l l'/\gG s.env 0=some v/\gG s.env 1=some v'/\gG s.env 12=some (.int .i64 l'.length)/\gG s.env 13=some (.int .i64 i)/\aq nx M s.M/\nx<=s.nx)
   l.length ⟨0,af,af,aj,?_⟩ ?_
  ·refine dt EV ?_
   exact⟨aq.refl _ _,af⟩
  ·rintro m ⟨env,M',nx'⟩ ⟨i,hi,hm,pA,e0,e1,vS,qI,ha,hn⟩
   simp only at e0 e1 vS qI ha hn;by_cases aL:(i:Int)<l'.length
   ·have aP:i<l.length:=af
    have F1:i<l'.length:=af;obtain⟨a,Mt⟩:∃e,l[i]?=some e:=⟨l[i],by simp[aP]⟩;obtain⟨c,Gk⟩:∃e,l'[i]?=some e:=⟨l'[i],by simp[F1]⟩;obtain⟨n,o,jw,bC,aU⟩:=h.elem (P:=ao) aP (t:=45) (t':=67) gX.2.2.2.1 G2.1;obtain⟨n2,o2,Ux,iN,dJ⟩:=h'.elem (P:=ao) F1 (t:=45) (t':=67) gX.2.2.2.1 G2.1;have aU:=aU M' (ha.le hb);have dJ:=dJ M' (ha.le hb);rw[iz l i a Mt]at aU;rw[iz l' i c Gk]at dJ;simp only[fI]at aU dJ;have bV:=eF i;have bw:=Cn Mt Gk;have he:(decide (a.x=c.x)&&(decide (a.w=c.w)&&(decide (a.n=c.n)&&decide (a.m=c.m))))=Ky a c:=rfl;cases hq:Ky a c with
    | false =>
      refine yq EV e0 e1 vS qI aL bC iN aU dJ he (aI hq @fe.eq_1) ?_;exact⟨by rw[<-pA,bw,hq];rfl,ha,af⟩
    | true =>
      refine yq EV e0 e1 vS qI aL bC iN aU dJ he (aI hq bV) ?_;exact⟨l.length - (i+1),af,i+1,af,rfl,by rw[<-pA,bw,hq];rfl,rfl,ha,af⟩
   ·have hd:l.drop i=[]:=drop_eq_nil_of_le af
    have py:l'.drop i=[]:=drop_eq_nil_of_le af;refine ky EV e0 e1 vS qI aL @fe.eq_1 ?_;exact⟨by rw[<-pA,hd,py];rfl,ha,af⟩
 ·refine lO EV ay A_ hl @fe.eq_1 ?_
  refine⟨?_,aq.refl _ _,af⟩;congr 1;cases hq:lu l l' with
  | false=>rfl
  | true=>have:=xd hq;omega
theorem Xl (ρ:aK) {l:List En} (cw:bE M b v 4 l.length (l.flatMap fI)) (hb:b<=nx) (q:En->Bool)
 (hq:∀e ∈ l,∀(M':Hp) (nx':Nat),aq nx M M'->nx<=nx'->ar ao ρ g (first++[.agg (fI e)]++caps) M' nx' (fe nx' M' (.bool (q e)))) :
 ar ao ρ 321 [v,.fn (.func g) first caps] M nx (fe nx M (.int .i64 (eN q l 0))):=by
 have ay:=fun N=>cw.len (P:=ao) (t:=45) gX.2.2.2.2.2 N
 have hz:=cw.1;refine ar.wk 19 [.tmp 4] Tryz.func321 ?_;refine fM EV ay ?_;refine aC (fun m s=>∃i:Nat,i<=l.length/\m=l.length - i/\eN q (l.drop i) i=eN q l 0/\gG s.env 0=some v/\gG s.env 1=some (.fn (.func g) first caps)/\gG s.env 7=some (.int .i64 l.length)/\gG s.env 8=some (.int .i64 i)/\aq nx M s.M/\nx<=s.nx)
  l.length ⟨0,af,af,aj,?_⟩ ?_
 ·refine dt EV ?_
  exact⟨aq.refl _ _,af⟩
 ·rintro m ⟨env,M',nx'⟩ ⟨i,hi,hm,pA,e0,e1,e7,e8,ha,hn⟩
  simp only at e0 e1 e7 e8 ha hn;by_cases aL:(i:Int)<l.length
  ·have aP:i<l.length:=af
   obtain⟨e,gA⟩:∃e,l[i]?=some e:=⟨l[i],by simp[aP]⟩;obtain⟨n,o,jw,bC,aU⟩:=cw.elem (P:=ao) aP (t:=45) (t':=67) gX.2.2.2.1 G2.1;have aU:=aU M' (ha.le hb);rw[iz l i e gA]at aU;have bV:=eF i;have bw:=lr (q:=q) gA;refine mD EV e0 e1 e7 e8 aL bC aU ?_;refine gQ (hq e (mem_of_getElem? gA) M' _ ha af) ?_;rintro⟨v',M'',nx''⟩ ⟨h1,h2,h3⟩;simp only at h1 h2 h3;subst h1;cases yR:q e with
   | true =>
     refine ky EV e0 e1 e7 e8 yR @fe.eq_1 ?_;refine⟨?_,ha.trans (h2.le af),af⟩;rw[<-pA,bw,yR];rfl
   | false =>
     refine ky EV e0 e1 e7 e8 yR bV ?_;exact⟨l.length - (i+1),af,i+1,af,rfl,by rw[<-pA,bw,yR];rfl,rfl,ha.trans (h2.le af),af⟩
  ·have hd:l.drop i=[]:=drop_eq_nil_of_le af
   refine ky EV e0 e1 e7 e8 aL @fe.eq_1 ?_;refine⟨?_,ha,af⟩;rw[<-pA,hd];rfl
theorem Tm (ρ:aK) {l:List En} (cw:bE M b v 4 l.length (l.flatMap fI)) (hb:b<=nx) (q:En->Bool)
 (hq:∀e ∈ l,∀(M':Hp) (nx':Nat),aq nx M M'->nx<=nx'->ar ao ρ g (first++[.agg (fI e)]++caps) M' nx' (fe nx' M' (.bool (q e)))) :
 ar ao ρ 252 [v,.fn (.func g) first caps] M nx (fe nx M (.bool (l.any q))):=by
 refine ar.wk 9 [.tmp 4] Tryz.func252 ?_;refine dt lK ?_;refine lG (Xl ρ cw af q fun e he M' nx' ha hn=>hq e he M' nx' (ha.le af) af) fun M2 n2 g2 g3=>?_
 have hi:=uK (q:=q) l 0;refine gk lK hi @fe.eq_1 ?_;exact⟨g2.le af,af⟩
theorem Xu (ρ:aK) {l:List Int} (cw:bE M b v 1 l.length (l.map (XV.int .u64))) (hb:b<=nx) (q:Int->Bool)
 (hq:∀e ∈ l,∀(M':Hp) (nx':Nat),aq nx M M'->nx<=nx'->ar ao ρ g (first++[.int .u64 e]++caps) M' nx' (fe nx' M' (.bool (q e)))) :
 ar ao ρ 322 [v,.fn (.func g) first caps] M nx (fe nx M (.int .i64 (eN q l 0))):=by
 have ay:=fun N=>cw.len (P:=ao) (t:=79) jM.2.2.2.2.2 N
 have hz:=cw.1;refine ar.wk 19 [.tmp 4] Tryz.func322 ?_;refine fM FL ay ?_;refine aC (fun m s=>∃i:Nat,i<=l.length/\m=l.length - i/\eN q (l.drop i) i=eN q l 0/\gG s.env 0=some v/\gG s.env 1=some (.fn (.func g) first caps)/\gG s.env 7=some (.int .i64 l.length)/\gG s.env 8=some (.int .i64 i)/\aq nx M s.M/\nx<=s.nx)
  l.length ⟨0,af,af,aj,?_⟩ ?_
 ·refine dt FL ?_
  exact⟨aq.refl _ _,af⟩
 ·rintro m ⟨env,M',nx'⟩ ⟨i,hi,hm,pA,e0,e1,e7,e8,ha,hn⟩
  simp only at e0 e1 e7 e8 ha hn;by_cases aL:(i:Int)<l.length
  ·have aP:i<l.length:=af
   obtain⟨e,gA⟩:∃e,l[i]?=some e:=⟨l[i],by simp[aP]⟩;obtain⟨n,o,jw,bC,aU⟩:=cw.fldG (P:=ao) aP (t:=79) jM.2.2.2.1;have aU:=aU 0 (.int .u64 e) af (by simp[gA]) 31 1 dq.1 M' (ha.le hb);rw[Nat.add_zero]at aU;have bV:=eF i;have bw:=lr (q:=q) gA;refine mD FL e0 e1 e7 e8 aL bC aU ?_;refine gQ (hq e (mem_of_getElem? gA) M' _ ha af) ?_;rintro⟨v',M'',nx''⟩ ⟨h1,h2,h3⟩;simp only at h1 h2 h3;subst h1;cases yR:q e with
   | true =>
     refine ky FL e0 e1 e7 e8 yR @fe.eq_1 ?_;refine⟨?_,ha.trans (h2.le af),af⟩;rw[<-pA,bw,yR];rfl
   | false =>
     refine ky FL e0 e1 e7 e8 yR bV ?_;exact⟨l.length - (i+1),af,i+1,af,rfl,by rw[<-pA,bw,yR];rfl,rfl,ha.trans (h2.le af),af⟩
  ·have hd:l.drop i=[]:=drop_eq_nil_of_le af
   refine ky FL e0 e1 e7 e8 aL @fe.eq_1 ?_;refine⟨?_,ha,af⟩;rw[<-pA,hd];rfl
theorem Wl (ρ:aK) {l:List Int} (cw:bE M b v 1 l.length (l.map (XV.int .u64))) (hb:b<=nx) (q:Int->Bool)
 (hq:∀e ∈ l,∀(M':Hp) (nx':Nat),aq nx M M'->nx<=nx'->ar ao ρ g (first++[.int .u64 e]++caps) M' nx' (fe nx' M' (.bool (q e)))) :
 ar ao ρ 254 [v,.fn (.func g) first caps] M nx (fe nx M (.bool (l.any q))):=by
 refine ar.wk 9 [.tmp 4] Tryz.func254 ?_;refine dt lK ?_;refine gQ (Xu ρ cw af q fun e he M' nx' ha hn=>hq e he M' nx' (ha.le af) af) ?_;rintro⟨u,M2,n2⟩ ⟨g1,g2,g3⟩;simp only at g1 g2 g3;subst g1;have hi:=uK (q:=q) l 0;refine gk lK hi @fe.eq_1 ?_;exact⟨g2.le af,af⟩
end Go.Xs
namespace Go.Xs
open List Nat Option
variable{key sz:Nat}{v:XV}{α:Type}
noncomputable section
section
variable {P:Program} {ρ:aK} {g nx lo hi n:Nat} {args:List XV} {M N:Hp} {w w':World} {σ σ':cb}
theorem cK.one {K len:Nat} {row:List XV} {u:Value} (cF:Cl nx M) (aO:∀k,nx<=k->σ k=none) (bA:aE 0 row=true) (hK:nx<=K) (hg:gG N K=some (.row row)) (ha:aq nx M N)
 (hp:cK ρ w σ M nx (.sl K sz 0 len len,N,hi) u w'):cK ρ w σ M nx (.sl nx sz 0 len len,aG M nx (.row row),nx+1) u w':=by
 obtain⟨σ',h1,h2,h3,h4,h5⟩:=hp;simp only at h1 h2 h3 h4 h5;obtain⟨τ,hτ⟩:∃τ:cb,τ=fun k=>if k<nx then σ' k else if k=nx then σ' K else none:=⟨_,rfl⟩
 have t1:∀k,k<nx->τ k=σ' k:=fun k hk=>by rw[hτ];exact if_pos hk
 have t2:τ nx=σ' K:=by rw[hτ];simp
 have t3:∀k,nx<k->τ k=none:=fun k hk=>by rw[hτ];simp only;rw[if_neg af,if_neg af]
 clear hτ;have tr:∀k p,Xs.trunc σ' nx k=some p->τ k=some p:=fun k p h=>by
  simp only[Xs.trunc]at h;split at h
  ·rename_i hk
   rw[t1 k hk];exact h
  ·cases h
 have tr0:∀k p,Xs.trunc σ' 0 k=some p->τ k=some p:=fun k p h=>by
  simp[Xs.trunc]at h
 have old:∀k o,gG (aG M nx (.row row)) k=some o->(k<nx/\gG N k=some o/\τ k=σ' k)\/(k=nx/\o = .row row):=fun k o hk=>by
  rw[aB]at hk;split at hk
  ·rename_i e
   cases hk;exact .inr ⟨e.symm,rfl⟩
  ·have:=(cF k o hk).1
   exact .inl ⟨this,(ha k this).trans hk,t1 k this⟩
 have back:∀k o,gG (aG M nx (.row row)) k=some o->∃k',gG N k'=some o/\τ k=σ' k'/\((k<nx/\k'=k)\/(k=nx/\k'=K)):=fun k o hk=>by
  rcases old k o hk with ⟨q1,q2,q3⟩ | ⟨q1,q2⟩
  ·exact⟨k,q2,q3,.inl ⟨q1,rfl⟩⟩
  ·subst q1 q2
   exact⟨K,hg,t2,.inr ⟨rfl,rfl⟩⟩
 refine⟨τ,?_,⟨fun k o hk=>?_,fun k k' o o' p p' hk ia iR hp uV he=>?_,fun b x hb=>⟨(h2.fix b x hb).1,fun⟨k,o,p,hk,hp,q⟩=>?_⟩⟩,
  ⟨h3.os,h3.tape,h3.output,h3.size,h3.blk,fun b ⟨k,o,p,hk,hp,q⟩=>?_,fun k p hk=>?_,fun b ⟨k,o,p,hk,hp,q⟩=>?_⟩,le_succ _,fun k=>?_⟩
 ·simp only[VR]at h1 ⊢
  rw[t2];exact h1
 ·rcases old k o hk with ⟨q1,q2,q3⟩ | ⟨q1,q2⟩
  ·obtain⟨p,hp,ho⟩:=h2.obj k o q2
   rw[aB,if_neg af]at hk;exact⟨p,q3.trans hp,OR.mono tr rfl (OR.trunc (cF k o hk).2 ho)⟩
  ·subst q1 q2
   obtain⟨p,hp,ho⟩:=h2.obj K _ hg;exact⟨p,t2.trans hp,OR.mono tr0 rfl (OR.trunc (n:=0) (by simp only[cp];exact bA) ho)⟩
 ·obtain⟨j,a1,a2,a3⟩:=back k o hk
  obtain⟨j',b1,b2,b3⟩:=back k' o' ia;have:=h2.inj j j' o o' p p' a1 b1 iR (by rw[<-a2];exact hp) (by rw[<-b2];exact uV) he;omega
 ·obtain⟨j,a1,a2,_⟩:=back k o hk
  exact(h2.fix b x hb).2 ⟨j,o,p,a1,by rw[<-a2];exact hp,q⟩
 ·obtain⟨j,a1,a2,_⟩:=back k o hk
  exact h3.own b ⟨j,o,p,a1,by rw[<-a2];exact hp,q⟩
 ·rw[t1 k (Nat.lt_of_not_le fun hn=>by rw[aO k hn]at hk;cases hk)]
  exact h3.sig k p hk
 ·obtain⟨j,a1,a2,_⟩:=back k o hk
  exact h3.held b ⟨j,o,p,a1,by rw[<-a2];exact hp,q⟩
 ·by_cases hk:k<nx
  ·left
   rw[t1 k hk];rcases h5 k with e | e
   ·exact e
   ·omega
  ·by_cases ZA:k=nx
   ·exact .inr ⟨af,by show k<nx+1;omega⟩
   ·left
    rw[t3 k af,aO k af]
def Ai {α:Type} (nx:Nat) (M:Hp) (sz:Nat) (enc:α->List XV) (l:List α) (r:ew):Prop:=(l=[]->r.1 = .nils)/\og nx M sz enc l r
def GP {α:Type} (nx sz:Nat) (l:List α):XV:=if l=[] then .nils else .sl nx sz 0 l.length l.length
def mb {α:Type} (nx:Nat) (enc:α->List XV) (l:List α):List (Nat×Option bx):=if l=[] then [] else [(nx,some (.row (l.flatMap enc)))]
def ll {α:Type} (nx:Nat) (l:List α):Nat:=if l=[] then nx else nx+1
theorem bN.lst {enc:α->List XV} {l:List α} (hz:∀a,aE 0 (enc a)=true) (cF:Cl nx M) (ha:aE nx args=true) (h:∀N,aq nx M N->ar P ρ g args N nx (Ai nx N sz enc l)) :
 bN P ρ g args M nx ⟨GP nx sz l,List.range nx,mb nx enc l⟩ (ll nx l):=by
 have bA:∀l:List α,aE 0 (l.flatMap enc)=true:=fun l=>by
  induction l with
  | nil=>rfl
  | cons a l ih=>rw[flatMap_cons];exact jA (hz a) ih
 have h0:=(h _ (yC nx M)).1;refine⟨ha,pM cF _,fun k hk=>?_,?_,h0.imp fun w σ r u w' aQ aO hr hp=>⟨_,rfl,?_⟩⟩
 ·right
  unfold mb at hk;unfold ll;split at hk
  ·cases hk
  ·rename_i e
   rw[if_neg e];simp only[bM,mem_cons,not_mem_nil,or_false]at hk;omega
 ·unfold ll
  split<;>omega
 ·obtain⟨v,N,hi⟩:=r
  obtain⟨r1,⟨r2,r3,⟨r4,r5⟩ | ⟨K,r4,⟨r5,r6⟩,r7⟩⟩,r8,r9⟩:=hr
  ·simp only at r1 r4 r8 r9
   have hl:l=[]:=length_eq_zero_iff.1 r5;subst hl;subst r4;simp only[GP,mb,ll,if_true,aY];exact hp.forget cF.sub aO rfl ⟨rfl,r8,r9⟩
  ·simp only at r1 r4 r5 r6 r7 r8 r9
   have hl:l≠[]:=fun e=>by rw[r1 e]at r4;cases r4
   subst r4;simp only[GP,mb,ll,if_neg hl,aY];exact hp.one cF.sub aO (bA l) r5 r7 r8
theorem v7 {enc:α->List XV} {l:List α} {k:Nat}:gG (aY M (mb nx enc l)) k=if l≠[]/\k=nx then some (.row (l.flatMap enc)) else gG M k:=by
 unfold mb;by_cases h:l=[]
 ·rw[if_pos h,if_neg (fun e=>e.1 h)]
  rfl
 ·rw[if_neg h]
  simp only[aY];rw[aB];by_cases hk:k=nx
  ·subst hk;rw[if_pos rfl,if_pos ⟨h,rfl⟩]
  ·rw[if_neg (fun e=>hk e.symm),if_neg (fun e=>hk e.2)]
theorem oK {enc:α->List XV} {l:List α}:aq nx M (aY M (mb nx enc l)):=fun k hk=>by rw[v7,if_neg af]
theorem pD {l:List α}:nx<=ll nx l:=by unfold ll;split<;>omega
theorem Ar {enc:α->List XV} {l:List α} (hz:∀a,(enc a).length=sz) (hl:l.length<=9223372036854775807):di (aY M (mb nx enc l)) nx (ll nx l) (GP nx sz l) sz enc l:=by
 have je:∀l:List α,(l.flatMap enc).length=l.length*sz:=fun l=>by
  induction l with
  | nil=>simp
  | cons a l ih=>rw[flatMap_cons,length_append,ih,hz,length_cons,succ_mul];omega
 unfold GP ll;by_cases h:l=[]
 ·subst h
  exact dG.nil _ _
 ·rw[if_neg h,if_neg h]
  exact⟨hl,je l,.inr ⟨nx,rfl,⟨af,af⟩,by rw[v7,if_pos ⟨h,rfl⟩]⟩⟩
theorem Gy {enc:α->List XV} {l:List α} (hz:∀a,aE 0 (enc a)=true) (cF:Cl nx M):Cl (ll nx l) (aY M (mb nx enc l)):=by
 have bA:∀l:List α,aE 0 (l.flatMap enc)=true:=fun l=>by
  induction l with
  | nil=>rfl
  | cons a l ih=>rw[flatMap_cons];exact jA (hz a) ih
 intro k o hk;rw[v7]at hk;split at hk
 ·rename_i h
  cases hk;unfold ll;rw[if_neg h.1];exact⟨af,by simp only[cp];exact aE.le (zero_le _) (bA l)⟩
 ·exact cF.le pD k o hk
theorem gZ {α:Type} {f:α->List XV} {sz:Nat} (hf:∀a,(f a).length=sz):∀l:List α,(l.flatMap f).length=l.length*sz
 | []=>aj
 | a::l=>by rw[flatMap_cons,length_append,gZ hf l,hf,length_cons,succ_mul];omega
theorem gY.app {p:Nat->Prop} {enc:α->List XV} {A B:List α} (hA:gY M p v sz enc A) (hn:A=[]->v = .nils) {rds:List Nat} (hr:∀q ∈ rds,¬ p q) (P:Program) (t eb:Nat) (zs:List XV) (x:XV)
 (h1:eb<=128) (h2:1<=sz) (h3:zs.length=sz) (h4:A.length+B.length<=fE) (h5:(B.flatMap enc).all ax=true) (hz:∀a,(enc a).length=sz) (hk:∀q,p q->q<key) :
 ∃v' rd us,tG P M key t v x (some (sz,eb,zs)) (some (B.flatMap enc,B.length,rds))=some ⟨v',rd,us⟩/\(A++B=[]->v' = .nils)/\(∀q ∈ rd,p q\/q ∈ rds)/\(∀q ∈ bM us,p q\/q=key) /\
  (∀H:Hp,(∀q,p q->gG H q=gG M q)->gY (aY H us) (fun q=>p q\/q=key) v' sz enc (A++B)) /\
  ∀(H:Hp) (n:Nat),key<n->(∀a,aE 0 (enc a)=true)->Cl n H->Cl n (aY H us):=by
 have Be:(∀a,aE 0 (enc a)=true)->∀l:List α,aE 0 (l.flatMap enc)=true:=fun hz l=>by
  induction l with
  | nil=>rfl
  | cons a l ih=>rw[flatMap_cons];exact jA (hz a) ih
 have Jr:fE<=9223372036854775807:=by simp only[fE];omega
 obtain⟨a1,a2,⟨rfl,a3⟩ | ⟨K,rfl,a4,a6⟩⟩:=id hA
 ·have:A=[]:=length_eq_zero_iff.1 a3
  subst this;cases B with
  | nil =>
    refine⟨.nils,rds,[],?_,fun _=>rfl,fun q hq=>.inr hq,fun q hq=>(by cases hq),fun H _=>dG.nil _ _,fun _ _ _ _ h=>h⟩;simp only[tG,ble_eq_true_of_le h1,ble_eq_true_of_le h2,h3,beq_refl,h5,length_nil,ble_eq_true_of_le (zero_le fE)]
  | cons b B =>
    refine⟨_,_,_,pO t sz eb B.length zs _ rds x h1 h2 h3 (by simp at h4;omega) h5,aj,fun q hq=>.inr hq,fun q hq=>?_,fun H _=>?_,fun H n hn hz hc=>hc.set hn (by simp only[cp];exact aE.le (zero_le _) (Be hz (b::B)))⟩
    ·simp only[bM,mem_cons,not_mem_nil,or_false]at hq
     exact .inr hq
    ·exact⟨by simp at h4 ⊢;omega,by rw[nil_append,gZ hz],.inr ⟨key,rfl,.inr rfl,by simp only[aY];rw[aB,if_pos rfl];rfl⟩⟩
 ·have hAl:A≠[]:=fun e=>by have:=hn e;cases this
  have hl:db rds K=false:=by
   cases hh:db rds K with
   | false=>rfl
   | true=>exact(hr K ((eg _ _).1 hh) a4).elim
  cases B with
  | nil =>
    have hpA:bp (A.flatMap enc) (A.length*sz) []=A.flatMap enc:=by
     rw[fa _ _ _ (by rw[gZ hz];simp)];simp
    have hb:Nat.ble (A.length*sz) (A.flatMap enc).length=true:=by rw[ble_eq,gZ hz];omega
    refine⟨.sl K sz 0 A.length A.length,K::rds,[(K,some (.row (bp (A.flatMap enc) (A.length*sz) [])))],?_,by simp[hAl],fun q hq=>?_,fun q hq=>?_,fun H _=>?_,fun H n hn hz hc=>hc.set (Nat.lt_trans (hk K a4) hn) (by simp only[cp];rw[hpA];exact aE.le (zero_le _) (Be hz A))⟩
    ·simp only[tG,ble_eq_true_of_le h1,ble_eq_true_of_le h2,h3,beq_refl,h5,length_nil,ble_eq_true_of_le (zero_le fE),bA,a6,Nat.add_zero,Nat.zero_add,ble_eq_true_of_le (Nat.le_refl A.length),hb,hl,flatMap_nil]
     first | done | rfl
    ·rcases mem_cons.1 hq with rfl | h
     ·exact .inl a4
     ·exact .inr h
    ·simp only[bM,mem_cons,not_mem_nil,or_false]at hq
     subst hq;exact .inl a4
    ·rw[append_nil]
     exact⟨af,by rw[gZ hz],.inr ⟨K,rfl,.inl a4,by simp only[aY];rw[aB,if_pos rfl,hpA]⟩⟩
  | cons b B =>
    have dX:tG P M key t (.sl K sz 0 A.length A.length) x (some (sz,eb,zs)) (some ((b::B).flatMap enc,(b::B).length,rds))=some ⟨.sl key sz 0 (A.length+(b::B).length) (A.length+(b::B).length),K::rds,[(K,none),(key,some (.row (A.flatMap enc++(b::B).flatMap enc)))]⟩:=by
     rw[p0 t sz eb K A.length (b::B).length zs _ rds x h1 h2 h3 aj h4 h5,a6];simp only[Pk,hl,ble_eq_true_of_le (Nat.le_of_eq (gZ hz A).symm),take_of_length_le (Nat.le_of_eq (gZ hz A))]
    refine⟨_,_,_,dX,aj,fun q hq=>?_,fun q hq=>?_,fun H _=>?_,fun H n hn hz hc=>hc.del.set hn (by simp only[cp];exact aE.le (zero_le _) (jA (Be hz A) (Be hz (b::B))))⟩
    ·rcases mem_cons.1 hq with rfl | h
     ·exact .inl a4
     ·exact .inr h
    ·simp only[bM,mem_cons,not_mem_nil,or_false]at hq
     rcases hq with rfl | rfl
     ·exact .inl a4
     ·exact .inr rfl
    ·exact⟨by rw[length_append];omega,by rw[gZ hz],.inr ⟨key,by rw[length_append],.inr rfl,by simp only[aY];rw[aB,if_pos rfl,flatMap_append]⟩⟩
theorem di.app {enc:α->List XV} {A B:List α} (hA:di M lo hi v sz enc A) (hn:A=[]->v = .nils) {rds:List Nat} (hr:∀q ∈ rds,q<lo\/hi<=q) (P:Program) (t eb:Nat) (zs:List XV) (x:XV)
 (h1:eb<=128) (h2:1<=sz) (h3:zs.length=sz) (h4:A.length+B.length<=fE) (h5:(B.flatMap enc).all ax=true) (hz:∀a,(enc a).length=sz) (hk:hi<=key) :
 ∃v' rd us,tG P M key t v x (some (sz,eb,zs)) (some (B.flatMap enc,B.length,rds))=some ⟨v',rd,us⟩/\(A++B=[]->v' = .nils)/\(∀q ∈ rd,(lo<=q/\q<hi)\/q ∈ rds)/\(∀q ∈ bM us,(lo<=q/\q<hi)\/q=key) /\
  ∀H:Hp,(∀q,lo<=q->q<hi->gG H q=gG M q)->lo<=key->di (aY H us) lo (key+1) v' sz enc (A++B):=by
 obtain⟨v',rd,us,g1,g2,g3,g4,g5,_⟩:=gY.app hA.lp hn (fun q hq hp=>by have:=hr q hq;omega) P t eb zs x (key:=key) h1 h2 h3 h4 h5 hz fun q hq=>af
 exact⟨v',rd,us,g1,g2,g3,g4,fun H hH hl=>dG.keep (g5 H fun q hq=>hH q hq.1 hq.2) fun q hq=>⟨rfl,by rcases hq with hq | hq<;>omega⟩⟩
theorem di.el3 {enc:α->List XV} {l:List α} (h:di M lo hi v sz enc l):∃rds:List Nat,(∀k ∈ rds,lo<=k/\k<hi)/\∀N,(∀q,lo<=q->q<hi->gG N q=gG M q)->Go.Xs.el2 N v (some sz)=some (l.flatMap enc,l.length,rds):=by
 obtain⟨a1,a2,⟨rfl,a3⟩ | ⟨K,rfl,⟨a4,a5⟩,a6⟩⟩:=h
 ·have:l=[]:=length_eq_zero_iff.1 a3
  subst this;exact⟨[],aj,fun N _=>GF sz⟩
 ·refine⟨[K],am,fun N hN=>?_⟩
  rw[Ih,hN K a4 a5,a6,Dl _ _ _ _ _ af,drop_zero,take_of_length_le af]
theorem GL {ops:List Oper} {i:Nat} {e:bZ} {log:jg} (h1:tL ops (i,e.rd,bM e.upd) log) (h2:zJ ops log):zJ ops (dM i e log):=by
 unfold dM;split
 ·exact h2
 ·rw[Fz]
  exact⟨h1,h2⟩
end
end
end Go.Xs
namespace Go.Xs
open List Nat Option
variable{M:Hp}{b g i kb nx:Nat}{caps first:List XV}{num:Int}{v:XV}
open Go.Proofs
structure dY where
 w:Int
 n:Int
 by':Int
 m:Bool
 c:Bool
def bi (s:dY):List XV:=[.int .u64 s.w,.int .u64 s.n,.int .i64 s.by',.bool s.m,.bool s.c]
structure aF where
 a:Int
 b:Int
 k:Int
 x:Int
 sw:Int
 sn:Int
 mw:Int
 mn:Int
 pos:Int
def aM (e:aF):List XV:=[.int .i64 e.a,.int .i64 e.b,.int .i64 e.k,.int .u64 e.x,.int .u64 e.sw,.int .u64 e.sn,.int .u64 e.mw,.int .u64 e.mn,.int .i64 e.pos]
theorem nM {l:List dY} {e:dY} (h:l[i]?=some e):((l.flatMap bi).drop (i*5)).take 5=bi e:=eT (f:=bi) (fun _=>rfl) h
theorem jK {l:List my} {e:my} (h:l[i]?=some e):((l.flatMap cX).drop (i*8)).take 8=cX e:=eT (f:=cX) (fun _=>rfl) h
theorem iy {l:List aF} {e:aF} (h:l[i]?=some e):((l.flatMap aM).drop (i*9)).take 9=aM e:=eT (f:=aM) (fun _=>rfl) h
theorem f43 (ρ:aK) {l:List my} (cw:bE M b v 8 l.length (l.flatMap cX)) (hb:b<=nx) (q:my->Bool)
 (hq:∀e ∈ l,∀(M':Hp) (nx':Nat),aq nx M M'->nx<=nx'->ar ao ρ g (first++[.agg (cX e)]++caps) M' nx' (fe nx' M' (.bool (q e)))) :
 ar ao ρ 43 [v,.fn (.func g) first caps] M nx (fe nx M (.int .i64 (eN q l 0))):=by
 have ay:=fun N=>cw.len (P:=ao) (t:=48) jn.2.2.2.2.2 N
 have hz:=cw.1;refine ar.wk 19 [.tmp 4] Tryz.func43 ?_;refine fM Kj ay ?_;refine aC (fun m s=>∃i:Nat,i<=l.length/\m=l.length - i/\eN q (l.drop i) i=eN q l 0/\gG s.env 0=some v/\gG s.env 1=some (.fn (.func g) first caps)/\gG s.env 7=some (.int .i64 l.length)/\gG s.env 8=some (.int .i64 i)/\aq nx M s.M/\nx<=s.nx)
  l.length ⟨0,af,af,aj,?_⟩ ?_
 ·refine dt Kj ?_
  exact⟨aq.refl _ _,af⟩
 ·rintro m ⟨env,M',nx'⟩ ⟨i,hi,hm,pA,e0,e1,e7,e8,ha,hn⟩
  simp only at e0 e1 e7 e8 ha hn;by_cases aL:(i:Int)<l.length
  ·have aP:i<l.length:=af
   obtain⟨e,gA⟩:∃e,l[i]?=some e:=⟨l[i],by simp[aP]⟩;obtain⟨n,o,jw,bC,aU⟩:=cw.elem (P:=ao) aP (t:=48) (t':=51) jn.2.2.2.1 mH.1;have aU:=aU M' (ha.le hb);rw[jK gA]at aU;have bV:=eF i;have bw:=lr (q:=q) gA;refine mD Kj e0 e1 e7 e8 aL bC aU ?_;refine gQ (hq e (mem_of_getElem? gA) M' _ ha af) ?_;rintro⟨v',M'',nx''⟩ ⟨h1,h2,h3⟩;simp only at h1 h2 h3;subst h1;cases yR:q e with
   | true =>
     refine ky Kj e0 e1 e7 e8 yR @fe.eq_1 ?_;refine⟨?_,ha.trans (h2.le af),af⟩;rw[<-pA,bw,yR];rfl
   | false =>
     refine ky Kj e0 e1 e7 e8 yR bV ?_;exact⟨l.length - (i+1),af,i+1,af,rfl,by rw[<-pA,bw,yR];rfl,rfl,ha.trans (h2.le af),af⟩
  ·have hd:l.drop i=[]:=drop_eq_nil_of_le af
   refine ky Kj e0 e1 e7 e8 aL @fe.eq_1 ?_;refine⟨?_,ha,af⟩;rw[<-pA,hd];rfl
theorem X0 (ρ:aK) {l:List dY} (cw:bE M b v 5 l.length (l.flatMap bi)) (hb:b<=nx) (q:dY->Bool)
 (hq:∀e ∈ l,∀(M':Hp) (nx':Nat),aq nx M M'->nx<=nx'->ar ao ρ g (first++[.agg (bi e)]++caps) M' nx' (fe nx' M' (.bool (q e)))) :
 ar ao ρ 177 [v,.fn (.func g) first caps] M nx (fe nx M (.int .i64 (eN q l 0))):=by
 have ay:=fun N=>cw.len (P:=ao) (t:=52) qa.2.2.2.2.2 N
 have hz:=cw.1;refine ar.wk 19 [.tmp 4] Tryz.func177 ?_;refine fM Wx ay ?_;refine aC (fun m s=>∃i:Nat,i<=l.length/\m=l.length - i/\eN q (l.drop i) i=eN q l 0/\gG s.env 0=some v/\gG s.env 1=some (.fn (.func g) first caps)/\gG s.env 7=some (.int .i64 l.length)/\gG s.env 8=some (.int .i64 i)/\aq nx M s.M/\nx<=s.nx)
  l.length ⟨0,af,af,aj,?_⟩ ?_
 ·refine dt Wx ?_
  exact⟨aq.refl _ _,af⟩
 ·rintro m ⟨env,M',nx'⟩ ⟨i,hi,hm,pA,e0,e1,e7,e8,ha,hn⟩
  simp only at e0 e1 e7 e8 ha hn;by_cases aL:(i:Int)<l.length
  ·have aP:i<l.length:=af
   obtain⟨e,gA⟩:∃e,l[i]?=some e:=⟨l[i],by simp[aP]⟩;obtain⟨n,o,jw,bC,aU⟩:=cw.elem (P:=ao) aP (t:=52) (t':=55) qa.2.2.2.1 Kx.1;have aU:=aU M' (ha.le hb);rw[nM gA]at aU;have bV:=eF i;have bw:=lr (q:=q) gA;refine mD Wx e0 e1 e7 e8 aL bC aU ?_;refine gQ (hq e (mem_of_getElem? gA) M' _ ha af) ?_;rintro⟨v',M'',nx''⟩ ⟨h1,h2,h3⟩;simp only at h1 h2 h3;subst h1;cases yR:q e with
   | true =>
     refine ky Wx e0 e1 e7 e8 yR @fe.eq_1 ?_;refine⟨?_,ha.trans (h2.le af),af⟩;rw[<-pA,bw,yR];rfl
   | false =>
     refine ky Wx e0 e1 e7 e8 yR bV ?_;exact⟨l.length - (i+1),af,i+1,af,rfl,by rw[<-pA,bw,yR];rfl,rfl,ha.trans (h2.le af),af⟩
  ·have hd:l.drop i=[]:=drop_eq_nil_of_le af
   refine ky Wx e0 e1 e7 e8 aL @fe.eq_1 ?_;refine⟨?_,ha,af⟩;rw[<-pA,hd];rfl
theorem f97 (ρ:aK) {l:List aF} (cw:bE M b v 9 l.length (l.flatMap aM)) (hb:b<=nx) (q:aF->Bool)
 (hq:∀e ∈ l,∀(M':Hp) (nx':Nat),aq nx M M'->nx<=nx'->ar ao ρ g (first++[.agg (aM e)]++caps) M' nx' (fe nx' M' (.bool (q e)))) :
 ar ao ρ 97 [v,.fn (.func g) first caps] M nx (fe nx M (.int .i64 (eN q l 0))):=by
 have ay:=fun N=>cw.len (P:=ao) (t:=29) Lc.2.2.2.2.2 N
 have hz:=cw.1;refine ar.wk 19 [.tmp 4] Tryz.func97 ?_;refine fM El ay ?_;refine aC (fun m s=>∃i:Nat,i<=l.length/\m=l.length - i/\eN q (l.drop i) i=eN q l 0/\gG s.env 0=some v/\gG s.env 1=some (.fn (.func g) first caps)/\gG s.env 7=some (.int .i64 l.length)/\gG s.env 8=some (.int .i64 i)/\aq nx M s.M/\nx<=s.nx)
  l.length ⟨0,af,af,aj,?_⟩ ?_
 ·refine dt El ?_
  exact⟨aq.refl _ _,af⟩
 ·rintro m ⟨env,M',nx'⟩ ⟨i,hi,hm,pA,e0,e1,e7,e8,ha,hn⟩
  simp only at e0 e1 e7 e8 ha hn;by_cases aL:(i:Int)<l.length
  ·have aP:i<l.length:=af
   obtain⟨e,gA⟩:∃e,l[i]?=some e:=⟨l[i],by simp[aP]⟩;obtain⟨n,o,jw,bC,aU⟩:=cw.elem (P:=ao) aP (t:=29) (t':=35) Lc.2.2.2.1 jW.1;have aU:=aU M' (ha.le hb);rw[iy gA]at aU;have bV:=eF i;have bw:=lr (q:=q) gA;refine mD El e0 e1 e7 e8 aL bC aU ?_;refine gQ (hq e (mem_of_getElem? gA) M' _ ha af) ?_;rintro⟨v',M'',nx''⟩ ⟨h1,h2,h3⟩;simp only at h1 h2 h3;subst h1;cases yR:q e with
   | true =>
     refine ky El e0 e1 e7 e8 yR @fe.eq_1 ?_;refine⟨?_,ha.trans (h2.le af),af⟩;rw[<-pA,bw,yR];rfl
   | false =>
     refine ky El e0 e1 e7 e8 yR bV ?_;exact⟨l.length - (i+1),af,i+1,af,rfl,by rw[<-pA,bw,yR];rfl,rfl,ha.trans (h2.le af),af⟩
  ·have hd:l.drop i=[]:=drop_eq_nil_of_le af
   refine ky El e0 e1 e7 e8 aL @fe.eq_1 ?_;refine⟨?_,ha,af⟩;rw[<-pA,hd];rfl
def WY (s:dY):Option dY:=if s.c then some s else none
theorem WV (ρ:aK) {l:List dY} (cw:bE M b v 5 l.length (l.flatMap bi)) (hb:b<=nx) (few:l.length<=100000) :
 ar ao ρ 179 [v] M nx (Ai nx M 5 bi (gV (fun _ s=>WY s) l 0)):=by
 have ay:=fun N=>cw.len (P:=ao) (t:=52) qa.2.2.2.2.2 N
 refine ar.wk 19 [.tmp 2] Tryz.func179 ?_;refine mI Wx ay ?_;obtain⟨f,hf⟩:∃f:Nat->dY->Option dY,f=fun _ s=>WY s:=⟨_,rfl⟩
 rw[<-hf];refine aC (fun m' s=>∃(i:Nat) (vv:XV),i<=l.length/\m'=l.length - i/\(gV f (l.take i) 0=[]->vv = .nils)/\gG s.env 2=some vv/\gG s.env 5=some v/\gG s.env 6=some (.int .i64 l.length)/\gG s.env 7=some (.int .i64 i)/\di s.M nx s.nx vv 5 bi (gV f (l.take i) 0)/\aq nx M s.M/\nx<=s.nx) l.length ⟨0,.nils,af,af,fun _=>rfl,?_⟩ ?_
 ·refine bR Wx ?_
  exact⟨dG.nil _ _,aq.refl _ _,af⟩
 ·rintro m' ⟨env,M',nx'⟩ ⟨i,vv,hi,ir,AW,e2,e5,e6,e7,hv,ha,hn⟩
  simp only at e2 e5 e6 e7 hv ha hn;by_cases aL:(i:Int)<l.length
  ·have aP:i<l.length:=af
   obtain⟨e,gA⟩:∃e,l[i]?=some e:=⟨l[i],by simp[aP]⟩;have bV:=eF i;have kS:=iM f gA;have Gl:=dS f (l.take i) 0;have FZ:(l.take i).length<=100000:=by rw[length_take];omega
   obtain⟨n,o,jw,bC,aU⟩:=cw.elem (P:=ao) aP (t:=52) (t':=55) qa.2.2.2.1 Kx.1;have aU:=aU M' (ha.le hb);rw[nM gA]at aU;obtain⟨w,n',by',m,c⟩:=e;simp only[bi]at aU;cases c with
   | true =>
     have h_:f i ⟨w,n',by',m,true⟩=some ⟨w,n',by',m,true⟩:=by rw[hf];rfl
     rw[h_]at kS;have Mb:=fun o o'=>hv.up (N:=aG (aG M' (nx'+3) o) (nx'+3) o') (fun q _ hq=>by rw[aB,if_neg af,aB,if_neg af]) (Nat.le_refl _)
     have dX:=fun o o'=>(Mb o o').push ⟨w,n',by',m,true⟩ ao 52 32 [.int .u64 0,.int .u64 0,.int .i64 0,.bool false,.bool false] af af rfl (by simp only[fE];omega) rfl
     simp only[bi]at dX;refine dp Wx e2 e5 e6 e7 aL bC aU bV dX ?_;refine⟨l.length - (i+1),af,i+1,_,af,rfl,by rw[kS];simp,rfl,rfl,?_,fun q hq=>?_,af⟩
     ·rw[kS]
      exact(Mb (.row []) (.row [])).pushed _ af af rfl af
     ·rw[dG.push_old (Mb (.row []) (.row [])) _ (.inl hq) af]
      have:=ha q hq;exact J
   | false =>
     have h_:f i ⟨w,n',by',m,false⟩=none:=by rw[hf];rfl
     rw[h_]at kS;refine CU Wx e2 e5 e6 e7 aL bC aU bV ?_;exact⟨l.length - (i+1),af,i+1,vv,af,rfl,by rw[kS];simpa using AW,rfl,rfl,by rw[kS];simpa using hv.up (fun q _ hq=>by rw[aB,if_neg af,aB,if_neg af]) af,fun q hq=>by have:=ha q hq;exact J,af⟩
  ·have gB:i=l.length:=af
   refine iQ Wx e2 e5 e6 e7 aL @Ai.eq_1 @og.eq_1 ?_;rw[gB,take_length]at hv AW;exact⟨AW,hv.up (fun _ _ _=>rfl) af,ha,af⟩
theorem XP (ρ:aK) {l:List dY} (cw:bE M b v 5 l.length (l.flatMap bi)) (hb:b<=nx) (few:l.length<=100000) (q:dY->aF)
 (hq:∀e ∈ l,∀(M':Hp) (nx':Nat),aq nx M M'->nx<=nx'->ar ao ρ g (first++[.agg (bi e)]++caps) M' nx' (fe nx' M' (.agg (aM (q e))))) :
 ar ao ρ 120 [.fn (.func g) first caps,v] M nx (Ai nx M 9 aM (l.map q)):=by
 have ay:=fun N=>cw.len (P:=ao) (t:=52) qa.2.2.2.2.2 N
 refine ar.wk 21 [.tmp 4] Tryz.func120 ?_;refine mI HB ay ?_;refine aC (fun m' s=>∃(i:Nat) (vv:XV),i<=l.length/\m'=l.length - i/\(i=0->vv = .nils)/\gG s.env 0=some (.fn (.func g) first caps)/\gG s.env 4=some vv/\gG s.env 7=some v/\gG s.env 8=some (.int .i64 l.length)/\gG s.env 9=some (.int .i64 i)/\di s.M nx s.nx vv 9 aM ((l.take i).map q)/\aq nx M s.M/\nx<=s.nx) l.length ⟨0,.nils,af,af,fun _=>rfl,?_⟩ ?_
 ·refine bR HB ?_
  exact⟨dG.nil _ _,aq.refl _ _,af⟩
 ·rintro m' ⟨env,M',nx'⟩ ⟨i,vv,hi,ir,AW,e0,e4,e7,e8,e9,hv,ha,hn⟩
  simp only at e0 e4 e7 e8 e9 hv ha hn;by_cases aL:(i:Int)<l.length
  ·have aP:i<l.length:=af
   obtain⟨e,gA⟩:∃e,l[i]?=some e:=⟨l[i],by simp[aP]⟩;have bV:=eF i;have FZ:((l.take i).map q).length=i:=am;obtain⟨n,o,jw,bC,aU⟩:=cw.elem (P:=ao) aP (t:=52) (t':=55) qa.2.2.2.1 Kx.1;have aU:=aU M' (ha.le hb);rw[nM gA]at aU;have yR:=hq e (mem_of_getElem? gA);have kS:(l.take (i+1)).map q=(l.take i).map q++[q e]:=by rw[take_add_one,gA];simp
   obtain⟨w,n',by',m,c⟩:=e;simp only[bi]at aU yR;refine CU HB e0 e4 e7 e8 e9 aL bC aU ?_;generalize xu:aG (aG M' (nx'+3) _) (nx'+3) _=M1;have a1:aq nx' M' M1:=by rw[<-xu];exact O
   clear xu;refine gQ (yR M1 _ (ha.trans (a1.le hn)) af) ?_;rintro⟨u,M2,n2⟩ ⟨g1,g2,g3⟩;simp only at g1 g2 g3;subst g1;have a2:aq nx' M' M2:=a1.trans (g2.le af);have sW:=hv.up (N:=M2) (fun q _ hq=>a2 q hq) (hi':=n2) af;have dX:=sW.push (q ⟨w,n',by',m,c⟩) ao 29 72 [.int .i64 0,.int .i64 0,.int .i64 0,.int .u64 0,.int .u64 0,.int .u64 0,.int .u64 0,.int .u64 0,.int .i64 0] af af rfl (by simp only[fE];omega) rfl;have gE:(aM (q ⟨w,n',by',m,c⟩)).all ax=true:=rfl;simp only[aM]at dX;refine CU HB e0 e4 e7 e8 e9 @aM.eq_1 dX bV ?_;refine⟨l.length - (i+1),af,i+1,_,af,rfl,af,rfl,rfl,?_,fun q hq=>?_,af⟩
   ·rw[kS]
    exact sW.pushed _ af af rfl af
   ·rw[dG.push_old sW _ (.inl hq) af]
    have:=(a2 q af).trans (ha q hq);exact J
  ·have gB:i=l.length:=af
   refine CU HB e0 e4 e7 e8 e9 aL @Ai.eq_1 @og.eq_1 ?_;rw[gB,take_length]at hv;exact⟨fun h=>AW (by rw[gB];have:=congrArg List.length h;simpa using this),hv.up (fun _ _ _=>rfl) af,ha,af⟩
def qw (M:Hp) (kb:Nat) (k:my) (num:Int):Prop:=∃pk pa pb pv,(cellsOf pv=[pv]/\ax pv=true)/\gG M kb=some (.row (cX k++[.int .i64 pk,.int .u64 pa,.int .u64 pb,pv,.int .i64 num]))
def lg (k:my) (num:Int) (s:dY):aF:=⟨s.by',num,4,k.x,k.w,k.n,s.w,s.n,k.pos⟩
def kr (k:my) (num:Int) (s:dY):aF:=⟨num,s.by',5,k.x,k.w,k.n,s.w,s.n,k.pos⟩
theorem Ov (ρ:aK) {k:my} (h:qw M kb k num) (hb:kb<nx) (s:dY):ar ao ρ 118 [.agg (bi s),.mp kb 0] M nx (fe nx M (.agg (aM (lg k num s)))):=by
 obtain⟨pk,pa,pb,pv,⟨p1,p2⟩,h⟩:=h;simp only[cX,cons_append,nil_append]at h;simp only[bi];refine ar.wk 20 [.cell 3 35] Tryz.func118 ?_;refine mY Tt h p1 p2 @fe.eq_1 ?_;exact⟨rfl,O,af⟩
theorem XO (ρ:aK) {k:my} (h:qw M kb k num) (hb:kb<nx) (s:dY):ar ao ρ 119 [.agg (bi s),.mp kb 0] M nx (fe nx M (.agg (aM (kr k num s)))):=by
 obtain⟨pk,pa,pb,pv,⟨p1,p2⟩,h⟩:=h;simp only[cX,cons_append,nil_append]at h;simp only[bi];refine ar.wk 20 [.cell 3 35] Tryz.func119 ?_;refine mY Tt h p1 p2 @fe.eq_1 ?_;exact⟨rfl,O,af⟩
theorem f178 (ρ:aK) {w n:Int} (h:gG M kb=some (.row [.int .u64 w,.int .u64 n])) (hb:kb<nx) (s:dY):ar ao ρ 178 [.agg (bi s),.mp kb 0] M nx (fe nx M (.bool (decide (s.w=w)&&decide (s.n=n)))):=by
 simp only[bi];refine ar.wk 8 [.tmp 3] Tryz.func178 ?_;refine Ao Kl h @fe.eq_1 ?_;exact⟨O,af⟩
theorem SQ (ρ:aK) {pos:Int} (h:gG M kb=some (.row [.int .i64 pos])) (hb:kb<nx) (k:my):ar ao ρ 77 [.agg (cX k),.mp kb 0] M nx (fe nx M (.bool (!decide (k.pos=pos)))):=by
 simp only[cX];refine ar.wk 8 [.tmp 3] Tryz.func77 ?_;refine Ao fh h @fe.eq_1 ?_;exact⟨O,af⟩
theorem f44 (ρ:aK) {x:Int} (h:gG M kb=some (.row [.int .u64 x])) (hb:kb<nx) (k:my):ar ao ρ 44 [.agg (cX k),.mp kb 0] M nx (fe nx M (.bool (decide (k.x=x)))):=by
 simp only[cX];refine ar.wk 8 [.tmp 3] Tryz.func44 ?_;refine Ao fh h @fe.eq_1 ?_;exact⟨O,af⟩
end Go.Xs
namespace Go.Xs
open List Nat Option
def HS.modify (S:HS) (i:Int) (r:aR) (k:Nat):HS:={ S with
 places:=fun j x=>if j=k/\x=r.x then S.places k r.x++[(S.mods.length:Int)] else S.places j x
 ver:=fun x w n=>if x=r.x/\w=r.t/\n=(((S.places k r.x).length+1:Nat):Int) then some (S.mods.length:Int) else S.ver x w n
 mods:=S.mods++[⟨i,r.t,r.x,r.t,(((S.places k r.x).length+1:Nat):Int),r.v,decide (r.kind=4),false⟩]
 obj:=fun x=>if x=r.x then some ((S.obj r.x).getD 0+1) else S.obj x }
section
variable {M M':Hp} {lo hi hi' h:Nat} {S:HS} {tag tag':Nat->Hg} {vrec vtxs vcom vmods vlook:XV} {nk vk ok cn cv co:Nat} {ptrs:List XV} {lnum:List (Nat×Int×Int)} {lver:List (Nat×List Int×Int)} {lobj:List (Nat×Int×Int)}
def vH (k:Nat) (x:Int) (g:Hg):Prop:=g = .hist\/g = .mods\/g = .ver\/g = .obj\/g = .kmap k\/g = .slot k x
theorem eM.modify {vmods':XV} {cv' co' k:Nat} {lver':List (Nat×List Int×Int)} {lobj':List (Nat×Int×Int)} {r:aR} {i:Int} (H:eM M lo hi h S tag vrec vtxs vcom vmods vlook nk vk ok cn cv co ptrs lnum lver lobj)
 (keep:∀q,q<hi->¬ vH k r.x (tag q)->gG M' q=gG M q) (cH:∀q,q<hi->tag' q=tag q) (hh:hi<=hi')
 (row:gG M' h=some (.row [vrec,vtxs,.mm nk,vcom,vmods',.mm vk,vlook,.mm ok])) (mods:bS M' lo hi' tag' .mods vmods' 8 (S.mods.length+1) ((S.modify i r k).mods.flatMap cO))
 (ver:gG M' vk=some (.map (eY (vI .i64) lver') cv')) (vrow:jL 3 lver') (verS:∀x w n,aH lver' [x,w,n]=(S.modify i r k).ver x w n)
 (obj:gG M' ok=some (.map (cx (vI .i64) lobj') co')) (objS:kD lobj' co'/\∀x,aH lobj' x=(S.modify i r k).obj x)
 (known:∀a,S.txs[k]?=some a->∃v,ptrs[k]?=some v/\iB M' lo hi' tag' k a ((S.modify i r k).places k) v) :
 eM M' lo hi' h (S.modify i r k) tag' vrec vtxs vcom vmods' vlook nk vk ok cn cv' co' ptrs lnum lver' lobj':=by
 have kk:=fun tg hc=>zf (M:=M) (M':=M') (C:=vH k r.x) keep cH tg hc
 exact {
  lo_h:=H.lo_h,h_hi:=Nat.lt_of_lt_of_le H.h_hi hh,tg:=by rw[cH h H.h_hi];exact H.tg,row:=row
  recs:=H.recs.keep (kk _ (by simp[vH])) hh,txs:=H.txs.keep (kk _ (by simp[vH])) hh
  known:=fun j b hb=>by
   by_cases hj:j=k
   ·subst hj
    exact known b hb
   ·obtain⟨v,h1,h2⟩:=H.known j b hb
    have e:(S.modify i r k).places j=S.places j:=funext fun x=>if_neg fun q=>hj q.1
    rw[e];exact⟨v,h1,h2.keep (fun q hq hg=>⟨keep q hq (by rcases hg with g | g | ⟨x,g⟩<;>rw[g]<;>simp[vH,hj]),cH q hq⟩) hh⟩
  nlo:=H.nlo,nhi:=Nat.lt_of_lt_of_le H.nhi hh,ntg:=by rw[cH nk H.nhi];exact H.ntg,num:=by rw[(kk _ (by simp[vH]) nk H.nhi H.ntg).1];exact H.num,numS:=H.numS
  com:=H.com.keep (kk _ (by simp[vH])) hh
  mods:=by have e:(S.modify i r k).mods.length=S.mods.length+1:=by simp[HS.modify]
           rw[e];exact mods
  vlo:=H.vlo,vhi:=Nat.lt_of_lt_of_le H.vhi hh,vtg:=by rw[cH vk H.vhi];exact H.vtg,ver:=ver,vrow:=vrow,verS:=verS
  looks:=H.looks.keep (kk _ (by simp[vH])) hh
  olo:=H.olo,ohi:=Nat.lt_of_lt_of_le H.ohi hh,otg:=by rw[cH ok H.ohi];exact H.otg,obj:=obj,objS:=objS }
end
end Go.Xs
namespace Go.Xs
open List Nat Option
variable{M M':Hp}{b hi lo m nx:Nat}{l:List aR}{v:XV}
open Go.Proofs
structure bO where
 w:Int
 n:Int
 wr:Int
 en:Int
def aV (e:bO):List XV:=[.int .u64 e.w,.int .u64 e.n,.int .i64 e.wr,.int .i64 e.en]
def kn (M:Hp) (b:Nat) (v:XV) (l:List bO):Prop:=∃rk sv,v = .mp rk 0/\rk<b/\gG M rk=some (.row [sv])/\bE M b sv 4 l.length (l.flatMap aV)
theorem kn.agr {l:List bO} (h:kn M b v l) (ha:aq b M M'):kn M' b v l:=by
 obtain⟨rk,sv,h1,h2,h3,h4⟩:=h;exact⟨rk,sv,h1,h2,(ha rk h2).trans h3,h4.agr ha⟩
def ey (M:Hp) (b o:Nat) (f:Int->Option (List bO)):Prop :=
 o<b/\∃rm c l,gG M o=some (.row [.mm rm])/\rm<b/\gG M rm=some (.map (cx vX l) c)/\(∀x,aH l x=none->f x=none)/\∀x v,aH l x=some v->∃ins,f x=some ins/\kn M b v ins
theorem ey.agr {o:Nat} {f:Int->Option (List bO)} (h:ey M b o f) (ha:aq b M M'):ey M' b o f:=by
 obtain⟨ho,rm,c,l,h1,h2,h3,h4,h5⟩:=h;exact⟨ho,rm,c,l,(ha o ho).trans h1,h2,(ha rm h2).trans h3,h4,fun x v hx=>by
  obtain⟨ins,h6,h7⟩:=h5 x v hx;exact⟨ins,h6,h7.agr ha⟩⟩
theorem jr:∀(es:List bO) (i:Nat) (e:bO),es[i]?=some e->((es.flatMap aV).drop (i*4)).take 4=aV e
 | [],_,_,h=>by simp at h
 | a::es,0,e,h=>by
   simp only[getElem?_cons_zero,Option.some.injEq]at h;subst h;simp[aV]
 | a::es,i+1,e,h=>by
   simp only[getElem?_cons_succ]at h;have:=jr es i e h;rw[<-this,flatMap_cons,show (i+1)*4=(aV a).length+i*4 by simp[aV];omega,<-drop_drop];simp
theorem f194 (ρ:aK) {l:List bO} (cw:bE M b v 4 l.length (l.flatMap aV)) (hb:b<=nx) {g:Nat} {first caps:List XV} (q:bO->Bool)
 (hq:∀e ∈ l,∀(M':Hp) (nx':Nat),aq nx M M'->nx<=nx'->ar ao ρ g (first++[.agg (aV e)]++caps) M' nx' (fe nx' M' (.bool (q e)))) :
 ar ao ρ 194 [v,.fn (.func g) first caps] M nx (fe nx M (.int .i64 (eN q l 0))):=by
 have ay:=fun N=>cw.len (P:=ao) (t:=247) v9.2.2.2.2.2 N
 have hz:=cw.1;refine ar.wk 19 [.tmp 4] Tryz.func194 ?_;refine fM W3 ay ?_;refine aC (fun m s=>∃i:Nat,i<=l.length/\m=l.length - i/\eN q (l.drop i) i=eN q l 0/\gG s.env 0=some v/\gG s.env 1=some (.fn (.func g) first caps)/\gG s.env 7=some (.int .i64 l.length)/\gG s.env 8=some (.int .i64 i)/\aq nx M s.M/\nx<=s.nx)
  l.length ⟨0,af,af,aj,?_⟩ ?_
 ·refine dt W3 ?_
  exact⟨aq.refl _ _,af⟩
 ·rintro m ⟨env,M',nx'⟩ ⟨i,hi,hm,pA,e0,e1,e7,e8,ha,hn⟩
  simp only at e0 e1 e7 e8 ha hn;by_cases aL:(i:Int)<l.length
  ·have aP:i<l.length:=af
   obtain⟨e,gA⟩:∃e,l[i]?=some e:=⟨l[i],by simp[aP]⟩;obtain⟨n,o,jw,bC,aU⟩:=cw.elem (P:=ao) aP (t:=247) (t':=253) v9.2.2.2.1 mz.1;have aU:=aU M' (ha.le hb);rw[jr l i e gA]at aU;have bV:=eF i;have bw:=lr (q:=q) gA;refine mD W3 e0 e1 e7 e8 aL bC aU ?_;refine gQ (hq e (mem_of_getElem? gA) M' _ ha af) ?_;rintro⟨v',M'',nx''⟩ ⟨h1,h2,h3⟩;simp only at h1 h2 h3;subst h1;cases yR:q e with
   | true =>
     refine ky W3 e0 e1 e7 e8 yR @fe.eq_1 ?_;refine⟨?_,ha.trans (h2.le af),af⟩;rw[<-pA,bw,yR];rfl
   | false =>
     refine ky W3 e0 e1 e7 e8 yR bV ?_;exact⟨l.length - (i+1),af,i+1,af,rfl,by rw[<-pA,bw,yR];rfl,rfl,ha.trans (h2.le af),af⟩
  ·have hd:l.drop i=[]:=drop_eq_nil_of_le af
   refine ky W3 e0 e1 e7 e8 aL @fe.eq_1 ?_;refine⟨?_,ha,af⟩;rw[<-pA,hd];rfl
def gi (w n:Int) (e:bO):Bool:=decide (e.w=w)&&decide (e.n=n)
theorem f195 (ρ:aK) {pk:Nat} (w n:Int) (e:bO) (h:gG M pk=some (.row [.int .u64 w,.int .u64 n])) (hk:pk<nx):ar ao ρ 195 [.agg (aV e),.mp pk 0] M nx (fe nx M (.bool (gi w n e))):=by
 simp only[aV];refine ar.wk 8 [.tmp 3] Tryz.func195 ?_;refine fM Kt h ?_;exact .mk ((aq.refl _ _).set (Nat.le_refl _) _) af
theorem TU (ρ:aK) (M:Hp) (nx:Nat) (w n:Int):ar ao ρ 83 [.agg [.int .u64 w,.int .u64 n]] M nx (fe nx M (.bool (decide (w=0)&&decide (n=0)))):=by
 refine ar.wk 6 [.tmp 2] Tryz.func83 ?_;refine dt sG ?_;exact .mk ((aq.refl _ _).set (Nat.le_refl _) _) af
def ba (l:List bO) (w n:Int):Int×Bool:=if (decide (w=0)&&decide (n=0))=true then (0,true) else (eN (gi w n) l 0+1,decide (0<=eN (gi w n) l 0))
theorem ta {α:Type} (q:α->Bool):∀(l:List α) (i:Nat),-1<=eN q l i/\eN q l i<i+l.length
 | [],i=>by simp only[eN,length_nil];omega
 | e::l,i=>by
   have:=ta q l (i+1);by_cases h:q e=true
   ·have h1:eN q (e::l) i=i:=if_pos h
    rw[h1];simp only[length_cons];omega
   ·have h1:eN q (e::l) i=eN q l (i+1):=if_neg h
    rw[h1];simp only[length_cons];omega
theorem WI (ρ:aK) {l:List bO} (h:kn M b v l) (hb:b<=nx) (w n:Int):ar ao ρ 131 [v,.agg [.int .u64 w,.int .u64 n]] M nx (fe nx M (.tup [.int .i64 (ba l w n).1,.bool (ba l w n).2])):=by
 obtain⟨rk,sv,rfl,h1,h2,h3⟩:=h;refine ar.wk 19 [.tmp 4,.tmp 5] Tryz.func131 ?_;refine dt sO ?_;have a1:∀q,aq nx M (aG M nx q):=fun q=>(aq.refl _ _).set (Nat.le_refl _) q
 refine lG (TU ρ _ _ w n) fun M2 n2 g2 g3=>?_
 have a2:aq nx M M2:=(a1 _).trans (g2.le af);have z:gG M2 nx=some (.row [.int .u64 w,.int .u64 n]):=(g2 nx af).trans (by rw[aB,if_pos rfl]);have y:=(a2 rk af).trans h2;clear g2;cases hu:(decide (w=0)&&decide (n=0)) with
 | true =>
   refine gk sO hu @fe.eq_1 ?_;exact⟨by simp[ba,hu],a2,af⟩
 | false =>
   refine gk sO hu y ?_;refine gQ (f194 ρ (h3.agr (a2.le hb)) af (gi w n) fun e he M' nx' ha hn=>?_) ?_
   ·exact f195 ρ w n e ((ha nx af).trans z) af
   ·rintro⟨u,M3,n3⟩ ⟨g1,g2,RI⟩
    simp only at g1 g2 RI;subst g1;have hz:=h3.1;have hi:=ta (gi w n) l 0;have hw:IntKind.i64.wrap (eN (gi w n) l 0+1)=eN (gi w n) l 0+1:=wrap_i64 af af;refine gk sO hw @fe.eq_1 ?_;exact⟨by simp[ba,hu],a2.trans (g2.le af),af⟩
theorem Xf (ρ:aK) (h:cZ M lo hi m l) (hh:hi<=nx) (t x:Int) :
 ∃v,bE M hi v 2 (bd l t x).length ((bd l t x).flatMap et)/\∀M' nx',aq nx M M'->nx<=nx'->ar ao ρ 320 [.mp m 0,.int .u64 t,.int .u64 x] M' nx' (fe nx' M' v):=by
 obtain⟨tag,ps,vnum,vnames,vrows,vend,rs,le,h⟩:=h;cases hp:ou ps (t,x) with
 | none =>
   have hr:bd l t x=[]:=Classical.byContradiction fun cf=>qN.1 hp (h.whole t x cf)
   refine⟨.nils,by rw[hr];exact⟨aj,.inl ⟨rfl,rfl,rfl⟩⟩,fun M' nx' ha hn=>?_⟩;have hM:=(ha m (by have:=h.m_hi;omega)).trans h.row;refine ar.wk 28 [.tmp 6] Tryz.func320 ?_;refine dt FH ?_;refine gQ (Xr ρ hM (by have:=h.m_hi;omega) (h.num.agr (ha.le hh) (Nat.le_refl _)) af t x) ?_;rintro⟨u,M2,n2⟩ ⟨g1,g2,g3⟩;simp only[hp,getD_none,isSome_none]at g1 g2 g3;subst g1;refine fM FH @fe.eq_1 ?_;exact⟨g2.le af,af⟩
 | some i =>
   obtain⟨j,rfl,hj⟩:=xi hp;obtain⟨cf,v,hv,hw⟩:=h.all j t x hj;refine⟨v,hw.sl,fun M' nx' ha hn=>?_⟩;have hM:=(ha m (by have:=h.m_hi;omega)).trans h.row;have aL:j<ps.length:=(List.getElem?_eq_some_iff.1 hj).1;obtain⟨n,o,jw,bC,aU⟩:=h.rows.sl.fldG (P:=ao) aL (t:=147) ol.2.2.2.1;refine ar.wk 28 [.tmp 6] Tryz.func320 ?_;refine dt FH ?_;refine gQ (Xr ρ hM (by have:=h.m_hi;omega) (h.num.agr (ha.le hh) (Nat.le_refl _)) af t x) ?_;rintro⟨u,M2,n2⟩ ⟨g1,g2,g3⟩;simp only[hp,getD_some,isSome_some]at g1 g2 g3;subst g1;have aW:=(g2 m (by have:=h.m_hi;omega)).trans hM;have hl:=aU 0 v af (by simp[hv]) 356 1 qW.1 M2 (((ha.trans (g2.le af))).le hh);rw[Nat.add_zero]at hl;refine lO FH aW bC hl @fe.eq_1 ?_;exact⟨g2.le af,af⟩
theorem wrap_u64 {n:Int} (h0:0<=n) (h1:n<=18446744073709551615):IntKind.u64.wrap n=n:=by rw[IntKind.wrap_u64];omega
def wy (o:Option Md):XV:=match o with | some d=>.tup [.agg (et d),.int .i64 0] | none=>.tup [.agg [.int .u64 0,.bool false],.int .i64 70]
theorem Jl:∀(es:List Md) (i:Nat) (e:Md),es[i]?=some e->((es.flatMap et).drop (i*2)).take 2=et e
 | [],_,_,h=>by simp at h
 | a::es,0,e,h=>by
   simp only[getElem?_cons_zero,Option.some.injEq]at h;subst h;simp[et]
 | a::es,i+1,e,h=>by
   simp only[getElem?_cons_succ]at h;have:=Jl es i e h;rw[<-this,flatMap_cons,show (i+1)*2=(et a).length+i*2 by simp[et];omega,<-drop_drop];simp
theorem Qe (ρ:aK) (h:cZ M lo hi m l) (hh:hi<=nx) (x w n:Int):ar ao ρ 319 [.mp m 0,.int .u64 x,.agg [.int .u64 w,.int .u64 n]] M nx (fe nx M (wy (rV l x w n))):=by
 obtain⟨v,cw,bA⟩:=Xf ρ h hh w x;have ay:=fun N=>cw.len (P:=ao) (t:=356) qW.2.2.2.2.2 N
 have hz:=cw.1;have a1:=fun o=>(aq.refl nx M).set (Nat.le_refl nx) o
 refine ar.wk 37 [.cell 6 290,.tmp 7] Tryz.func319 ?_;refine dt sH ?_;refine lL (bA _ _ ((a1 _).set af _) af) ak ?_ ?_
 ·refine dt sH ?_;try exact⟨⟩
 ·rintro⟨u,M2,n2⟩ ⟨g1,g2,g3⟩
  simp only at g1 g2 g3;subst g1;have y:=g2 nx af;rw[aB,if_neg af,aB,if_pos rfl]at y;have y2:=g2 (nx+1) af;rw[aB,if_pos rfl]at y2;have a2:=((a1 _).set (le_succ _) _).trans (g2.le af);have hw:IntKind.u64.wrap ((bd l w x).length:Int)=(bd l w x).length:=wrap_u64 af af;by_cases c1:n<1
  ·refine ky sH y y2 c1 ay hw @fe.eq_1 ?_
   exact⟨by simp only[rV];rw[if_neg af];rfl,a2.set af _,af⟩
  by_cases c2:((bd l w x).length:Int)<n
  ·refine mD sH y y2 c1 c2 ay hw @fe.eq_1 ?_
   exact⟨by simp only[rV];rw[if_neg af];rfl,a2.set af _,af⟩
  obtain⟨j,rfl⟩:∃j:Nat,n=((j+1:Nat):Int):=⟨(n - 1).toNat,af⟩;have hj:j<(bd l w x).length:=af;obtain⟨d,hd⟩:∃d,(bd l w x)[j]?=some d:=⟨(bd l w x)[j],by simp[hj]⟩;obtain⟨k,o,jw,bC,aU⟩:=cw.elem (P:=ao) hj (t:=356) (t':=290) qW.2.2.2.1 yU.1;rw[Jl _ j d hd]at aU;have hl:=aU M2 (a2.le hh);have bV:IntKind.u64.wrap (((j+1:Nat):Int) - 1)=(j:Int):=by rw[wrap_u64 af af];omega
  simp only[et]at hl;refine zQ sH y y2 c1 c2 ay hw bV bC hl @fe.eq_1 ?_;refine⟨?_,a2.set af _,af⟩;simp only[rV];rw[if_pos ⟨af,af⟩,show (((j+1:Nat):Int) - 1).toNat=j by omega,hd];rfl
theorem f67 (ρ:aK) {h:Nat} {S:HS} (H:bX M lo hi h S) (hh:hi<=nx) (few:S.looks.length<=100000) (a:my) (cnt:0<=(S.obj a.x).getD 0/\(S.obj a.x).getD 0<=1000000000) :
 ar ao ρ 67 [.mp h 0,.agg (cX a)] M nx fun o=>o.1 = .tup []/\bX o.2.1 lo o.2.2 h (S.look a)/\aq lo M o.2.1/\nx<=o.2.2:=by
 obtain⟨tag,vrec,vtxs,vcom,vmods,vlook,nk,vk,ok,cn,cv,co,ptrs,lnum,lver,lobj,H⟩:=H;replace H:=H.norm;obtain⟨JM,Sc⟩:∃f,f=fun k=>if k<hi then tag k else Hg.none:=⟨_,rfl⟩
 rw[<-Sc]at H;clear Sc;have hr:=H.row;have vg:=H.h_hi;have mo:=H.lo_h;have UC:=H.ohi;have UD:=H.olo;have VM:=H.obj;have n1:=aZ H.tg H.otg aj;have jc:=H.objS.2 a.x;rw[<-jc]at cnt;have hw:IntKind.i64.wrap ((aH lobj a.x).getD 0+1)=(aH lobj a.x).getD 0+1:=wrap_i64 af af;simp only[cX];obtain⟨hz,cF,⟨rfl,pG⟩ | ⟨hl,sk,rfl,s1,s2,s3,s4⟩⟩:=H.looks
 ·have hd:aw h ok=False/\aw ok h=False:=by simp only[aw,eq_iff_iff,iff_false];exact⟨n1,n1.symm⟩
  refine ar.wk 22 [] Tryz.func67 ?_;refine lO zk hr VM hd hw ?_;refine⟨bn _ _ _ _ _ _ (fun q hq=>by simp only[mem_singleton]at hq ⊢;omega) (fun q hq=>aj) (fun q hq=>by simp at hq),⟨fun k=>if k=nx+8 then .looks else JM k,vrec,vtxs,vcom,vmods,.sl (nx+8) 8 0 (S.looks.length+1) (S.looks.length+1),nk,vk,ok,cn,cv,lB lobj co a.x,ptrs,lnum,lver,dD lobj co a.x ((aH lobj a.x).getD 0+1),H.look (fun k hk hc=>?_) (fun k hk=>if_neg af) af (by rw[pG];exact J) ?_ J ⟨zV H.objS.1,fun x=>?_⟩⟩,fun k hk=>J,af⟩
  ·have e1:k≠h:=fun e=>hc (by rw[e];exact .inl H.tg)
   have e2:k≠ok:=fun e=>hc (by rw[e];exact .inr (.inr H.otg))
   exact J
  ·have NO:S.looks=[]:=length_eq_zero_iff.1 pG
   rw[NO];exact⟨aj,by simp[cX],.inr ⟨aj,nx+8,aj,af,af,aj,J⟩⟩
  ·rw[cQ]
   simp only[HS.look,jc,H.objS.2 x]
 ·have n2:=aZ H.tg s3 aj
  have n3:=aZ H.otg s3 aj;have hd:aw h ok=False/\aw ok h=False/\aw h sk=False/\aw sk h=False/\aw ok sk=False/\aw sk ok=False:=by simp only[aw,eq_iff_iff,iff_false];exact⟨n1,n1.symm,n2,n2.symm,n3,n3.symm⟩
  refine ar.wk 22 [] Tryz.func67 ?_;refine ky zk hr VM hd hw s4 cF ?_;refine⟨bn _ _ _ _ _ _ (fun q hq=>by simp only[mem_singleton]at hq ⊢;omega) (fun q hq=>aj) (fun q hq=>by simp at hq),⟨fun k=>if k=nx+8 then .looks else JM k,vrec,vtxs,vcom,vmods,.sl (nx+8) 8 0 (S.looks.length+1) (S.looks.length+1),nk,vk,ok,cn,cv,lB lobj co a.x,ptrs,lnum,lver,dD lobj co a.x ((aH lobj a.x).getD 0+1),H.look (fun k hk hc=>?_) (fun k hk=>if_neg af) af J ?_ J ⟨zV H.objS.1,fun x=>?_⟩⟩,fun k hk=>J,af⟩
  ·have e1:k≠h:=fun e=>hc (by rw[e];exact .inl H.tg)
   have e2:k≠ok:=fun e=>hc (by rw[e];exact .inr (.inr H.otg))
   have e3:k≠sk:=fun e=>hc (by rw[e];exact .inr (.inl s3))
   exact J
  ·have kB:List.take (S.looks.length*8) (S.looks.flatMap cX)=S.looks.flatMap cX:=by rw[<-cF,take_length]
   refine⟨af,by rw[flatMap_append,length_append,cF];simp[cX];omega,.inr ⟨af,nx+8,rfl,af,af,aj,?_⟩⟩;rw[flatMap_append]
   conv=>rhs;rw[<-kB]
   exact J
  ·rw[cQ]
   simp only[HS.look,jc,H.objS.2 x]
end Go.Xs
