/- A part of the proof: the layers and contracts it rests on. -/
import Derived.Test.YtcibleglaghhfaaGreatDoorXsPB
import Derived.Test.YtcibleglaghhfaaGreatDoorProg
set_option linter.all false
set_option linter.deprecated false
namespace Go.Xs
open Go.Proofs
theorem ty3:sa Tryz.prog 3=some (1,false)/\tsz Tryz.prog 3=some 1/\tzero Tryz.prog 3=some [.int .i64 0]/\ikd Tryz.prog 3=some .i64/\nt Tryz.prog 3 = .no:=⟨by kernel_rfl,by kernel_rfl,by kernel_rfl,by kernel_rfl,by kernel_rfl⟩
theorem ty4:sa Tryz.prog 4=some (1,false)/\tsz Tryz.prog 4=some 1/\tzero Tryz.prog 4=some [.bool false]/\nt Tryz.prog 4 = .no:=⟨by kernel_rfl,by kernel_rfl,by kernel_rfl,by kernel_rfl⟩
theorem ty5:sa Tryz.prog 5=some (1,false)/\tsz Tryz.prog 5=some 1/\tzero Tryz.prog 5=some [.int .u8 0]/\ikd Tryz.prog 5=some .u8/\nt Tryz.prog 5 = .no:=⟨by kernel_rfl,by kernel_rfl,by kernel_rfl,by kernel_rfl,by kernel_rfl⟩
theorem ty9:sa Tryz.prog 9=some (1,false)/\tsz Tryz.prog 9=some 1/\tzero Tryz.prog 9=some [.str []]/\nt Tryz.prog 9 = .no:=⟨by kernel_rfl,by kernel_rfl,by kernel_rfl,by kernel_rfl⟩
theorem ty22:sa Tryz.prog 22=some (1,false)/\tsz Tryz.prog 22=some 1/\tzero Tryz.prog 22=some [.nils]/\es Tryz.prog 22=some 11/\ez Tryz.prog 22=some (11,120,[.int .i64 0,.int .u64 0,.int .u64 0,.int .u64 0,.int .u64 0,.int .u64 0,.int .i64 0,.int .u64 0,.int .u64 0,.nils,.nils])/\nt Tryz.prog 22 = .sl:=⟨by kernel_rfl,by kernel_rfl,by kernel_rfl,by kernel_rfl,by kernel_rfl,by kernel_rfl⟩
theorem ty23:sa Tryz.prog 23=some (1,false)/\tsz Tryz.prog 23=some 1/\tzero Tryz.prog 23=some [.int .u64 0]/\ikd Tryz.prog 23=some .u64/\nt Tryz.prog 23 = .no:=⟨by kernel_rfl,by kernel_rfl,by kernel_rfl,by kernel_rfl,by kernel_rfl⟩
theorem ty25:sa Tryz.prog 25=some (2,true)/\tsz Tryz.prog 25=some 2/\tzero Tryz.prog 25=some [.int .u64 0,.int .u64 0]/\fz Tryz.prog 25=[(0,1,23),(1,1,23)]/\stt Tryz.prog 25=true/\fsh Tryz.prog 40 25=some [.i .u64,.i .u64]/\aggT Tryz.prog 25=true/\nt Tryz.prog 25 = .no:=⟨by kernel_rfl,by kernel_rfl,by kernel_rfl,by kernel_rfl,by kernel_rfl,by kernel_rfl,by kernel_rfl,by kernel_rfl⟩
theorem ty29:sa Tryz.prog 29=some (1,false)/\tsz Tryz.prog 29=some 1/\tzero Tryz.prog 29=some [.nilp]/\nt Tryz.prog 29 = .pt:=⟨by kernel_rfl,by kernel_rfl,by kernel_rfl,by kernel_rfl⟩
theorem ty30:sa Tryz.prog 30=some (1,false)/\tsz Tryz.prog 30=some 1/\tzero Tryz.prog 30=some [.int .i64 0]/\ikd Tryz.prog 30=some .i64/\nt Tryz.prog 30 = .no:=⟨by kernel_rfl,by kernel_rfl,by kernel_rfl,by kernel_rfl,by kernel_rfl⟩
theorem ty33:sa Tryz.prog 33=some (1,false)/\tsz Tryz.prog 33=some 1/\tzero Tryz.prog 33=some [.nilp]/\nt Tryz.prog 33 = .pt:=⟨by kernel_rfl,by kernel_rfl,by kernel_rfl,by kernel_rfl⟩
theorem ty38:sa Tryz.prog 38=some (1,false)/\tsz Tryz.prog 38=some 1/\tzero Tryz.prog 38=some [.nils]/\es Tryz.prog 38=some 4/\ez Tryz.prog 38=some (4,48,[.int .i64 0,.int .u64 0,.int .u64 0,.nils])/\nt Tryz.prog 38 = .sl:=⟨by kernel_rfl,by kernel_rfl,by kernel_rfl,by kernel_rfl,by kernel_rfl,by kernel_rfl⟩
theorem ty40:sa Tryz.prog 40=some (4,true)/\tsz Tryz.prog 40=some 4/\tzero Tryz.prog 40=some [.int .i64 0,.int .u64 0,.int .u64 0,.nils]/\fz Tryz.prog 40=[(0,1,3),(1,1,23),(2,1,23),(3,1,38)]/\stt Tryz.prog 40=true/\nt Tryz.prog 40 = .no:=⟨by kernel_rfl,by kernel_rfl,by kernel_rfl,by kernel_rfl,by kernel_rfl,by kernel_rfl⟩
theorem ty41:sa Tryz.prog 41=some (1,false)/\tsz Tryz.prog 41=some 1/\tzero Tryz.prog 41=some [.nils]/\es Tryz.prog 41=some 4/\ez Tryz.prog 41=some (4,32,[.int .u64 0,.int .u64 0,.int .u64 0,.bool false])/\nt Tryz.prog 41 = .sl:=⟨by kernel_rfl,by kernel_rfl,by kernel_rfl,by kernel_rfl,by kernel_rfl,by kernel_rfl⟩
theorem ty43:sa Tryz.prog 43=some (11,true)/\tsz Tryz.prog 43=some 11/\tzero Tryz.prog 43=some [.int .i64 0,.int .u64 0,.int .u64 0,.int .u64 0,.int .u64 0,.int .u64 0,.int .i64 0,.int .u64 0,.int .u64 0,.nils,.nils]/\fz Tryz.prog 43=[(0,1,3),(1,1,23),(2,1,23),(3,2,25),(5,1,23),(6,4,40),(10,1,41)]/\stt Tryz.prog 43=true/\nt Tryz.prog 43 = .no:=⟨by kernel_rfl,by kernel_rfl,by kernel_rfl,by kernel_rfl,by kernel_rfl,by kernel_rfl⟩
theorem ty44:sa Tryz.prog 44=some (1,false)/\tsz Tryz.prog 44=some 1/\tzero Tryz.prog 44=some [.nils]/\es Tryz.prog 44=some 1/\ez Tryz.prog 44=some (1,8,[.int .u64 0])/\nt Tryz.prog 44 = .sl:=⟨by kernel_rfl,by kernel_rfl,by kernel_rfl,by kernel_rfl,by kernel_rfl,by kernel_rfl⟩
theorem ty55:sa Tryz.prog 55=some (1,false)/\tsz Tryz.prog 55=some 1/\tzero Tryz.prog 55=some [.nils]/\es Tryz.prog 55=some 2/\ez Tryz.prog 55=some (2,16,[.int .u64 0,.int .u64 0])/\nt Tryz.prog 55 = .sl:=⟨by kernel_rfl,by kernel_rfl,by kernel_rfl,by kernel_rfl,by kernel_rfl,by kernel_rfl⟩
theorem ty58:sa Tryz.prog 58=some (1,false)/\tsz Tryz.prog 58=some 1/\tzero Tryz.prog 58=some [.nils]/\es Tryz.prog 58=some 1/\ez Tryz.prog 58=some (1,8,[.int .i64 0])/\nt Tryz.prog 58 = .sl:=⟨by kernel_rfl,by kernel_rfl,by kernel_rfl,by kernel_rfl,by kernel_rfl,by kernel_rfl⟩
theorem ty64:sa Tryz.prog 64=some (1,false)/\tsz Tryz.prog 64=some 1/\tzero Tryz.prog 64=some [.nils]/\es Tryz.prog 64=some 8/\ez Tryz.prog 64=some (8,56,[.int .i64 0,.int .u64 0,.int .u64 0,.int .u64 0,.int .u64 0,.int .u64 0,.bool false,.bool false])/\nt Tryz.prog 64 = .sl:=⟨by kernel_rfl,by kernel_rfl,by kernel_rfl,by kernel_rfl,by kernel_rfl,by kernel_rfl⟩
theorem ty67:sa Tryz.prog 67=some (5,true)/\tsz Tryz.prog 67=some 5/\tzero Tryz.prog 67=some [.int .u64 0,.int .i64 0,.int .i64 0,.int .i64 0,.int .i64 0]/\fz Tryz.prog 67=[(0,1,23),(1,1,3),(2,1,3),(3,1,3),(4,1,3)]/\stt Tryz.prog 67=true/\fsh Tryz.prog 40 67=some [.i .u64,.i .i64,.i .i64,.i .i64,.i .i64]/\aggT Tryz.prog 67=true/\nt Tryz.prog 67 = .no:=⟨by kernel_rfl,by kernel_rfl,by kernel_rfl,by kernel_rfl,by kernel_rfl,by kernel_rfl,by kernel_rfl,by kernel_rfl⟩
theorem ty71:sa Tryz.prog 71=some (8,true)/\tsz Tryz.prog 71=some 8/\tzero Tryz.prog 71=some [.int .i64 0,.int .u64 0,.int .u64 0,.int .u64 0,.int .u64 0,.int .u64 0,.bool false,.bool false]/\fz Tryz.prog 71=[(0,1,3),(1,1,23),(2,1,23),(3,2,25),(5,1,23),(6,1,4),(7,1,4)]/\stt Tryz.prog 71=true/\fsh Tryz.prog 40 71=some [.i .i64,.i .u64,.i .u64,.i .u64,.i .u64,.i .u64,.b,.b]/\aggT Tryz.prog 71=true/\nt Tryz.prog 71 = .no:=⟨by kernel_rfl,by kernel_rfl,by kernel_rfl,by kernel_rfl,by kernel_rfl,by kernel_rfl,by kernel_rfl,by kernel_rfl⟩
theorem ty81:sa Tryz.prog 81=some (1,false)/\tsz Tryz.prog 81=some 1/\tzero Tryz.prog 81=some [.nilf]/\nt Tryz.prog 81 = .fn:=⟨by kernel_rfl,by kernel_rfl,by kernel_rfl,by kernel_rfl⟩
theorem ty84:sa Tryz.prog 84=some (1,false)/\tsz Tryz.prog 84=some 1/\tzero Tryz.prog 84=some [.nilm]/\mq Tryz.prog 84 = .i 23 (.int .i64 0)/\nt Tryz.prog 84 = .mp:=⟨by kernel_rfl,by kernel_rfl,by kernel_rfl,by kernel_rfl,by kernel_rfl⟩
theorem ty85:sa Tryz.prog 85=some (1,false)/\tsz Tryz.prog 85=some 1/\tzero Tryz.prog 85=some [.nilm]/\mq Tryz.prog 85 = .a 143 (.int .i64 0) 3/\nt Tryz.prog 85 = .mp:=⟨by kernel_rfl,by kernel_rfl,by kernel_rfl,by kernel_rfl,by kernel_rfl⟩
theorem ty86:sa Tryz.prog 86=some (1,false)/\tsz Tryz.prog 86=some 1/\tzero Tryz.prog 86=some [.nils]/\es Tryz.prog 86=some 1/\ez Tryz.prog 86=some (1,8,[.nilp])/\nt Tryz.prog 86 = .sl:=⟨by kernel_rfl,by kernel_rfl,by kernel_rfl,by kernel_rfl,by kernel_rfl,by kernel_rfl⟩
theorem ty87:sa Tryz.prog 87=some (1,false)/\tsz Tryz.prog 87=some 1/\tzero Tryz.prog 87=some [.nils]/\es Tryz.prog 87=some 8/\ez Tryz.prog 87=some (8,56,[.int .i64 0,.int .i64 0,.int .u64 0,.int .u64 0,.int .u64 0,.int .u64 0,.bool false,.bool false])/\nt Tryz.prog 87 = .sl:=⟨by kernel_rfl,by kernel_rfl,by kernel_rfl,by kernel_rfl,by kernel_rfl,by kernel_rfl⟩
theorem ty89:sa Tryz.prog 89=some (8,true)/\tsz Tryz.prog 89=some 8/\tzero Tryz.prog 89=some [.nils,.nils,.nilm,.nils,.nils,.nilm,.nils,.nilm]/\fz Tryz.prog 89=[(0,1,22),(1,1,86),(2,1,84),(3,1,44),(4,1,64),(5,1,85),(6,1,87),(7,1,84)]/\stt Tryz.prog 89=true/\nt Tryz.prog 89 = .no:=⟨by kernel_rfl,by kernel_rfl,by kernel_rfl,by kernel_rfl,by kernel_rfl,by kernel_rfl⟩
theorem ty91:sa Tryz.prog 91=some (1,false)/\tsz Tryz.prog 91=some 1/\tzero Tryz.prog 91=some [.nilp]/\nt Tryz.prog 91 = .pt:=⟨by kernel_rfl,by kernel_rfl,by kernel_rfl,by kernel_rfl⟩
theorem ty92:sa Tryz.prog 92=some (1,false)/\tsz Tryz.prog 92=some 1/\tzero Tryz.prog 92=some [.nilm]/\mq Tryz.prog 92 = .i 23 (.nils)/\nt Tryz.prog 92 = .mp:=⟨by kernel_rfl,by kernel_rfl,by kernel_rfl,by kernel_rfl,by kernel_rfl⟩
theorem ty94:sa Tryz.prog 94=some (6,true)/\tsz Tryz.prog 94=some 6/\tzero Tryz.prog 94=some [.int .u64 0,.int .i64 0,.int .i64 0,.int .i64 0,.int .i64 0,.nilm]/\fz Tryz.prog 94=[(0,5,67),(5,1,92)]/\stt Tryz.prog 94=true/\nt Tryz.prog 94 = .no:=⟨by kernel_rfl,by kernel_rfl,by kernel_rfl,by kernel_rfl,by kernel_rfl,by kernel_rfl⟩
theorem ty95:sa Tryz.prog 95=some (1,false)/\tsz Tryz.prog 95=some 1/\tzero Tryz.prog 95=some [.nilm]/\mq Tryz.prog 95 = .i 23 (.nilp)/\nt Tryz.prog 95 = .mp:=⟨by kernel_rfl,by kernel_rfl,by kernel_rfl,by kernel_rfl,by kernel_rfl⟩
theorem ty97:sa Tryz.prog 97=some (1,true)/\tsz Tryz.prog 97=some 1/\tzero Tryz.prog 97=some [.nilm]/\fz Tryz.prog 97=[(0,1,95)]/\stt Tryz.prog 97=true/\nt Tryz.prog 97 = .no:=⟨by kernel_rfl,by kernel_rfl,by kernel_rfl,by kernel_rfl,by kernel_rfl,by kernel_rfl⟩
theorem ty98:sa Tryz.prog 98=some (1,false)/\tsz Tryz.prog 98=some 1/\tzero Tryz.prog 98=some [.nilp]/\nt Tryz.prog 98 = .pt:=⟨by kernel_rfl,by kernel_rfl,by kernel_rfl,by kernel_rfl⟩
theorem ty100:sa Tryz.prog 100=some (1,false)/\tsz Tryz.prog 100=some 1/\tzero Tryz.prog 100=some [.nils]/\es Tryz.prog 100=some 4/\ez Tryz.prog 100=some (4,32,[.int .u64 0,.int .u64 0,.int .i64 0,.int .i64 0])/\nt Tryz.prog 100 = .sl:=⟨by kernel_rfl,by kernel_rfl,by kernel_rfl,by kernel_rfl,by kernel_rfl,by kernel_rfl⟩
theorem ty102:sa Tryz.prog 102=some (1,true)/\tsz Tryz.prog 102=some 1/\tzero Tryz.prog 102=some [.nils]/\fz Tryz.prog 102=[(0,1,100)]/\stt Tryz.prog 102=true/\nt Tryz.prog 102 = .no:=⟨by kernel_rfl,by kernel_rfl,by kernel_rfl,by kernel_rfl,by kernel_rfl,by kernel_rfl⟩
theorem ty104:sa Tryz.prog 104=some (1,true)/\tsz Tryz.prog 104=some 1/\tzero Tryz.prog 104=some [.nils]/\fz Tryz.prog 104=[(0,1,102)]/\stt Tryz.prog 104=true/\nt Tryz.prog 104 = .no:=⟨by kernel_rfl,by kernel_rfl,by kernel_rfl,by kernel_rfl,by kernel_rfl,by kernel_rfl⟩
theorem ty106:sa Tryz.prog 106=some (4,true)/\tsz Tryz.prog 106=some 4/\tzero Tryz.prog 106=some [.int .u64 0,.int .u64 0,.int .i64 0,.int .i64 0]/\fz Tryz.prog 106=[(0,2,25),(2,1,3),(3,1,3)]/\stt Tryz.prog 106=true/\fsh Tryz.prog 40 106=some [.i .u64,.i .u64,.i .i64,.i .i64]/\aggT Tryz.prog 106=true/\nt Tryz.prog 106 = .no:=⟨by kernel_rfl,by kernel_rfl,by kernel_rfl,by kernel_rfl,by kernel_rfl,by kernel_rfl,by kernel_rfl,by kernel_rfl⟩
theorem ty120:sa Tryz.prog 120=some (4,true)/\tsz Tryz.prog 120=some 4/\tzero Tryz.prog 120=some [.int .u64 0,.int .u64 0,.int .u64 0,.bool false]/\fz Tryz.prog 120=[(0,1,23),(1,2,25),(3,1,4)]/\stt Tryz.prog 120=true/\fsh Tryz.prog 40 120=some [.i .u64,.i .u64,.i .u64,.b]/\aggT Tryz.prog 120=true/\nt Tryz.prog 120 = .no:=⟨by kernel_rfl,by kernel_rfl,by kernel_rfl,by kernel_rfl,by kernel_rfl,by kernel_rfl,by kernel_rfl,by kernel_rfl⟩
theorem ty143:sa Tryz.prog 143=some (3,true)/\tsz Tryz.prog 143=some 3/\tzero Tryz.prog 143=some [.int .u64 0,.int .u64 0,.int .u64 0]/\fz Tryz.prog 143=[(0,1,23),(1,2,25)]/\stt Tryz.prog 143=true/\fsh Tryz.prog 40 143=some [.i .u64,.i .u64,.i .u64]/\aggT Tryz.prog 143=true/\nt Tryz.prog 143 = .no:=⟨by kernel_rfl,by kernel_rfl,by kernel_rfl,by kernel_rfl,by kernel_rfl,by kernel_rfl,by kernel_rfl,by kernel_rfl⟩
theorem ty149:sa Tryz.prog 149=some (1,false)/\tsz Tryz.prog 149=some 1/\tzero Tryz.prog 149=some [.int .i64 0]/\ikd Tryz.prog 149=some .i64/\nt Tryz.prog 149 = .no:=⟨by kernel_rfl,by kernel_rfl,by kernel_rfl,by kernel_rfl,by kernel_rfl⟩
theorem ty153:sa Tryz.prog 153=some (1,false)/\tsz Tryz.prog 153=some 1/\tzero Tryz.prog 153=some [.nilm]/\mq Tryz.prog 153 = .a 302 (.int .i64 0) 2/\nt Tryz.prog 153 = .mp:=⟨by kernel_rfl,by kernel_rfl,by kernel_rfl,by kernel_rfl,by kernel_rfl⟩
theorem ty154:sa Tryz.prog 154=some (1,false)/\tsz Tryz.prog 154=some 1/\tzero Tryz.prog 154=some [.nils]/\es Tryz.prog 154=some 2/\ez Tryz.prog 154=some (2,16,[.int .u64 0,.int .u64 0])/\nt Tryz.prog 154 = .sl:=⟨by kernel_rfl,by kernel_rfl,by kernel_rfl,by kernel_rfl,by kernel_rfl,by kernel_rfl⟩
theorem ty156:sa Tryz.prog 156=some (2,true)/\tsz Tryz.prog 156=some 2/\tzero Tryz.prog 156=some [.nilm,.nils]/\fz Tryz.prog 156=[(0,1,153),(1,1,154)]/\stt Tryz.prog 156=true/\nt Tryz.prog 156 = .no:=⟨by kernel_rfl,by kernel_rfl,by kernel_rfl,by kernel_rfl,by kernel_rfl,by kernel_rfl⟩
theorem ty158:sa Tryz.prog 158=some (2,true)/\tsz Tryz.prog 158=some 2/\tzero Tryz.prog 158=some [.nilm,.nils]/\fz Tryz.prog 158=[(0,2,156)]/\stt Tryz.prog 158=true/\nt Tryz.prog 158 = .no:=⟨by kernel_rfl,by kernel_rfl,by kernel_rfl,by kernel_rfl,by kernel_rfl,by kernel_rfl⟩
theorem ty159:sa Tryz.prog 159=some (1,false)/\tsz Tryz.prog 159=some 1/\tzero Tryz.prog 159=some [.nils]/\es Tryz.prog 159=some 1/\ez Tryz.prog 159=some (1,24,[.nils])/\nt Tryz.prog 159 = .sl:=⟨by kernel_rfl,by kernel_rfl,by kernel_rfl,by kernel_rfl,by kernel_rfl,by kernel_rfl⟩
theorem ty161:sa Tryz.prog 161=some (3,true)/\tsz Tryz.prog 161=some 3/\tzero Tryz.prog 161=some [.nilm,.nils,.nils]/\fz Tryz.prog 161=[(0,2,158),(2,1,159)]/\stt Tryz.prog 161=true/\nt Tryz.prog 161 = .no:=⟨by kernel_rfl,by kernel_rfl,by kernel_rfl,by kernel_rfl,by kernel_rfl,by kernel_rfl⟩
theorem ty162:sa Tryz.prog 162=some (1,false)/\tsz Tryz.prog 162=some 1/\tzero Tryz.prog 162=some [.nilm]/\mq Tryz.prog 162 = .i 23 (.bool false)/\nt Tryz.prog 162 = .mp:=⟨by kernel_rfl,by kernel_rfl,by kernel_rfl,by kernel_rfl,by kernel_rfl⟩
theorem ty164:sa Tryz.prog 164=some (5,true)/\tsz Tryz.prog 164=some 5/\tzero Tryz.prog 164=some [.nilm,.nils,.nils,.int .i64 0,.nilm]/\fz Tryz.prog 164=[(0,3,161),(3,1,3),(4,1,162)]/\stt Tryz.prog 164=true/\nt Tryz.prog 164 = .no:=⟨by kernel_rfl,by kernel_rfl,by kernel_rfl,by kernel_rfl,by kernel_rfl,by kernel_rfl⟩
theorem ty169:sa Tryz.prog 169=some (8,true)/\tsz Tryz.prog 169=some 8/\tzero Tryz.prog 169=some [.int .i64 0,.int .i64 0,.int .u64 0,.int .u64 0,.int .u64 0,.int .u64 0,.bool false,.bool false]/\fz Tryz.prog 169=[(0,1,3),(1,1,3),(2,1,23),(3,1,23),(4,2,25),(6,1,4),(7,1,4)]/\stt Tryz.prog 169=true/\fsh Tryz.prog 40 169=some [.i .i64,.i .i64,.i .u64,.i .u64,.i .u64,.i .u64,.b,.b]/\aggT Tryz.prog 169=true/\nt Tryz.prog 169 = .no:=⟨by kernel_rfl,by kernel_rfl,by kernel_rfl,by kernel_rfl,by kernel_rfl,by kernel_rfl,by kernel_rfl,by kernel_rfl⟩
theorem ty172:sa Tryz.prog 172=some (1,false)/\tsz Tryz.prog 172=some 1/\tzero Tryz.prog 172=some [.int .u64 0]/\ikd Tryz.prog 172=some .u64/\nt Tryz.prog 172 = .no:=⟨by kernel_rfl,by kernel_rfl,by kernel_rfl,by kernel_rfl,by kernel_rfl⟩
theorem ty199:sa Tryz.prog 199=some (1,false)/\tsz Tryz.prog 199=some 1/\tzero Tryz.prog 199=some [.nilf]/\nt Tryz.prog 199 = .fn:=⟨by kernel_rfl,by kernel_rfl,by kernel_rfl,by kernel_rfl⟩
theorem ty200:sa Tryz.prog 200=some (1,false)/\tsz Tryz.prog 200=some 1/\tzero Tryz.prog 200=some [.nilf]/\nt Tryz.prog 200 = .fn:=⟨by kernel_rfl,by kernel_rfl,by kernel_rfl,by kernel_rfl⟩
theorem ty201:sa Tryz.prog 201=some (1,false)/\tsz Tryz.prog 201=some 1/\tzero Tryz.prog 201=some [.nilf]/\nt Tryz.prog 201 = .fn:=⟨by kernel_rfl,by kernel_rfl,by kernel_rfl,by kernel_rfl⟩
theorem ty202:sa Tryz.prog 202=some (1,false)/\tsz Tryz.prog 202=some 1/\tzero Tryz.prog 202=some [.nilf]/\nt Tryz.prog 202 = .fn:=⟨by kernel_rfl,by kernel_rfl,by kernel_rfl,by kernel_rfl⟩
theorem ty204:sa Tryz.prog 204=some (6,true)/\tsz Tryz.prog 204=some 6/\tzero Tryz.prog 204=some [.str [],.nilf,.nilf,.nilf,.nilf,.nilf]/\fz Tryz.prog 204=[(0,1,9),(1,1,81),(2,1,199),(3,1,200),(4,1,201),(5,1,202)]/\stt Tryz.prog 204=true/\nt Tryz.prog 204 = .no:=⟨by kernel_rfl,by kernel_rfl,by kernel_rfl,by kernel_rfl,by kernel_rfl,by kernel_rfl⟩
theorem ty205:sa Tryz.prog 205=some (48,true)/\tsz Tryz.prog 205=some 48/\tzero Tryz.prog 205=some [.str [],.nilf,.nilf,.nilf,.nilf,.nilf,.str [],.nilf,.nilf,.nilf,.nilf,.nilf,.str [],.nilf,.nilf,.nilf,.nilf,.nilf,.str [],.nilf,.nilf,.nilf,.nilf,.nilf,.str [],.nilf,.nilf,.nilf,.nilf,.nilf,.str [],.nilf,.nilf,.nilf,.nilf,.nilf,.str [],.nilf,.nilf,.nilf,.nilf,.nilf,.str [],.nilf,.nilf,.nilf,.nilf,.nilf]/\arr Tryz.prog 205=some (8,6,204)/\stt Tryz.prog 205=false/\nt Tryz.prog 205 = .no:=⟨by kernel_rfl,by kernel_rfl,by kernel_rfl,by kernel_rfl,by kernel_rfl,by kernel_rfl⟩
theorem ty210:sa Tryz.prog 210=some (1,false)/\tsz Tryz.prog 210=some 1/\tzero Tryz.prog 210=some [.nilp]/\nt Tryz.prog 210 = .pt:=⟨by kernel_rfl,by kernel_rfl,by kernel_rfl,by kernel_rfl⟩
theorem ty211:sa Tryz.prog 211=some (1,false)/\tsz Tryz.prog 211=some 1/\tzero Tryz.prog 211=some [.nils]/\es Tryz.prog 211=some 2/\ez Tryz.prog 211=some (2,16,[.int .i64 0,.nilf])/\nt Tryz.prog 211 = .sl:=⟨by kernel_rfl,by kernel_rfl,by kernel_rfl,by kernel_rfl,by kernel_rfl,by kernel_rfl⟩
theorem ty213:sa Tryz.prog 213=some (1,false)/\tsz Tryz.prog 213=some 1/\tzero Tryz.prog 213=some [.nilf]/\nt Tryz.prog 213 = .fn:=⟨by kernel_rfl,by kernel_rfl,by kernel_rfl,by kernel_rfl⟩
theorem ty215:sa Tryz.prog 215=some (2,true)/\tsz Tryz.prog 215=some 2/\tzero Tryz.prog 215=some [.int .i64 0,.nilf]/\fz Tryz.prog 215=[(0,1,30),(1,1,213)]/\stt Tryz.prog 215=true/\nt Tryz.prog 215 = .no:=⟨by kernel_rfl,by kernel_rfl,by kernel_rfl,by kernel_rfl,by kernel_rfl,by kernel_rfl⟩
theorem ty218:sa Tryz.prog 218=some (1,false)/\tsz Tryz.prog 218=some 1/\tzero Tryz.prog 218=some [.int .i64 0]/\ikd Tryz.prog 218=some .i64/\nt Tryz.prog 218 = .no:=⟨by kernel_rfl,by kernel_rfl,by kernel_rfl,by kernel_rfl,by kernel_rfl⟩
theorem ty225:sa Tryz.prog 225=some (1,false)/\tsz Tryz.prog 225=some 1/\tzero Tryz.prog 225=some [.int .u32 0]/\ikd Tryz.prog 225=some .u32/\nt Tryz.prog 225 = .no:=⟨by kernel_rfl,by kernel_rfl,by kernel_rfl,by kernel_rfl,by kernel_rfl⟩
theorem ty247:sa Tryz.prog 247=some (2,true)/\tsz Tryz.prog 247=some 2/\tzero Tryz.prog 247=some [.int .u64 0,.bool false]/\fz Tryz.prog 247=[(0,1,23),(1,1,4)]/\stt Tryz.prog 247=true/\fsh Tryz.prog 40 247=some [.i .u64,.b]/\aggT Tryz.prog 247=true/\nt Tryz.prog 247 = .no:=⟨by kernel_rfl,by kernel_rfl,by kernel_rfl,by kernel_rfl,by kernel_rfl,by kernel_rfl,by kernel_rfl,by kernel_rfl⟩
theorem ty248:sa Tryz.prog 248=some (1,false)/\tsz Tryz.prog 248=some 1/\tzero Tryz.prog 248=some [.int .u64 0]/\ikd Tryz.prog 248=some .u64/\nt Tryz.prog 248 = .no:=⟨by kernel_rfl,by kernel_rfl,by kernel_rfl,by kernel_rfl,by kernel_rfl⟩
theorem ty302:sa Tryz.prog 302=some (2,true)/\tsz Tryz.prog 302=some 2/\tzero Tryz.prog 302=some [.int .u64 0,.int .u64 0]/\fz Tryz.prog 302=[(0,1,23),(1,1,23)]/\stt Tryz.prog 302=true/\fsh Tryz.prog 40 302=some [.i .u64,.i .u64]/\aggT Tryz.prog 302=true/\nt Tryz.prog 302 = .no:=⟨by kernel_rfl,by kernel_rfl,by kernel_rfl,by kernel_rfl,by kernel_rfl,by kernel_rfl,by kernel_rfl,by kernel_rfl⟩
theorem ty303:sa Tryz.prog 303=some (1,false)/\tsz Tryz.prog 303=some 1/\tzero Tryz.prog 303=some [.nils]/\es Tryz.prog 303=some 2/\ez Tryz.prog 303=some (2,16,[.int .u64 0,.bool false])/\nt Tryz.prog 303 = .sl:=⟨by kernel_rfl,by kernel_rfl,by kernel_rfl,by kernel_rfl,by kernel_rfl,by kernel_rfl⟩
theorem ty359:sa Tryz.prog 359=some (1,false)/\tsz Tryz.prog 359=some 1/\tzero Tryz.prog 359=some [.nilf]/\nt Tryz.prog 359 = .fn:=⟨by kernel_rfl,by kernel_rfl,by kernel_rfl,by kernel_rfl⟩
theorem ty360:sa Tryz.prog 360=some (1,false)/\tsz Tryz.prog 360=some 1/\tzero Tryz.prog 360=some [.nilp]/\nt Tryz.prog 360 = .pt:=⟨by kernel_rfl,by kernel_rfl,by kernel_rfl,by kernel_rfl⟩
theorem ty370:sa Tryz.prog 370=some (4,true)/\tsz Tryz.prog 370=some 4/\tzero Tryz.prog 370=some [.int .i64 0,.int .i64 0,.int .i64 0,.nilf]/\fz Tryz.prog 370=[(0,1,3),(1,1,3),(2,1,3),(3,1,359)]/\stt Tryz.prog 370=true/\nt Tryz.prog 370 = .no:=⟨by kernel_rfl,by kernel_rfl,by kernel_rfl,by kernel_rfl,by kernel_rfl,by kernel_rfl⟩
theorem ty398:sa Tryz.prog 398=some (32,true)/\tsz Tryz.prog 398=some 32/\tzero Tryz.prog 398=some [.int .i64 0,.int .i64 0,.int .i64 0,.nilf,.int .i64 0,.int .i64 0,.int .i64 0,.nilf,.int .i64 0,.int .i64 0,.int .i64 0,.nilf,.int .i64 0,.int .i64 0,.int .i64 0,.nilf,.int .i64 0,.int .i64 0,.int .i64 0,.nilf,.int .i64 0,.int .i64 0,.int .i64 0,.nilf,.int .i64 0,.int .i64 0,.int .i64 0,.nilf,.int .i64 0,.int .i64 0,.int .i64 0,.nilf]/\arr Tryz.prog 398=some (8,4,370)/\stt Tryz.prog 398=false/\nt Tryz.prog 398 = .no:=⟨by kernel_rfl,by kernel_rfl,by kernel_rfl,by kernel_rfl,by kernel_rfl,by kernel_rfl⟩
theorem ty419:sa Tryz.prog 419=some (1,false)/\tsz Tryz.prog 419=some 1/\tzero Tryz.prog 419=some [.nilf]/\nt Tryz.prog 419 = .fn:=⟨by kernel_rfl,by kernel_rfl,by kernel_rfl,by kernel_rfl⟩
def gy0:=And.intro @ty3<|And.intro @ty23<|And.intro @ty38 <| @ty40
def gy1:=And.intro @ty3<|And.intro @ty23<|And.intro @ty25<|And.intro @ty38<|And.intro @ty40<|And.intro @ty41 <| @ty43
def gy2:=And.intro @ty3<|And.intro @ty4<|And.intro @ty22<|And.intro @ty23<|And.intro @ty25<|And.intro @ty38<|And.intro @ty40<|And.intro @ty41 <| @ty43
def gy3:=And.intro @ty3<|And.intro @ty359<|And.intro @ty370<|And.intro @ty398 <| @ty419
def gy4:=And.intro @ty3<|And.intro @ty359<|And.intro @ty370 <| @ty398
def gy5:=@ty3
def gy6:=And.intro @ty3<|And.intro @ty4<|And.intro @ty23<|And.intro @ty38 <| @ty40
def gy7:=And.intro @ty3<|And.intro @ty4<|And.intro @ty23<|And.intro @ty38<|And.intro @ty40<|And.intro @ty359 <| @ty370
def gy8:=And.intro @ty3<|And.intro @ty23<|And.intro @ty38<|And.intro @ty40 <| @ty419
def gy9:=And.intro @ty3<|And.intro @ty4<|And.intro @ty23<|And.intro @ty38<|And.intro @ty40 <| @ty419
def gy10:=And.intro @ty3<|And.intro @ty23<|And.intro @ty38<|And.intro @ty40<|And.intro @ty359 <| @ty370
def gy11:=And.intro @ty23<|And.intro @ty153<|And.intro @ty154<|And.intro @ty156 <| @ty302
def gy12:=And.intro @ty23<|And.intro @ty153<|And.intro @ty154<|And.intro @ty156<|And.intro @ty158<|And.intro @ty302 <| @ty360
def gy13:=And.intro @ty153<|And.intro @ty154<|And.intro @ty156<|And.intro @ty158 <| @ty360
def gy14:=And.intro @ty3<|And.intro @ty23<|And.intro @ty153<|And.intro @ty154<|And.intro @ty156 <| @ty302
def gy15:=And.intro @ty3<|And.intro @ty4<|And.intro @ty23<|And.intro @ty153<|And.intro @ty154<|And.intro @ty156 <| @ty302
def gy16:=And.intro @ty33<|And.intro @ty95<|And.intro @ty97<|And.intro @ty98<|And.intro @ty100<|And.intro @ty102 <| @ty104
def gy17:=And.intro @ty100<|And.intro @ty102 <| @ty104
def gy18:=And.intro @ty3<|And.intro @ty23<|And.intro @ty25<|And.intro @ty100<|And.intro @ty102 <| @ty106
def gy19:=And.intro @ty3<|And.intro @ty23<|And.intro @ty25<|And.intro @ty100 <| @ty106
def gy20:=And.intro @ty3<|And.intro @ty23<|And.intro @ty25 <| @ty106
def gy21:=And.intro @ty23 <| @ty25
def gy22:=And.intro @ty3<|And.intro @ty23<|And.intro @ty25<|And.intro @ty100 <| @ty102
def gy23:=And.intro @ty4<|And.intro @ty23<|And.intro @ty153<|And.intro @ty154<|And.intro @ty156<|And.intro @ty158<|And.intro @ty159<|And.intro @ty161<|And.intro @ty302 <| @ty303
def gy24:=And.intro @ty3<|And.intro @ty4<|And.intro @ty23<|And.intro @ty25<|And.intro @ty153<|And.intro @ty154<|And.intro @ty156<|And.intro @ty158<|And.intro @ty159<|And.intro @ty161<|And.intro @ty162<|And.intro @ty164<|And.intro @ty210<|And.intro @ty247 <| @ty303
def gy25:=And.intro @ty3<|And.intro @ty4<|And.intro @ty22<|And.intro @ty23<|And.intro @ty25<|And.intro @ty44<|And.intro @ty64<|And.intro @ty84<|And.intro @ty85<|And.intro @ty86<|And.intro @ty87<|And.intro @ty89 <| @ty169
def gy26:=And.intro @ty3<|And.intro @ty4<|And.intro @ty23<|And.intro @ty25<|And.intro @ty38<|And.intro @ty40<|And.intro @ty41<|And.intro @ty43<|And.intro @ty153<|And.intro @ty154<|And.intro @ty156<|And.intro @ty158<|And.intro @ty159<|And.intro @ty161<|And.intro @ty162 <| @ty164
def gy27:=And.intro @ty3<|And.intro @ty23<|And.intro @ty25<|And.intro @ty38<|And.intro @ty40<|And.intro @ty41<|And.intro @ty43<|And.intro @ty153<|And.intro @ty154<|And.intro @ty156<|And.intro @ty158<|And.intro @ty159<|And.intro @ty161<|And.intro @ty162 <| @ty164
def gy28:=And.intro @ty22<|And.intro @ty44<|And.intro @ty64<|And.intro @ty84<|And.intro @ty85<|And.intro @ty86<|And.intro @ty87<|And.intro @ty89 <| @ty91
def gy29:=And.intro @ty3<|And.intro @ty4<|And.intro @ty22<|And.intro @ty23<|And.intro @ty25<|And.intro @ty38<|And.intro @ty40<|And.intro @ty41<|And.intro @ty43<|And.intro @ty44<|And.intro @ty64<|And.intro @ty67<|And.intro @ty84<|And.intro @ty85<|And.intro @ty86<|And.intro @ty87<|And.intro @ty89<|And.intro @ty92<|And.intro @ty94<|And.intro @ty120 <| @ty169
def gy30:=And.intro @ty3<|And.intro @ty4<|And.intro @ty22<|And.intro @ty23<|And.intro @ty25<|And.intro @ty38<|And.intro @ty40<|And.intro @ty41<|And.intro @ty43<|And.intro @ty44<|And.intro @ty58<|And.intro @ty64<|And.intro @ty67<|And.intro @ty71<|And.intro @ty84<|And.intro @ty85<|And.intro @ty86<|And.intro @ty87<|And.intro @ty89<|And.intro @ty92<|And.intro @ty94 <| @ty143
def gy31:=And.intro @ty3<|And.intro @ty4<|And.intro @ty23<|And.intro @ty25<|And.intro @ty41 <| @ty120
def gy32:=@ty38
def gy33:=@ty41
def gy34:=@ty64
def gy35:=And.intro @ty3<|And.intro @ty4<|And.intro @ty23<|And.intro @ty153<|And.intro @ty154<|And.intro @ty156<|And.intro @ty158<|And.intro @ty159<|And.intro @ty161<|And.intro @ty247<|And.intro @ty302 <| @ty303
def gy36:=And.intro @ty3<|And.intro @ty4<|And.intro @ty23<|And.intro @ty25<|And.intro @ty38<|And.intro @ty40<|And.intro @ty41<|And.intro @ty43<|And.intro @ty153<|And.intro @ty154<|And.intro @ty156<|And.intro @ty158<|And.intro @ty159<|And.intro @ty161<|And.intro @ty162<|And.intro @ty164 <| @ty247
def gy37:=And.intro @ty4<|And.intro @ty23<|And.intro @ty25<|And.intro @ty149 <| @ty247
def gy38:=And.intro @ty3<|And.intro @ty23<|And.intro @ty25<|And.intro @ty153<|And.intro @ty154<|And.intro @ty156<|And.intro @ty158<|And.intro @ty159<|And.intro @ty161<|And.intro @ty162<|And.intro @ty164<|And.intro @ty210 <| @ty303
def gy39:=And.intro @ty3<|And.intro @ty4<|And.intro @ty23<|And.intro @ty25<|And.intro @ty38<|And.intro @ty40<|And.intro @ty41 <| @ty43
def gy40:=And.intro @ty3<|And.intro @ty23 <| @ty44
def gy41:=And.intro @ty9<|And.intro @ty81<|And.intro @ty199<|And.intro @ty200<|And.intro @ty201<|And.intro @ty202 <| @ty204
def gy42:=And.intro @ty9<|And.intro @ty81<|And.intro @ty199<|And.intro @ty200<|And.intro @ty201<|And.intro @ty202<|And.intro @ty204 <| @ty205
def gy43:=And.intro @ty3<|And.intro @ty9<|And.intro @ty81<|And.intro @ty199<|And.intro @ty200<|And.intro @ty201<|And.intro @ty202<|And.intro @ty204 <| @ty205
def gy44:=And.intro @ty3<|And.intro @ty4<|And.intro @ty9<|And.intro @ty23<|And.intro @ty25<|And.intro @ty38<|And.intro @ty40<|And.intro @ty41<|And.intro @ty43<|And.intro @ty81<|And.intro @ty199<|And.intro @ty200<|And.intro @ty201<|And.intro @ty202 <| @ty204
def gy45:=And.intro @ty3<|And.intro @ty4<|And.intro @ty23<|And.intro @ty25<|And.intro @ty38<|And.intro @ty40<|And.intro @ty41<|And.intro @ty43 <| @ty120
def gy46:=And.intro @ty3<|And.intro @ty4<|And.intro @ty23<|And.intro @ty25<|And.intro @ty38<|And.intro @ty40<|And.intro @ty149 <| @ty247
def gy47:=And.intro @ty4<|And.intro @ty23<|And.intro @ty25<|And.intro @ty120 <| @ty210
def gy48:=And.intro @ty3<|And.intro @ty4<|And.intro @ty23<|And.intro @ty25<|And.intro @ty38<|And.intro @ty40<|And.intro @ty41<|And.intro @ty43 <| @ty210
def gy49:=And.intro @ty3<|And.intro @ty4<|And.intro @ty23<|And.intro @ty25<|And.intro @ty38<|And.intro @ty40<|And.intro @ty41<|And.intro @ty43<|And.intro @ty120 <| @ty210
def gy50:=And.intro @ty4<|And.intro @ty23<|And.intro @ty25 <| @ty120
def gy51:=And.intro @ty3<|And.intro @ty23<|And.intro @ty44<|And.intro @ty153<|And.intro @ty154<|And.intro @ty156<|And.intro @ty158<|And.intro @ty159<|And.intro @ty161<|And.intro @ty162<|And.intro @ty164<|And.intro @ty210 <| @ty302
def gy52:=And.intro @ty30<|And.intro @ty211<|And.intro @ty213 <| @ty215
def gy53:=And.intro @ty3<|And.intro @ty4<|And.intro @ty23<|And.intro @ty25<|And.intro @ty30<|And.intro @ty38<|And.intro @ty40<|And.intro @ty41<|And.intro @ty43<|And.intro @ty210<|And.intro @ty211<|And.intro @ty213 <| @ty215
def gy54:=And.intro @ty3<|And.intro @ty22<|And.intro @ty23<|And.intro @ty25<|And.intro @ty30<|And.intro @ty38<|And.intro @ty40<|And.intro @ty41<|And.intro @ty43<|And.intro @ty153<|And.intro @ty154<|And.intro @ty156<|And.intro @ty158<|And.intro @ty159<|And.intro @ty161<|And.intro @ty162 <| @ty164
def gy55:=And.intro @ty3<|And.intro @ty4<|And.intro @ty22<|And.intro @ty23<|And.intro @ty25<|And.intro @ty30<|And.intro @ty38<|And.intro @ty40<|And.intro @ty41<|And.intro @ty43<|And.intro @ty44<|And.intro @ty58<|And.intro @ty64<|And.intro @ty67<|And.intro @ty71<|And.intro @ty84<|And.intro @ty85<|And.intro @ty86<|And.intro @ty87<|And.intro @ty89<|And.intro @ty91<|And.intro @ty92 <| @ty94
def gy56:=And.intro @ty3<|And.intro @ty4<|And.intro @ty22<|And.intro @ty23<|And.intro @ty29<|And.intro @ty44<|And.intro @ty64<|And.intro @ty67<|And.intro @ty84<|And.intro @ty85<|And.intro @ty86<|And.intro @ty87<|And.intro @ty89<|And.intro @ty92 <| @ty94
def gy57:=And.intro @ty22<|And.intro @ty29<|And.intro @ty44<|And.intro @ty64<|And.intro @ty84<|And.intro @ty85<|And.intro @ty86<|And.intro @ty87 <| @ty89
def gy58:=And.intro @ty3<|And.intro @ty4<|And.intro @ty22<|And.intro @ty23<|And.intro @ty25<|And.intro @ty29<|And.intro @ty44<|And.intro @ty64<|And.intro @ty71<|And.intro @ty84<|And.intro @ty85<|And.intro @ty86<|And.intro @ty87<|And.intro @ty89 <| @ty143
def gy59:=@ty44
def gy60:=And.intro @ty4 <| @ty95
def gy61:=@ty95
def gy62:=And.intro @ty33<|And.intro @ty95 <| @ty97
def gy63:=And.intro @ty3<|And.intro @ty4<|And.intro @ty23<|And.intro @ty25<|And.intro @ty100<|And.intro @ty102<|And.intro @ty104 <| @ty106
def gy64:=And.intro @ty3<|And.intro @ty4<|And.intro @ty23<|And.intro @ty25<|And.intro @ty29<|And.intro @ty64<|And.intro @ty67<|And.intro @ty71<|And.intro @ty95<|And.intro @ty97<|And.intro @ty100<|And.intro @ty102<|And.intro @ty104 <| @ty106
def gy65:=And.intro @ty3<|And.intro @ty4<|And.intro @ty23<|And.intro @ty25<|And.intro @ty100<|And.intro @ty102 <| @ty104
def gy66:=And.intro @ty3<|And.intro @ty23<|And.intro @ty25<|And.intro @ty100<|And.intro @ty102<|And.intro @ty104 <| @ty106
def gy67:=And.intro @ty3<|And.intro @ty23<|And.intro @ty25<|And.intro @ty55<|And.intro @ty100<|And.intro @ty102<|And.intro @ty104 <| @ty106
def gy68:=And.intro @ty3<|And.intro @ty23<|And.intro @ty25<|And.intro @ty58<|And.intro @ty100<|And.intro @ty102<|And.intro @ty104 <| @ty106
def gy69:=And.intro @ty23<|And.intro @ty25<|And.intro @ty100<|And.intro @ty102 <| @ty104
def gy70:=And.intro @ty3<|And.intro @ty4<|And.intro @ty23<|And.intro @ty25<|And.intro @ty30<|And.intro @ty44<|And.intro @ty55<|And.intro @ty58<|And.intro @ty64<|And.intro @ty67 <| @ty71
def gy71:=@ty23
def gy72:=And.intro @ty4 <| @ty23
def gy73:=And.intro @ty3<|And.intro @ty5<|And.intro @ty9 <| @ty23
def gy74:=And.intro @ty172 <| @ty225
def gy75:=And.intro @ty3 <| @ty172
def gy76:=@ty248
def gy77:=And.intro @ty3<|And.intro @ty4<|And.intro @ty23 <| @ty44
def gy78:=And.intro @ty3<|And.intro @ty23<|And.intro @ty44<|And.intro @ty172 <| @ty248
def gy79:=And.intro @ty3<|And.intro @ty4<|And.intro @ty23<|And.intro @ty44 <| @ty218
def gy80:=And.intro @ty3<|And.intro @ty4<|And.intro @ty23<|And.intro @ty25<|And.intro @ty100 <| @ty106
def gy81:=And.intro @ty3<|And.intro @ty23<|And.intro @ty25<|And.intro @ty100<|And.intro @ty106<|And.intro @ty172 <| @ty248
def gy82:=And.intro @ty3<|And.intro @ty4<|And.intro @ty23<|And.intro @ty25<|And.intro @ty100<|And.intro @ty106 <| @ty218
def gy83:=And.intro @ty3<|And.intro @ty44 <| @ty172
def gy84:=And.intro @ty3<|And.intro @ty100 <| @ty172
end Go.Xs
namespace Go.Xs
open Go.Proofs
set_option maxRecDepth 100000
set_option maxHeartbeats 4000000
theorem follows:Tryz.prog.follows .mixedOrders=true:=by kernel_rfl
mutual
def exN:Ex->Nat
 | .mk _ _ _ ps=>exsN ps+1
def exsN:List Ex->Nat
 | []=>0
 | e::es=>exN e+exsN es
end
theorem exsN_mem:∀{es:List Ex} {e:Ex},e ∈ es->exN e<=exsN es
 | e'::es,e,h=>by
   simp only[exsN]
   rcases List.mem_cons.1 h with rfl | h
   ·omega
   ·have:=exsN_mem h;omega
mutual
def ndE:Ex->Int->Int
 | .mk _ _ _ ps,l=>ndL ps (l - 1)
def ndL:List Ex->Int->Int
 | [],l=>l
 | e::es,l=>if l<0 then l else ndL es (ndE e l)
end
mutual
theorem ndE_b:∀(e:Ex) (l:Int),0<=l->-1<=ndE e l/\ndE e l<l
 | .mk _ _ _ ps,l,h=>by
   simp only[ndE]
   have:=ndL_b ps (l - 1) (by omega)
   omega
theorem ndL_b:∀(es:List Ex) (l:Int),-1<=l->-1<=ndL es l/\ndL es l<=l
 | [],l,h=>by simp only[ndL];omega
 | e::es,l,h=>by
   simp only[ndL]
   split
   ·omega
   ·have h1:=ndE_b e l (by omega)
    have h2:=ndL_b es (ndE e l) h1.1
    omega
end
theorem ndL_step {ps:List Ex} {i:Nat} {e:Ex} (h:ps[i]?=some e) {l:Int} (hl:0<=l):ndL (ps.drop i) l=ndL (ps.drop (i+1)) (ndE e l):=by
 obtain⟨h1,rfl⟩:=List.getElem?_eq_some_iff.1 h
 rw[List.drop_eq_getElem_cons h1]
 simp only[ndL,if_neg (show ¬ l<0 by omega)]
theorem wrap_i64 {n:Int} (h0:-9223372036854775808<=n) (h1:n<=9223372036854775807):IntKind.i64.wrap n=n:=by rw[IntKind.wrap_i64];omega
theorem f87 (ρ:Rho):∀(sz:Nat) (e:Ex) (M:Hp) (nx b:Nat) (cs:List XV) (l:Int),exN e<sz->ExAt M b e cs->b<=nx->0<=l->l<=60 ->
 FOk Tryz.prog ρ 87 [.agg cs,.int .i64 l] M nx (Ret nx M (.int .i64 (ndE e l))):=by
 intro sz
 induction sz with
 | zero=>intro e M nx b cs l h;omega
 | succ sz ih =>
 intro e M nx b cs l hsz he hb h0 h60
 obtain⟨k,x,y,ps⟩:=e
 simp only[ExAt]at he
 obtain⟨v,row,rfl,hsl,hps⟩:=he
 have hv:=hsl.cell
 have hw:IntKind.i64.wrap (l - 1)=l - 1:=wrap_i64 (by omega) (by omega)
 refine FOk.walk (m:=27) (rs:=[.tmp 4]) follows Tryz.func87 (by kernel_rfl) rfl rfl rfl ?_
 conv in W _ _ _ _ _ _ _=>arg 4;whnf
 refine xs4 gy0 hv.1 hv.2 hw ?_;try exact⟨⟩
 refine W_loop (fun m s=>∃(i:Nat) (l':Int),i<=ps.length/\m=ps.length - i/\-1<=l'/\l'<=60/\ndL (ps.drop i) l'=ndL ps (l - 1)/\tget s.env 1=some (.int .i64 l')/\tget s.env 2=some (.mp nx 0)/\tget s.env 5=some (.int .i64 i) /\
  tget s.M nx=some (.row [.int .i64 k,.int .u64 x,.int .u64 y,v])/\Agr nx M s.M/\nx<s.nx) ps.length ⟨0,l - 1,by omega,by omega,by omega,by omega,by simp,?_⟩ ?_
 ·refine xs1 gy0 ?_;try exact⟨⟩
  exact⟨fun k hk=>by rw[tget_tset,if_neg (by omega)],by omega⟩
 ·rintro m ⟨env,M',nx'⟩ ⟨i,l',hi,hm,hl1,hl2,hnd,e1,e2,e5,hM,ha,hn⟩
  simp only at e1 e2 e5 hM ha hn
  have hlen:=fun N=>hsl.len (P:=Tryz.prog) (t:=38) ty38.2.2.2.2.2 N
  by_cases hlt:(i:Int)<ps.length
  ·by_cases hge:(0:Int)<=l'
   ·have hlt':i<ps.length:=by omega
    obtain⟨e,hei⟩:∃e,ps[i]?=some e:=⟨ps[i],by simp[hlt']⟩
    obtain⟨n,o,hnb,hix,hld⟩:=hsl.elem (P:=Tryz.prog) hlt' (t:=38) (t':=40) ty38.2.2.2.1 ty40.1
    have hld:=hld M' (ha.le hb)
    have hps':=(hps.get hei).agr (ha.le hb)
    have hsz':exN e<sz:=by
     have h1:=exsN_mem (List.mem_of_getElem? hei)
     simp only[exN]at hsz
     omega
    have hnb':=ndE_b e l' hge
    have hst:=ndL_step hei hge
    have hz:(ps.length:Int)<=9223372036854775807:=by have:=hsl.1;omega
    have hw2:IntKind.i64.wrap ((i:Int)+1)=((i+1:Nat):Int):=by rw[wrap_i64 (by omega) (by omega)];omega
    refine xs10 gy0 e1 e2 e5 hM hlen hlt hge hix hld ?_;try exact⟨⟩
    refine CN_fok (ih e M' _ b _ l' hsz' hps' (by omega) hge hl2) ?_
    rintro⟨v',M'',nx''⟩ ⟨h1,h2,h3⟩
    simp only at h1 h2 h3
    subst h1
    refine xs5 gy0 e1 e2 e5 hw2 ?_;try exact⟨⟩
    exact⟨ps.length - (i+1),by omega,i+1,ndE e l',by omega,rfl,by omega,by omega,by rw[<-hst,hnd],rfl,rfl,by rw[h2 nx (by omega),hM],ha.trans (h2.le (by omega)),by omega⟩
   ·have hd:ndL (ps.drop i) l'=l':=by
     cases hdd:ps.drop i with
     | nil=>rfl
     | cons e es=>simp only[ndL,if_pos (show l'<0 by omega)]
    refine xs9 gy0 e1 e2 e5 hM hlen hlt hge @Ret.eq_1 ?_;try exact⟨⟩
    exact⟨by simp only[ndE];rw[<-hnd,hd],ha,by omega⟩
  ·have hd:ps.drop i=[]:=List.drop_eq_nil_of_le (by omega)
   refine xs8 gy0 e1 e2 e5 hM hlen hlt @Ret.eq_1 ?_;try exact⟨⟩
   refine⟨?_,ha,by omega⟩
   simp only[ndE]
   rw[<-hnd,hd]
   rfl
end Go.Xs
namespace Go.Xs
open Go.Proofs
set_option maxRecDepth 100000
set_option maxHeartbeats 4000000
theorem f60 (ρ:Rho) {e:Ex} {M:Hp} {nx b:Nat} {cs:List XV} (he:ExAt M b e cs) (hb:b<=nx) :
 FOk Tryz.prog ρ 60 [.agg cs] M nx (Ret nx M (.bool (decide (0<=ndE e 60)))):=by
 have he0:=he
 obtain⟨k,x,y,ps⟩:=e
 simp only[ExAt]at he0
 obtain⟨v,row,rfl,hsl,hps⟩:=he0
 have hv:=hsl.cell
 refine FOk.walk (m:=6) (rs:=[.tmp 2]) follows Tryz.func60 (by kernel_rfl) rfl rfl rfl ?_
 conv in W _ _ _ _ _ _ _=>arg 4;whnf
 refine xs3 gy0 hv.1 hv.2 ?_;try exact⟨⟩
 have ha:Agr nx M (tset M nx (.row [.int .i64 k,.int .u64 x,.int .u64 y,v])):=(Agr.refl _ _).set (Nat.le_refl _) _
 refine CN_fok (f87 ρ _ _ _ _ b _ 60 (Nat.lt_succ_self _) (he.agr (ha.le hb)) (by omega) (by omega) (by omega)) ?_
 rintro⟨v',M',nx'⟩ ⟨h1,h2,h3⟩
 simp only at h1 h2 h3
 subst h1
 refine xs1 gy0 ?_;try exact⟨⟩
 exact .mk (ha.trans (h2.le (by omega))) (by omega)
def fewR (r:Rec):Bool:=decide (r.es.length<=60)&&decide (0<=ndE r.p 60)
theorem f32 (ρ:Rho) {r:Rec} {M:Hp} {nx b:Nat} {cs:List XV} (hr:RecAt M b r cs) (hb:b<=nx) :
 FOk Tryz.prog ρ 32 [.agg cs] M nx (Ret nx M (.bool (fewR r))):=by
 obtain⟨kind,t,x,w,n,vv,p,es⟩:=r
 obtain⟨pc,ve,rfl,he,hes⟩:=hr
 have he0:=he
 obtain⟨pk,pa,pb,ps⟩:=p
 simp only[ExAt]at he0
 obtain⟨v,row,rfl,hsl,hps⟩:=he0
 have hv:=hsl.cell
 have hv2:=SlAt.cell hes
 have hlen:=fun N=>SlAt.len (P:=Tryz.prog) (t:=41) hes ty41.2.2.2.2.2 N
 refine FOk.walk (m:=12) (rs:=[.tmp 2]) follows Tryz.func32 (by kernel_rfl) rfl rfl rfl ?_
 conv in W _ _ _ _ _ _ _=>arg 4;whnf
 by_cases hle:(es.length:Int)<=60
 ·refine xs7 gy1 hv.1 hv.2 hv2.1 hv2.2 hlen hle ?_;try exact⟨⟩
  generalize hM1:tset M nx _=M1
  have ha:Agr nx M M1:=by rw[<-hM1];exact(Agr.refl _ _).set (Nat.le_refl _) _
  refine CN_fok (f60 ρ (he.agr (ha.le hb)) (by omega)) ?_
  rintro⟨v',M',nx'⟩ ⟨h1,h2,h3⟩
  simp only at h1 h2 h3
  subst h1
  refine xs1 gy1 ?_;try exact⟨⟩
  simp only[fewR,hle,Ret]
  exact⟨by simp;omega,ha.trans (h2.le (by omega)),by omega⟩
 ·refine xs7 gy1 hv.1 hv.2 hv2.1 hv2.2 hlen hle ?_;try exact⟨⟩
  simp only[fewR,Ret]
  exact⟨by simp;omega,(Agr.refl _ _).set (Nat.le_refl _) _,by omega⟩
def fewS (l:List Rec) (most:Nat):Bool:=(l.take (most+1)).all fewR&&decide (l.length<=most)
theorem few_step {l:List Rec} {i:Nat} {r:Rec} (h:l[i]?=some r):(l.take (i+1)).all fewR=((l.take i).all fewR&&fewR r):=by
 rw[List.take_add_one,h]
 simp
theorem f7 (ρ:Rho) {l:List Rec} {M:Hp} {nx b most:Nat} {v:XV} (hl:RecsAt M b v l) (hb:b<=nx) (hm:most<=1000) :
 FOk Tryz.prog ρ 7 [v,.int .i64 most] M nx (Ret nx M (.bool (fewS l most))):=by
 obtain⟨row,hsl,hrec⟩:=hl
 have hlen:=fun N=>hsl.len (P:=Tryz.prog) (t:=22) ty22.2.2.2.2.2 N
 refine FOk.walk (m:=27) (rs:=[.tmp 4]) follows Tryz.func7 (by kernel_rfl) rfl rfl rfl ?_
 conv in W _ _ _ _ _ _ _=>arg 4;whnf
 refine xs1 gy2 ?_;try exact⟨⟩
 refine W_loop (fun m s=>∃i:Nat,i<=l.length/\i<=most+1/\m=l.length - i/\(l.take i).all fewR=true/\tget s.env 0=some v/\tget s.env 1=some (.int .i64 most)/\tget s.env 5=some (.int .i64 i)/\Agr nx M s.M/\nx<=s.nx)
  l.length ⟨0,by omega,by omega,by omega,by simp,?_⟩ ?_
 ·refine xs1 gy2 ?_;try exact⟨⟩
  exact⟨Agr.refl _ _,by omega⟩
 ·rintro m ⟨env,M',nx'⟩ ⟨i,hi,him,hm',hall,e0,e1,e5,ha,hn⟩
  simp only at e0 e1 e5 ha hn
  have hz:=hsl.1
  by_cases hlt:(i:Int)<l.length
  ·by_cases hle:(i:Int)<=most
   ·have hlt':i<l.length:=by omega
    obtain⟨r,hr⟩:∃r,l[i]?=some r:=⟨l[i],by simp[hlt']⟩
    obtain⟨n,o,hnb,hix,hld⟩:=hsl.elem (P:=Tryz.prog) hlt' (t:=22) (t':=43) ty22.2.2.2.1 ty43.1
    have hld:=hld M' (ha.le hb)
    have hw2:IntKind.i64.wrap ((i:Int)+1)=((i+1:Nat):Int):=by rw[wrap_i64 (by omega) (by omega)];omega
    refine xs9 gy2 e0 e1 e5 hlen hlt hle hix hld ?_;try exact⟨⟩
    refine CN_fok (f32 ρ ((hrec i r hr).agr (ha.le hb)) (by omega)) ?_
    rintro⟨v',M'',nx''⟩ ⟨h1,h2,h3⟩
    simp only at h1 h2 h3
    subst h1
    cases hf:fewR r with
    | false =>
      refine xs6 gy2 e0 e1 e5 hf @Ret.eq_1 ?_;try exact⟨⟩
      refine⟨?_,ha.trans (h2.le (by omega)),by omega⟩
      have h1:r ∈ l.take (most+1):=List.mem_of_getElem? (i:=i) (by rw[List.getElem?_take,if_pos (by omega)];exact hr)
      congr 1
      symm
      rw[fewS,Bool.and_eq_false_iff]
      left
      rw[List.all_eq_false]
      exact⟨r,h1,by simp[hf]⟩
    | true =>
      refine xs6 gy2 e0 e1 e5 hf hw2 ?_;try exact⟨⟩
      exact⟨l.length - (i+1),by omega,i+1,by omega,by omega,rfl,by rw[few_step hr,hall,hf];rfl,rfl,ha.trans (h2.le (by omega)),by omega⟩
   ·refine xs8 gy2 e0 e1 e5 hlen hlt hle @Ret.eq_1 ?_;try exact⟨⟩
    refine⟨?_,ha,by omega⟩
    congr 1
    have h1:decide (l.length<=most)=false:=decide_eq_false (by omega)
    have h2:decide ((l.length:Int)<=most)=false:=decide_eq_false (by omega)
    rw[fewS,h1,h2,Bool.and_false]
  ·refine xs7 gy2 e0 e1 e5 hlen hlt @Ret.eq_1 ?_;try exact⟨⟩
   refine⟨?_,ha,by omega⟩
   congr 1
   have hi':i=l.length:=by omega
   subst hi'
   rw[List.take_length]at hall
   rw[fewS,List.take_of_length_le (by omega),hall]
   simp
end Go.Xs
namespace Go.Xs
open Go.Proofs
set_option maxRecDepth 100000
set_option maxHeartbeats 4000000
def kdNum (k:Int):Int:=if k=2\/k=3 then 1 else if k=4 then 2 else 0
def kdLeast (k:Int):Int:=if k=5 then 1 else 0
def kdMost (k:Int):Int:=if k=5 then 1 else if k=6\/k=7 then 32 else 0
def kdAsk (kb:Nat) (k:Int):XV :=
 if k=1 then .fn (.func 321) [] [] else if k=2 then .fn (.func 322) [] [] else if k=3 then .fn (.func 323) [] [] else if k=4 then .fn (.func 324) [] [] else
 if k=5 then .fn (.func 325) [] [.mp kb 0] else if k=6 then .fn (.func 326) [] [.mp kb 0] else .fn (.func 327) [] [.mp kb 0]
def kdV (kb:Nat) (k:Int):List XV:=[.int .i64 (kdNum k),.int .i64 (kdLeast k),.int .i64 (kdMost k),kdAsk kb k]
def tabV (kb:Nat):List XV:=[.int .i64 0,.int .i64 0,.int .i64 0,.nilf]++kdV kb 1++kdV kb 2++kdV kb 3++kdV kb 4++kdV kb 5++kdV kb 6++kdV kb 7
def EvAt (M:Hp) (kb:Nat):Prop:=tget M kb=some (.row [.fn (.func 319) [] []])
theorem f303 (ρ:Rho) (M:Hp) (nx:Nat):FOk Tryz.prog ρ 303 [] M nx fun r=>∃kb,r.1 = .agg (tabV kb)/\nx<=kb/\kb<r.2.2/\EvAt r.2.1 kb/\Agr nx M r.2.1:=by
 refine FOk.walk (m:=13) (rs:=[.cell 0 398]) follows Tryz.func303 (by kernel_rfl) rfl rfl rfl ?_
 conv in W _ _ _ _ _ _ _=>arg 4;whnf
 refine xs1 gy3 ?_;try exact⟨⟩
 refine⟨nx+1,?_,by omega,by omega,?_,?_⟩
 ·simp[tabV,kdV,kdNum,kdLeast,kdMost,kdAsk]
 ·simp only[EvAt,tget_tset]
  rw[if_neg (by omega)]
  simp
 ·exact((((Agr.refl _ _).set (by omega) _).set (by omega) _).set (by omega) _).set (by omega) _
theorem f276 (ρ:Rho) (M:Hp) (nx:Nat) (k:Int) (h0:1<=k) (h1:k<=7):FOk Tryz.prog ρ 276 [.int .i64 k] M nx fun r=>∃kb,r.1 = .tup [.agg (kdV kb k),.bool true]/\nx<=kb/\kb<r.2.2/\EvAt r.2.1 kb/\Agr nx M r.2.1:=by
 refine FOk.walk (m:=14) (rs:=[.cell 2 370,.tmp 3]) follows Tryz.func276 (by kernel_rfl) rfl rfl rfl ?_
 conv in W _ _ _ _ _ _ _=>arg 4;whnf
 have c1:¬ k<1:=by omega
 have c2:¬ 8<=k:=by omega
 refine xs3 gy4 c1 c2 ?_;try exact⟨⟩
 refine CN_fok (f303 ρ _ _) ?_
 rintro⟨v,M',nx'⟩ ⟨kb,h1,h2,h3,h4,h5⟩
 simp only at h1 h2 h3 h4 h5
 subst h1
 have hk:∃j:Nat,k=j/\1<=j/\j<=7:=⟨k.toNat,by omega,by omega,by omega⟩
 obtain⟨j,rfl,j1,j2⟩:=hk
 have hd:(tabV kb).drop ((j:Int).toNat*4)=kdV kb j++(tabV kb).drop ((j:Int).toNat*4+4):=by
  have:j=1\/j=2\/j=3\/j=4\/j=5\/j=6\/j=7:=by omega
  rcases this with rfl | rfl | rfl | rfl | rfl | rfl | rfl<;>rfl
 have hoc:ocC (some (4,true)) ((tabV kb).drop ((j:Int).toNat*4))=some (.agg (kdV kb j)):=by rw[hd];rfl
 have hpl:plain1 (kdAsk kb j)=true:=by
  have:j=1\/j=2\/j=3\/j=4\/j=5\/j=6\/j=7:=by omega
  rcases this with rfl | rfl | rfl | rfl | rfl | rfl | rfl<;>rfl
 have hM:tget M' nx=some (.row [.int .i64 0,.int .i64 0,.int .i64 0,.nilf]):=by
  rw[h5 nx (by omega),tget_tset,if_pos rfl]
 have hcl:cellsOf (kdAsk kb j)=[kdAsk kb j]:=by
  have:j=1\/j=2\/j=3\/j=4\/j=5\/j=6\/j=7:=by omega
  rcases this with rfl | rfl | rfl | rfl | rfl | rfl | rfl<;>rfl
 refine xs6 gy4 hoc @kdV.eq_1 hM hpl hcl ?_;try exact⟨⟩
 refine⟨kb,rfl,by omega,by omega,?_,?_⟩
 ·unfold EvAt at h4 ⊢
  rw[tget_tset,if_neg (by omega)];exact h4
 ·exact(((Agr.refl nx M).set (Nat.le_refl _) _).trans (h5.le (by omega))).set (Nat.le_refl _) _
end Go.Xs
namespace Go.Xs
open Go.Proofs
set_option maxRecDepth 100000
set_option maxHeartbeats 4000000
theorem f321 (ρ:Rho) {M:Hp} {nx:Nat} (k a b' x y:Int) (v:XV) (hv:cellsOf v=[v]/\plain1 v=true):FOk Tryz.prog ρ 321 [.agg [.int .i64 k,.int .u64 a,.int .u64 b',v],.int .u64 x,.int .u64 y] M nx (Ret nx M (.bool true)):=by
 refine FOk.walk (m:=7) (rs:=[.tmp 6]) follows Tryz.func321 (by kernel_rfl) rfl rfl rfl ?_
 conv in W _ _ _ _ _ _ _=>arg 4;whnf
 refine xs4 gy0 hv.1 hv.2 @Ret.eq_1 ?_;try exact⟨⟩
 exact⟨(Agr.refl _ _).set (Nat.le_refl _) _,by omega⟩
theorem f322 (ρ:Rho) {M:Hp} {nx:Nat} (k a b' x y:Int) (v:XV) (hv:cellsOf v=[v]/\plain1 v=true):FOk Tryz.prog ρ 322 [.agg [.int .i64 k,.int .u64 a,.int .u64 b',v],.int .u64 x,.int .u64 y] M nx (Ret nx M (.bool (decide (x<=a)))):=by
 refine FOk.walk (m:=11) (rs:=[.tmp 6]) follows Tryz.func322 (by kernel_rfl) rfl rfl rfl ?_
 conv in W _ _ _ _ _ _ _=>arg 4;whnf
 refine xs4 gy0 hv.1 hv.2 @Ret.eq_1 ?_;try exact⟨⟩
 exact⟨(Agr.refl _ _).set (Nat.le_refl _) _,by omega⟩
theorem f323 (ρ:Rho) {M:Hp} {nx:Nat} (k a b' x y:Int) (v:XV) (hv:cellsOf v=[v]/\plain1 v=true):FOk Tryz.prog ρ 323 [.agg [.int .i64 k,.int .u64 a,.int .u64 b',v],.int .u64 x,.int .u64 y] M nx (Ret nx M (.bool (decide (y<=a)))):=by
 refine FOk.walk (m:=11) (rs:=[.tmp 6]) follows Tryz.func323 (by kernel_rfl) rfl rfl rfl ?_
 conv in W _ _ _ _ _ _ _=>arg 4;whnf
 refine xs4 gy0 hv.1 hv.2 @Ret.eq_1 ?_;try exact⟨⟩
 exact⟨(Agr.refl _ _).set (Nat.le_refl _) _,by omega⟩
theorem f324 (ρ:Rho) {M:Hp} {nx:Nat} (k a b' x y:Int) (v:XV) (hv:cellsOf v=[v]/\plain1 v=true) (ha:a≠0):FOk Tryz.prog ρ 324 [.agg [.int .i64 k,.int .u64 a,.int .u64 b',v],.int .u64 x,.int .u64 y] M nx (Ret nx M (.bool (decide (y.tmod a=b')))):=by
 refine FOk.walk (m:=14) (rs:=[.tmp 6]) follows Tryz.func324 (by kernel_rfl) rfl rfl rfl ?_
 conv in W _ _ _ _ _ _ _=>arg 4;whnf
 refine xs4 gy0 hv.1 hv.2 @Ret.eq_1 ?_;try exact⟨⟩
 exact⟨(Agr.refl _ _).set (Nat.le_refl _) _,by omega⟩
end Go.Xs
namespace Go.Xs
open Go.Proofs
set_option maxRecDepth 100000
set_option maxHeartbeats 4000000
def idxG {α:Type} (q:α->Bool):List α->Nat->Int
 | [],_=>-1
 | e::es,i=>if q e then (i:Int) else idxG q es (i+1)
theorem idxG_step {α:Type} {q:α->Bool} {ps:List α} {i:Nat} {e:α} (h:ps[i]?=some e):idxG q (ps.drop i) i=if q e then (i:Int) else idxG q (ps.drop (i+1)) (i+1):=by
 obtain⟨h1,rfl⟩:=List.getElem?_eq_some_iff.1 h
 rw[List.drop_eq_getElem_cons h1]
 rfl
theorem idxG_any {α:Type} {q:α->Bool} (ps:List α) (i:Nat):decide (0<=idxG q ps i)=ps.any q:=by
 induction ps generalizing i with
 | nil=>rfl
 | cons e es ih =>
   by_cases h:q e=true
   ·have h1:idxG q (e::es) i=i:=if_pos h
    simp[h1,h]
   ·have h1:idxG q (e::es) i=idxG q es (i+1):=if_neg h
    have h':q e=false:=by simpa using h
    simp only[h1,ih,List.any_cons,h',Bool.false_or]
theorem f318 (ρ:Rho) {ps:List Ex} {M:Hp} {nx b:Nat} {v:XV} {row:List XV} (hsl:SlAt M b v 4 ps.length row) (hps:ExsAt M b ps row) (hb:b<=nx) {g:Nat} {first caps:List XV} (q:Ex->Bool)
 (hq:∀e ∈ ps,∀(M':Hp) (nx':Nat) (cs:List XV),Agr nx M M'->nx<=nx'->ExAt M' b e cs->FOk Tryz.prog ρ g (first++[.agg cs]++caps) M' nx' (Ret nx' M' (.bool (q e)))) :
 FOk Tryz.prog ρ 318 [v,.fn (.func g) first caps] M nx (Ret nx M (.int .i64 (idxG q ps 0))):=by
 have hlen:=fun N=>hsl.len (P:=Tryz.prog) (t:=38) ty38.2.2.2.2.2 N
 have hz:=hsl.1
 refine FOk.walk (m:=19) (rs:=[.tmp 4]) follows Tryz.func318 (by kernel_rfl) rfl rfl rfl ?_
 conv in W _ _ _ _ _ _ _=>arg 4;whnf
 refine xs2 gy0 hlen ?_;try exact⟨⟩
 refine W_loop (fun m s=>∃i:Nat,i<=ps.length/\m=ps.length - i/\idxG q (ps.drop i) i=idxG q ps 0/\tget s.env 0=some v/\tget s.env 1=some (.fn (.func g) first caps)/\tget s.env 7=some (.int .i64 ps.length)/\tget s.env 8=some (.int .i64 i)/\Agr nx M s.M/\nx<=s.nx)
  ps.length ⟨0,by omega,by omega,by simp,?_⟩ ?_
 ·refine xs1 gy0 ?_;try exact⟨⟩
  exact⟨Agr.refl _ _,by omega⟩
 ·rintro m ⟨env,M',nx'⟩ ⟨i,hi,hm,hid,e0,e1,e7,e8,ha,hn⟩
  simp only at e0 e1 e7 e8 ha hn
  by_cases hlt:(i:Int)<ps.length
  ·have hlt':i<ps.length:=by omega
   obtain⟨e,hei⟩:∃e,ps[i]?=some e:=⟨ps[i],by simp[hlt']⟩
   obtain⟨n,o,hnb,hix,hld⟩:=hsl.elem (P:=Tryz.prog) hlt' (t:=38) (t':=40) ty38.2.2.2.1 ty40.1
   have hld:=hld M' (ha.le hb)
   have hw2:IntKind.i64.wrap ((i:Int)+1)=((i+1:Nat):Int):=by rw[wrap_i64 (by omega) (by omega)];omega
   have hst:=idxG_step (q:=q) hei
   refine xs8 gy0 e0 e1 e7 e8 hlt hix hld ?_;try exact⟨⟩
   refine CN_fok (hq e (List.mem_of_getElem? hei) M' _ _ ha (by omega) ((hps.get hei).agr (ha.le hb))) ?_
   rintro⟨v',M'',nx''⟩ ⟨h1,h2,h3⟩
   simp only at h1 h2 h3
   subst h1
   cases hqe:q e with
   | true =>
     refine xs7 gy0 e0 e1 e7 e8 hqe @Ret.eq_1 ?_;try exact⟨⟩
     refine⟨?_,ha.trans (h2.le (by omega)),by omega⟩
     rw[<-hid,hst,hqe]
     rfl
   | false =>
     refine xs7 gy0 e0 e1 e7 e8 hqe hw2 ?_;try exact⟨⟩
     exact⟨ps.length - (i+1),by omega,i+1,by omega,rfl,by rw[<-hid,hst,hqe];rfl,rfl,ha.trans (h2.le (by omega)),by omega⟩
  ·have hd:ps.drop i=[]:=List.drop_eq_nil_of_le (by omega)
   refine xs7 gy0 e0 e1 e7 e8 hlt @Ret.eq_1 ?_;try exact⟨⟩
   refine⟨?_,ha,by omega⟩
   rw[<-hid,hd]
   rfl
theorem f301 (ρ:Rho) {ps:List Ex} {M:Hp} {nx b:Nat} {v:XV} {row:List XV} (hsl:SlAt M b v 4 ps.length row) (hps:ExsAt M b ps row) (hb:b<=nx) {g:Nat} {first caps:List XV} (q:Ex->Bool)
 (hq:∀e ∈ ps,∀(M':Hp) (nx':Nat) (cs:List XV),Agr nx M M'->nx<=nx'->ExAt M' b e cs->FOk Tryz.prog ρ g (first++[.agg cs]++caps) M' nx' (Ret nx' M' (.bool (q e)))) :
 FOk Tryz.prog ρ 301 [v,.fn (.func g) first caps] M nx (Ret nx M (.bool (ps.any q))):=by
 refine FOk.walk (m:=9) (rs:=[.tmp 4]) follows Tryz.func301 (by kernel_rfl) rfl rfl rfl ?_
 conv in W _ _ _ _ _ _ _=>arg 4;whnf
 refine xs1 gy5 ?_;try exact⟨⟩
 refine CN_fok (f318 ρ hsl hps (by omega) q fun e he M' nx' cs ha hn=>hq e he M' nx' cs (ha.le (by omega)) (by omega)) ?_
 rintro⟨v',M'',nx''⟩ ⟨h1,h2,h3⟩
 simp only at h1 h2 h3
 subst h1
 refine xs2 gy5 @Ret.eq_1 ?_;try exact⟨⟩
 exact⟨by rw[idxG_any],h2.le (by omega),by omega⟩
def okNode (k a b:Int) (n:Nat):Bool :=
 decide (1<=k)&&decide (k<8) && !(decide ((n:Int)<kdLeast k)) && !(decide (kdMost k<n)) && !(decide (kdNum k<2)&&decide (0<b)) && !(decide (kdNum k<1)&&decide (0<a)) && !(decide (kdNum k=2)&&decide (a<=b))
mutual
def exOk:Ex->Bool
 | .mk k a b ps=>okNode k a b ps.length&&exsOk ps
def exsOk:List Ex->Bool
 | []=>true
 | e::es=>exOk e&&exsOk es
end
theorem exsOk_any:∀(ps:List Ex),exsOk ps = !(ps.any fun e=>!(exOk e))
 | []=>rfl
 | e::es=>by
   simp only[exsOk,List.any_cons,exsOk_any es]
   cases exOk e<;>simp
theorem f276n (ρ:Rho) (M:Hp) (nx:Nat) (k:Int) (h:¬ (1<=k/\k<8)):FOk Tryz.prog ρ 276 [.int .i64 k] M nx (Ret nx M (.tup [.agg [.int .i64 0,.int .i64 0,.int .i64 0,.nilf],.bool false])):=by
 refine FOk.walk (m:=14) (rs:=[.cell 2 370,.tmp 3]) follows Tryz.func276 (by kernel_rfl) rfl rfl rfl ?_
 conv in W _ _ _ _ _ _ _=>arg 4;whnf
 by_cases c1:k<1
 ·refine xs3 gy4 c1 @Ret.eq_1 ?_;try exact⟨⟩
  exact⟨((Agr.refl _ _).set (by omega) _).set (by omega) _,by omega⟩
 ·have c2:8<=k:=by omega
  refine xs4 gy4 c1 c2 @Ret.eq_1 ?_;try exact⟨⟩
  exact⟨((Agr.refl _ _).set (by omega) _).set (by omega) _,by omega⟩
end Go.Xs
namespace Go.Xs
open Go.Proofs
set_option maxRecDepth 100000
set_option maxHeartbeats 4000000
theorem f302 (ρ:Rho) {e:Ex} {M:Hp} {nx b:Nat} {cs:List XV} (he:ExAt M b e cs)
 (h:∀(M':Hp) (nx':Nat),Agr nx M M'->nx<=nx'->FOk Tryz.prog ρ 273 [.agg cs] M' nx' (Ret nx' M' (.bool (exOk e)))) :
 FOk Tryz.prog ρ 302 [.agg cs] M nx (Ret nx M (.bool (!(exOk e)))):=by
 have he0:=he
 obtain⟨k,x,y,ps⟩:=e
 simp only[ExAt]at he0
 obtain⟨v,row,rfl,hsl,hps⟩:=he0
 have hv:=hsl.cell
 refine FOk.walk (m:=6) (rs:=[.tmp 2]) follows Tryz.func302 (by kernel_rfl) rfl rfl rfl ?_
 conv in W _ _ _ _ _ _ _=>arg 4;whnf
 refine xs3 gy6 hv.1 hv.2 ?_;try exact⟨⟩
 refine CN_fok (h _ _ ((Agr.refl _ _).set (Nat.le_refl _) _) (by omega)) ?_
 rintro⟨v',M',nx'⟩ ⟨h1,h2,h3⟩
 simp only at h1 h2 h3
 subst h1
 refine xs2 gy6 @Ret.eq_1 ?_;try exact⟨⟩
 exact⟨((Agr.refl _ _).set (Nat.le_refl _) _).trans (h2.le (by omega)),by omega⟩
theorem f273 (ρ:Rho):∀(sz:Nat) (e:Ex) (M:Hp) (nx b:Nat) (cs:List XV),exN e<sz->ExAt M b e cs->b<=nx->FOk Tryz.prog ρ 273 [.agg cs] M nx (Ret nx M (.bool (exOk e))):=by
 intro sz
 induction sz with
 | zero=>intro e M nx b cs h;omega
 | succ sz ih =>
 intro e M nx b cs hsz he hb
 obtain⟨k,x,y,ps⟩:=e
 simp only[ExAt]at he
 obtain⟨v,row,rfl,hsl,hps⟩:=he
 have hv:=hsl.cell
 have hlen:=fun N=>hsl.len (P:=Tryz.prog) (t:=38) ty38.2.2.2.2.2 N
 have h273:∀e ∈ ps,∀(M':Hp) (nx':Nat) (cs:List XV),nx<=nx'->ExAt M' b e cs->FOk Tryz.prog ρ 302 ([]++[.agg cs]++[]) M' nx' (Ret nx' M' (.bool (!(exOk e)))):=by
  intro e hm M' nx' cs hn he'
  refine f302 ρ he' fun M'' nx'' ha hn'=>ih e M'' nx'' b cs ?_ (he'.agr (ha.le (by omega))) (by omega)
  have:=exsN_mem hm
  simp only[exN]at hsz
  omega
 refine FOk.walk (m:=65) (rs:=[.tmp 2]) follows Tryz.func273 (by kernel_rfl) rfl rfl rfl ?_
 conv in W _ _ _ _ _ _ _=>arg 4;whnf
 by_cases hk:1<=k/\k<8
 ·refine xs3 gy7 hv.1 hv.2 ?_;try exact⟨⟩
  refine CN_fok (f276 ρ _ _ k hk.1 (by omega)) ?_
  rintro⟨v',M',nx'⟩ ⟨kb,h1,h2,h3,h4,h5⟩
  simp only at h1 h2 h3 h4 h5
  subst h1
  have hM:tget M' nx=some (.row [.int .i64 k,.int .u64 x,.int .u64 y,v]):=by rw[h5 nx (by omega),tget_tset,if_pos rfl]
  have ha:Agr nx M M':=((Agr.refl nx M).set (Nat.le_refl _) _).trans (h5.le (by omega))
  clear h5
  have hpl:plain1 (kdAsk kb k)=true:=by
   have:k=1\/k=2\/k=3\/k=4\/k=5\/k=6\/k=7:=by omega
   rcases this with rfl | rfl | rfl | rfl | rfl | rfl | rfl<;>rfl
  have ha2:∀(o o':XObj),Agr nx M (tset (tset M' (nx'+3) o) (nx'+3) o'):=fun o o'=>(ha.set (by omega) _).set (by omega) _
  have hn2:nx<=nx'+25:=by omega
  have no:exOk (.mk k x y ps)=false->∀(M1:Hp) (n1:Nat),Agr nx M M1->nx<=n1->Ret nx M (.bool (exOk (.mk k x y ps))) (.bool false,M1,n1):=fun h M1 n1 h1 h2=>by rw[h];exact .mk h1 h2
  have yes:okNode k x y ps.length=true->exOk (.mk k x y ps)=exsOk ps:=fun h=>by simp only[exOk,h,Bool.true_and]
  have go:∀(M1:Hp) (n1:Nat),nx<=n1->Agr nx M M1->FOk Tryz.prog ρ 301 [v,.fn (.func 302) [] []] M1 n1 (Ret n1 M1 (.bool (!(exsOk ps)))):=fun M1 n1 hn hA=>by
   have:=f301 ρ (nx:=n1) (hsl.agr (hA.le hb)) (hps.agr (hA.le hb)) (by omega) (g:=302) (first:=[]) (caps:=[]) (fun e=>!(exOk e)) fun e he M2 n2 cs _ hn2 he2=>h273 e he M2 n2 cs (by omega) he2
   rw[exsOk_any,Bool.not_not]
   exact this
  clear h273 ih hsz
  by_cases c1:(ps.length:Int)<kdLeast k
  ·refine xs6 gy7 hM hlen @kdV.eq_1 hpl c1 ?_;try exact⟨⟩
   exact no (by simp[exOk,okNode,c1]) _ _ (ha2 _ _) (by omega)
  by_cases c2:kdMost k<(ps.length:Int)
  ·refine xs7 gy7 hM hlen @kdV.eq_1 hpl c1 c2 ?_;try exact⟨⟩
   exact no (by simp[exOk,okNode,c2]) _ _ (ha2 _ _) (by omega)
  have hN:kdNum k=0\/kdNum k=1\/kdNum k=2:=by
   unfold kdNum
   split
   ·exact .inr (.inl rfl)
   ·split
    ·exact .inr (.inr rfl)
    ·exact .inl rfl
  rcases hN with hN | hN | hN
  ·by_cases c4:0<y
   ·refine xs9 gy7 hM hlen @kdV.eq_1 hpl c1 c2 hN c4 ?_;try exact⟨⟩
    exact no (by simp[exOk,okNode,hN,c4]) _ _ (ha2 _ _) (by omega)
   by_cases c6:0<x
   ·refine xs10 gy7 hM hlen @kdV.eq_1 hpl c1 c2 hN c4 c6 ?_;try exact⟨⟩
    exact no (by simp[exOk,okNode,hN,c6]) _ _ (ha2 _ _) (by omega)
   refine xs10 gy7 hM hlen @kdV.eq_1 hpl c1 c2 hN c4 c6 ?_;try exact⟨⟩
   refine CN_fok (go _ _ (by omega) (ha2 _ _)) ?_
   rintro⟨v',M2,n2⟩ ⟨g1,g2,g3⟩
   simp only at g1 g2 g3
   subst g1
   refine xs2 gy7 @Ret.eq_1 ?_;try exact⟨⟩
   exact⟨by rw[yes (by simp[okNode,hk.1,hk.2,c1,c2,hN,c4,c6]),Bool.not_not],(ha2 _ _).trans (g2.le (by omega)),by omega⟩
  ·by_cases c4:0<y
   ·refine xs9 gy7 hM hlen @kdV.eq_1 hpl c1 c2 hN c4 ?_;try exact⟨⟩
    exact no (by simp[exOk,okNode,hN,c4]) _ _ (ha2 _ _) (by omega)
   refine xs9 gy7 hM hlen @kdV.eq_1 hpl c1 c2 hN c4 ?_;try exact⟨⟩
   refine CN_fok (go _ _ (by omega) (ha2 _ _)) ?_
   rintro⟨v',M2,n2⟩ ⟨g1,g2,g3⟩
   simp only at g1 g2 g3
   subst g1
   refine xs2 gy7 @Ret.eq_1 ?_;try exact⟨⟩
   exact⟨by rw[yes (by simp[okNode,hk.1,hk.2,c1,c2,hN,c4]),Bool.not_not],(ha2 _ _).trans (g2.le (by omega)),by omega⟩
  ·by_cases c8:x<=y
   ·refine xs9 gy7 hM hlen @kdV.eq_1 hpl c1 c2 hN c8 ?_;try exact⟨⟩
    exact no (by simp[exOk,okNode,hN,c8]) _ _ (ha2 _ _) (by omega)
   refine xs9 gy7 hM hlen @kdV.eq_1 hpl c1 c2 hN c8 ?_;try exact⟨⟩
   refine CN_fok (go _ _ (by omega) (ha2 _ _)) ?_
   rintro⟨v',M2,n2⟩ ⟨g1,g2,g3⟩
   simp only at g1 g2 g3
   subst g1
   refine xs2 gy7 @Ret.eq_1 ?_;try exact⟨⟩
   exact⟨by rw[yes (by simp[okNode,hk.1,hk.2,c1,c2,hN,c8]),Bool.not_not],(ha2 _ _).trans (g2.le (by omega)),by omega⟩
 ·refine xs3 gy7 hv.1 hv.2 ?_;try exact⟨⟩
  refine CN_fok (f276n ρ _ _ k hk) ?_
  rintro⟨v',M',nx'⟩ ⟨h1,h2,h3⟩
  simp only at h1 h2 h3
  subst h1
  refine xs2 gy7 @Ret.eq_1 ?_;try exact⟨⟩
  have:exOk (.mk k x y ps)=false:=by
   simp only[exOk,okNode]
   by_cases h1:1<=k
   ·have:¬ k<8:=by omega
    simp[this]
   ·simp[h1]
  rw[this]
  exact⟨rfl,((((Agr.refl _ _).set (Nat.le_refl _) _).trans (h2.le (by omega))).set (by omega) _).set (by omega) _,by omega⟩
end Go.Xs
namespace Go.Xs
open Go.Proofs
set_option maxRecDepth 100000
set_option maxHeartbeats 4000000
mutual
theorem ndE_eq:∀(e:Ex) (l:Int),0<=ndE e l->ndE e l=l - exN e
 | .mk _ _ _ ps,l,h=>by
   simp only[ndE,exN]at h ⊢
   have:=ndL_eq ps (l - 1) h
   omega
theorem ndL_eq:∀(es:List Ex) (l:Int),0<=ndL es l->ndL es l=l - exsN es
 | [],l,h=>by simp[ndL,exsN]
 | e::es,l,h=>by
   simp only[ndL,exsN]at h ⊢
   split at h
   ·omega
   ·rename_i hl
    rw[if_neg hl]
    have h2:=ndL_eq es _ h
    have h1:0<=ndE e l:=by omega
    have:=ndE_eq e l h1
    omega
end
theorem few_count {e:Ex} (h:0<=ndE e 60):exN e<=60:=by have:=ndE_eq e 60 h;omega
mutual
def exD:Ex->Nat
 | .mk _ _ _ ps=>exsD ps+1
def exsD:List Ex->Nat
 | []=>0
 | e::es=>max (exD e) (exsD es)
end
mutual
theorem exD_le:∀(e:Ex),exD e<=exN e
 | .mk _ _ _ ps=>by simp only[exD,exN];have:=exsD_le ps;omega
theorem exsD_le:∀(es:List Ex),exsD es<=exsN es
 | []=>by simp[exsD]
 | e::es=>by simp only[exsD,exsN];have:=exD_le e;have:=exsD_le es;omega
end
theorem exsN_drop {ps:List Ex} {i:Nat} {e:Ex} (h:ps[i]?=some e):exsN (ps.drop i)=exN e+exsN (ps.drop (i+1)):=by
 obtain⟨h1,rfl⟩:=List.getElem?_eq_some_iff.1 h
 rw[List.drop_eq_getElem_cons h1];rfl
theorem exsD_drop {ps:List Ex} {i:Nat} {e:Ex} (h:ps[i]?=some e):exsD (ps.drop i)=max (exD e) (exsD (ps.drop (i+1))):=by
 obtain⟨h1,rfl⟩:=List.getElem?_eq_some_iff.1 h
 rw[List.drop_eq_getElem_cons h1];rfl
theorem exsN_drop_le (ps:List Ex) (i:Nat):exsN (ps.drop i)<=exsN ps:=by
 induction ps generalizing i with
 | nil=>simp
 | cons e es ih =>
   cases i with
   | zero=>exact Nat.le_refl _
   | succ i=>simp only[List.drop_succ_cons,exsN];have:=ih i;omega
theorem f275 (ρ:Rho):∀(sz:Nat) (e:Ex) (M:Hp) (nx b:Nat) (cs:List XV),exN e<sz->ExAt M b e cs->b<=nx->exN e<=1000->FOk Tryz.prog ρ 275 [.agg cs] M nx (Ret nx M (.int .i64 (exN e))):=by
 intro sz
 induction sz with
 | zero=>intro e M nx b cs h;omega
 | succ sz ih =>
 intro e M nx b cs hsz he hb hcn
 obtain⟨k,x,y,ps⟩:=e
 simp only[ExAt]at he
 obtain⟨v,row,rfl,hsl,hps⟩:=he
 have hv:=hsl.cell
 have hlen:=fun N=>hsl.len (P:=Tryz.prog) (t:=38) ty38.2.2.2.2.2 N
 have hz:=hsl.1
 simp only[exN]at hcn hsz
 refine FOk.walk (m:=19) (rs:=[.tmp 2]) follows Tryz.func275 (by kernel_rfl) rfl rfl rfl ?_
 conv in W _ _ _ _ _ _ _=>arg 4;whnf
 refine xs4 gy0 hv.1 hv.2 hlen ?_;try exact⟨⟩
 refine W_loop (fun m s=>∃(i c:Nat),i<=ps.length/\m=ps.length - i/\c+exsN (ps.drop i)=exsN ps+1/\tget s.env 3=some (.int .i64 c)/\tget s.env 7=some v/\tget s.env 8=some (.int .i64 ps.length)/\tget s.env 9=some (.int .i64 i)/\Agr nx M s.M/\nx<=s.nx)
  ps.length ⟨0,1,by omega,by omega,by simp;omega,?_⟩ ?_
 ·refine xs1 gy0 ?_;try exact⟨⟩
  exact⟨(Agr.refl _ _).set (by omega) _,by omega⟩
 ·rintro m ⟨env,M',nx'⟩ ⟨i,c,hi,hm,hc,e3,e7,e8,e9,ha,hn⟩
  simp only at e3 e7 e8 e9 ha hn
  by_cases hlt:(i:Int)<ps.length
  ·have hlt':i<ps.length:=by omega
   obtain⟨e,hei⟩:∃e,ps[i]?=some e:=⟨ps[i],by simp[hlt']⟩
   obtain⟨n,o,hnb,hix,hld⟩:=hsl.elem (P:=Tryz.prog) hlt' (t:=38) (t':=40) ty38.2.2.2.1 ty40.1
   have hld:=hld M' (ha.le hb)
   have hw2:IntKind.i64.wrap ((i:Int)+1)=((i+1:Nat):Int):=by rw[wrap_i64 (by omega) (by omega)];omega
   have hdr:=exsN_drop hei
   have hdl:=exsN_drop_le ps i
   have hle:=exsN_mem (List.mem_of_getElem? hei)
   have hex:=(hps.get hei).agr (ha.le hb)
   have hw3:IntKind.i64.wrap ((c:Int)+exN e)=((c+exN e:Nat):Int):=by rw[wrap_i64 (by omega) (by omega)];omega
   generalize (row.drop (i*4)).take 4=ecs at hld hex
   have hec:∃a1 a2 a3 a4,ecs=[.int .i64 a1,.int .u64 a2,.int .u64 a3,a4]/\cellsOf a4=[a4]/\plain1 a4=true:=by
    obtain⟨k',x',y',ps'⟩:=e
    simp only[ExAt]at hex
    obtain⟨v',row',rfl,hsl',_⟩:=hex
    exact⟨_,_,_,_,rfl,hsl'.cell⟩
   obtain⟨a1,a2,a3,a4,rfl,p1,p2⟩:=hec
   refine xs8 gy0 e3 e7 e8 e9 hlt hix hld ?_;try exact⟨⟩
   refine CN_fok (ih e _ _ b _ (by omega) (hex.agr (((Agr.refl b M').set (by omega) _).set (by omega) _)) (by omega) (by omega)) ?_
   rintro⟨v',M'',nx''⟩ ⟨h1,h2,h3⟩
   simp only at h1 h2 h3
   subst h1
   refine xs7 gy0 e3 e7 e8 e9 hw2 hw3 ?_;try exact⟨⟩
   exact⟨ps.length - (i+1),by omega,i+1,c+exN e,by omega,rfl,by omega,rfl,rfl,((ha.set (by omega) _).set (by omega) _).trans (h2.le (by omega)),by omega⟩
  ·have hd:ps.drop i=[]:=List.drop_eq_nil_of_le (by omega)
   refine xs7 gy0 e3 e7 e8 e9 hlt @Ret.eq_1 ?_;try exact⟨⟩
   refine⟨?_,ha,by omega⟩
   rw[hd]at hc
   simp only[exsN]at hc
   simp only[exN]
   congr 1
   omega
theorem f274 (ρ:Rho):∀(sz:Nat) (e:Ex) (M:Hp) (nx b:Nat) (cs:List XV),exN e<sz->ExAt M b e cs->b<=nx->exN e<=1000->FOk Tryz.prog ρ 274 [.agg cs] M nx (Ret nx M (.int .i64 (exD e))):=by
 intro sz
 induction sz with
 | zero=>intro e M nx b cs h;omega
 | succ sz ih =>
 intro e M nx b cs hsz he hb hcn
 obtain⟨k,x,y,ps⟩:=e
 simp only[ExAt]at he
 obtain⟨v,row,rfl,hsl,hps⟩:=he
 have hv:=hsl.cell
 have hlen:=fun N=>hsl.len (P:=Tryz.prog) (t:=38) ty38.2.2.2.2.2 N
 have hz:=hsl.1
 simp only[exN]at hcn hsz
 refine FOk.walk (m:=20) (rs:=[.tmp 2]) follows Tryz.func274 (by kernel_rfl) rfl rfl rfl ?_
 conv in W _ _ _ _ _ _ _=>arg 4;whnf
 refine xs4 gy0 hv.1 hv.2 hlen ?_;try exact⟨⟩
 refine W_loop (fun m s=>∃(i c:Nat),i<=ps.length/\m=ps.length - i/\max c (exsD (ps.drop i))=exsD ps/\tget s.env 3=some (.int .i64 c)/\tget s.env 7=some v/\tget s.env 8=some (.int .i64 ps.length)/\tget s.env 9=some (.int .i64 i)/\Agr nx M s.M/\nx<=s.nx)
  ps.length ⟨0,0,by omega,by omega,by simp,?_⟩ ?_
 ·refine xs1 gy0 ?_;try exact⟨⟩
  exact⟨(Agr.refl _ _).set (by omega) _,by omega⟩
 ·rintro m ⟨env,M',nx'⟩ ⟨i,c,hi,hm,hc,e3,e7,e8,e9,ha,hn⟩
  simp only at e3 e7 e8 e9 ha hn
  by_cases hlt:(i:Int)<ps.length
  ·have hlt':i<ps.length:=by omega
   obtain⟨e,hei⟩:∃e,ps[i]?=some e:=⟨ps[i],by simp[hlt']⟩
   obtain⟨n,o,hnb,hix,hld⟩:=hsl.elem (P:=Tryz.prog) hlt' (t:=38) (t':=40) ty38.2.2.2.1 ty40.1
   have hld:=hld M' (ha.le hb)
   have hw2:IntKind.i64.wrap ((i:Int)+1)=((i+1:Nat):Int):=by rw[wrap_i64 (by omega) (by omega)];omega
   have hdr:=exsD_drop hei
   have hdl:=exD_le e
   have hds:=exsD_le ps
   have hle:=exsN_mem (List.mem_of_getElem? hei)
   have hex:=(hps.get hei).agr (ha.le hb)
   have hw3:max (c:Int) (exD e:Int)=((max c (exD e):Nat):Int):=by omega
   generalize (row.drop (i*4)).take 4=ecs at hld hex
   have hec:∃a1 a2 a3 a4,ecs=[.int .i64 a1,.int .u64 a2,.int .u64 a3,a4]/\cellsOf a4=[a4]/\plain1 a4=true:=by
    obtain⟨k',x',y',ps'⟩:=e
    simp only[ExAt]at hex
    obtain⟨v',row',rfl,hsl',_⟩:=hex
    exact⟨_,_,_,_,rfl,hsl'.cell⟩
   obtain⟨a1,a2,a3,a4,rfl,p1,p2⟩:=hec
   refine xs8 gy0 e3 e7 e8 e9 hlt hix hld ?_;try exact⟨⟩
   refine CN_fok (ih e _ _ b _ (by omega) (hex.agr (((Agr.refl b M').set (by omega) _).set (by omega) _)) (by omega) (by omega)) ?_
   rintro⟨v',M'',nx''⟩ ⟨h1,h2,h3⟩
   simp only at h1 h2 h3
   subst h1
   refine xs7 gy0 e3 e7 e8 e9 hw2 hw3 ?_;try exact⟨⟩
   exact⟨ps.length - (i+1),by omega,i+1,max c (exD e),by omega,rfl,by omega,rfl,rfl,((ha.set (by omega) _).set (by omega) _).trans (h2.le (by omega)),by omega⟩
  ·have hd:ps.drop i=[]:=List.drop_eq_nil_of_le (by omega)
   refine xs7 gy0 e3 e7 e8 e9 hlt @Ret.eq_1 ?_;try exact⟨⟩
   refine⟨?_,ha,by omega⟩
   rw[hd]at hc
   simp only[exsD]at hc
   have hds:=exsD_le ps
   have hw4:IntKind.i64.wrap ((c:Int)+1)=(c:Int)+1:=wrap_i64 (by omega) (by omega)
   simp only[exD,hw4]
   congr 1
   omega
def exRight (e:Ex):Bool:=exOk e&&decide (exD e<=8)&&decide (exN e<=32)
theorem f230 (ρ:Rho) {e:Ex} {M:Hp} {nx b:Nat} {cs:List XV} (he:ExAt M b e cs) (hb:b<=nx) (hc:exN e<=1000):FOk Tryz.prog ρ 230 [.agg cs] M nx (Ret nx M (.bool (exRight e))):=by
 have he0:=he
 obtain⟨k,x,y,ps⟩:=e
 simp only[ExAt]at he0
 obtain⟨v,row,rfl,hsl,hps⟩:=he0
 have hv:=hsl.cell
 refine FOk.walk (m:=15) (rs:=[.tmp 2]) follows Tryz.func230 (by kernel_rfl) rfl rfl rfl ?_
 conv in W _ _ _ _ _ _ _=>arg 4;whnf
 refine xs3 gy0 hv.1 hv.2 ?_;try exact⟨⟩
 generalize hM1:tset M nx _=M1
 have ha:Agr nx M M1:=by rw[<-hM1];exact(Agr.refl _ _).set (Nat.le_refl _) _
 have hg:tget M1 nx=some (.row [.int .i64 k,.int .u64 x,.int .u64 y,v]):=by rw[<-hM1,tget_tset,if_pos rfl]
 clear hM1
 generalize hee:Ex.mk k x y ps=e at he hc ⊢
 refine CN_fok (f273 ρ _ e _ _ b _ (Nat.lt_succ_self _) (he.agr (ha.le hb)) (by omega)) ?_
 rintro⟨v',M2,n2⟩ ⟨h1,h2,h3⟩
 simp only at h1 h2 h3
 subst h1
 have hg2:tget M2 nx=some (.row [.int .i64 k,.int .u64 x,.int .u64 y,v]):=by rw[h2 nx (by omega),hg]
 have ha2:Agr nx M M2:=ha.trans (h2.le (by omega))
 cases h0:exOk e with
 | false =>
   refine xs3 gy0 h0 @Ret.eq_1 ?_;try exact⟨⟩
   exact⟨by simp[exRight,h0],ha2,by omega⟩
 | true =>
   refine xs3 gy0 h0 hg2 ?_;try exact⟨⟩
   refine CN_fok (f274 ρ _ e _ _ b _ (Nat.lt_succ_self _) (he.agr (ha2.le hb)) (by omega) hc) ?_
   rintro⟨v',M3,n3⟩ ⟨h1,h4,h5⟩
   simp only at h1 h4 h5
   subst h1
   have hg3:tget M3 nx=some (.row [.int .i64 k,.int .u64 x,.int .u64 y,v]):=by rw[h4 nx (by omega),hg2]
   have ha3:Agr nx M M3:=ha2.trans (h4.le (by omega))
   by_cases hd:(exD e:Int)<=8
   ·refine xs3 gy0 hd hg3 ?_;try exact⟨⟩
    refine CN_fok (f275 ρ _ e _ _ b _ (Nat.lt_succ_self _) (he.agr (ha3.le hb)) (by omega) hc) ?_
    rintro⟨v',M4,n4⟩ ⟨h1,h6,h7⟩
    simp only at h1 h6 h7
    subst h1
    refine xs2 gy0 @Ret.eq_1 ?_;try exact⟨⟩
    refine⟨?_,ha3.trans (h6.le (by omega)),by omega⟩
    have:decide (exD e<=8)=true:=decide_eq_true (by omega)
    rw[exRight,h0,this]
    congr 1
    simp
    omega
   ·refine xs4 gy0 hd hg3 @Ret.eq_1 ?_;try exact⟨⟩
    have:decide (exD e<=8)=false:=decide_eq_false (by omega)
    exact⟨by simp[exRight,h0,this],ha3,by omega⟩
end Go.Xs
namespace Go.Xs
noncomputable section
variable {P:Program} {ρ:Rho} {w w':World} {σ σ':Sig} {M N:Hp} {nx n g:Nat} {args:List XV} {R:Out->Prop}
def Cl (n:Nat) (M:Hp):Prop:=∀k o,tget M k=some o->k<n/\kltO n o=true
mutual
theorem VR.klt (h:∀k,n<=k->σ k=none):∀{x:XV} {v:Value},VR ρ σ x v->kltV n x=true
 | .un,_,_ | .udf,_,_ | .int ..,_,_ | .bool _,_,_ | .str _,_,_ | .si ..,_,_ | .nils,_,_ | .nilp,_,_ | .nilf,_,_ | .nilm,_,_ | .nili,_,_ | .txt _,_,_=>by simp only[kltV]
 | .sl k ..,v,hv | .mp k _,v,hv | .mm k,v,hv | .yd k,v,hv=>by
   simp only[kltV,Nat.blt_eq]
   refine Nat.lt_of_not_le fun hk=>?_
   simp only[VR,h k hk]at hv
   simp at hv
 | .agg cs,v,hv=>by
   simp only[VR]at hv
   obtain⟨us,_,r⟩:=hv
   simp only[kltV]
   exact VRs.klt h r
 | .tup cs,v,hv=>by
   simp only[VR]at hv
   obtain⟨us,_,r⟩:=hv
   simp only[kltV]
   exact VRs.klt h r
 | .fn f xs ys,v,hv=>by
   simp only[VR]at hv
   obtain⟨us,us',_,r,r'⟩:=hv
   unfold kltV
   rw[VRs.klt h r]
   exact VRs.klt h r'
 | .ifc t x,v,hv=>by
   simp only[VR]at hv
   obtain⟨u,_,r⟩:=hv
   simp only[kltV]
   exact VR.klt h r
theorem VRs.klt (h:∀k,n<=k->σ k=none):∀{xs:List XV} {us:List Value},VRs ρ σ xs us->kltVs n xs=true
 | [],_,_=>by simp only[kltVs]
 | x::xs,us,hv=>by
   simp only[VRs]at hv
   obtain⟨u,us',_,h1,h2⟩:=hv
   unfold kltVs
   rw[VR.klt h h1]
   exact VRs.klt h h2
end
theorem MEs.klt (h:∀k,n<=k->σ k=none):∀{xs:List (Nat×XV×XV)} {es:List MapEntry},MEs ρ σ xs es->kltO.go n xs=true
 | [],_,_=>by simp only[kltO.go]
 | (b,k,v)::xs,es,hv=>by
   simp only[MEs]at hv
   obtain⟨e,es',_,_,h1,h2,h3⟩:=hv
   unfold kltO.go
   rw[VR.klt h h1,VR.klt h h2]
   exact MEs.klt h h3
theorem OR.klt (h:∀k,n<=k->σ k=none) {p:Nat×Nat}:∀{o:XObj},OR ρ w σ p o->kltO n o=true
 | .cst cs,ho=>by
   simp only[OR]at ho
   obtain⟨us,t,fz,_,_,_,h5⟩:=ho
   simp only[kltO]
   exact VRs.klt h h5
 | .row cs,ho=>by
   simp only[OR]at ho
   obtain⟨us,t,fz,_,_,_,_,h5⟩:=ho
   simp only[kltO]
   exact VRs.klt h h5
 | .map es clock,ho=>by
   simp only[OR]at ho
   obtain⟨es',_,h2⟩:=ho
   simp only[kltO]
   exact MEs.klt h h2
 | .iter none _ _ _,_=>by simp only[kltO]
 | .iter (Option.some m) _ _ _,ho=>by
   simp only[kltO,Nat.blt_eq]
   refine Nat.lt_of_not_le fun hk=>?_
   simp only[OR,h m hk]at ho
   simp at ho
theorem Ok.cl (hok:Ok ρ w σ M) (h:∀k,n<=k->σ k=none):Cl n M:=fun k o hk=>by
 obtain⟨p,hp,ho⟩:=hok.obj k o hk
 refine⟨Nat.lt_of_not_le fun hn=>?_,ho.klt h⟩
 rw[h k hn]at hp;cases hp
theorem FOk0.closed (h:Cl nx M->kltVs nx args=true->FOk0 P ρ g args M nx R):FOk0 P ρ g args M nx R :=
 fun w σ vs hok hfree hargs=>h (hok.cl hfree) (VRs.klt hfree hargs) w σ vs hok hfree hargs
theorem FOk0.imp {R':Out->Prop} (h:FOk0 P ρ g args M nx R) (hR:∀w σ r v w',Ok ρ w σ M->(∀k,nx<=k->σ k=none)->R r->CPost ρ w σ M nx r v w'->∃r',R' r'/\CPost ρ w σ M nx r' v w'):FOk0 P ρ g args M nx R' :=
 fun w σ vs hok hfree hargs o a K Q hK=>h w σ vs hok hfree hargs o a K Q fun v w' ⟨r,hr,hp⟩=>hK v w' (hR w σ r v w' hok hfree hr hp)
theorem FOk.closed (h:Cl nx M->kltVs nx args=true->FOk P ρ g args M nx R):FOk P ρ g args M nx R:=by
 refine⟨FOk0.closed fun h1 h2=>(h h1 h2).1,fun hd ⟨r0,hr0⟩=>?_⟩
 by_cases hc:Cl nx M/\kltVs nx args=true
 ·exact(h hc.1 hc.2).2 hd ⟨r0,hr0⟩
 ·exact⟨r0,hr0,FOk0.closed fun h1 h2=>(hc ⟨h1,h2⟩).elim⟩
theorem FOk.mono {R':Out->Prop} (h:FOk P ρ g args M nx R) (hR:∀r,R r->R' r):FOk P ρ g args M nx R':=by
 refine⟨h.1.mono hR,fun hd ⟨r0,hr0⟩=>?_⟩
 by_cases hc:∃r,R r
 ·obtain⟨r,h1,h2⟩:=h.2 hd hc
  exact⟨r,hR r h1,h2⟩
 ·exact⟨r0,hr0,h.1.mono fun r hr=>(hc ⟨r,hr⟩).elim⟩
theorem FOk0.out (h:FOk0 P ρ g args M nx R):FOk0 P ρ g args M nx fun r=>R r/\Cl r.2.2 r.2.1/\kltV r.2.2 r.1=true:=h.imp fun w σ r v w' hok hfree hr hp=>by
 refine⟨r,⟨hr,?_⟩,hp⟩
 obtain⟨σ',h1,h2,h3,h4,h5⟩:=hp
 have hf:∀k,r.2.2<=k->σ' k=none:=fun k hk=>by
  rcases h5 k with e | e
  ·rw[e];exact hfree k (by omega)
  ·omega
 exact⟨h2.cl hf,h1.klt hf⟩
theorem FOk.out (h:FOk P ρ g args M nx R):FOk P ρ g args M nx fun r=>R r/\Cl r.2.2 r.2.1/\kltV r.2.2 r.1=true:=by
 refine⟨h.1.out,fun hd ⟨r0,hr0⟩=>?_⟩
 obtain⟨r,h1,h2⟩:=h.2 hd ⟨r0,hr0.1⟩
 by_cases hc:Cl r.2.2 r.2.1/\kltV r.2.2 r.1=true
 ·exact⟨r,⟨h1,hc⟩,h2⟩
 ·exact⟨r0,hr0,h2.out.mono fun x hx=>by
   obtain⟨rfl,hx⟩:=hx
   exact(hc hx).elim⟩
theorem Cl.sub (h:Cl nx M) {ks:List Nat}:Cl nx (subX M ks):=fun k o hk=>h k o (by rw[subX_get]at hk;split at hk;exact hk;cases hk)
theorem Cl.set (h:Cl n M) {k:Nat} {o:XObj} (hk:k<n) (ho:kltO n o=true):Cl n (tset M k o):=fun j x hj=>by
 rw[tget_tset]at hj
 split at hj
 ·rename_i e;subst e;cases hj;exact⟨hk,ho⟩
 ·exact h j x hj
mutual
theorem kltV.le {m:Nat} (hm:n<=m):∀{x:XV},kltV n x=true->kltV m x=true
 | .un,_ | .udf,_ | .int ..,_ | .bool _,_ | .str _,_ | .si ..,_ | .nils,_ | .nilp,_ | .nilf,_ | .nilm,_ | .nili,_ | .txt _,_=>by simp only[kltV]
 | .sl k ..,h | .mp k _,h | .mm k,h | .yd k,h=>by
   simp only[kltV,Nat.blt_eq]at h ⊢
   omega
 | .agg cs,h | .tup cs,h=>by
   simp only[kltV]at h ⊢
   exact kltVs.le hm h
 | .fn f xs ys,h=>by
   unfold kltV at h ⊢
   split at h<;>(try (cases h;done))
   rename_i h0
   rw[kltVs.le hm h0]
   exact kltVs.le hm h
 | .ifc t x,h=>by
   simp only[kltV]at h ⊢
   exact kltV.le hm h
theorem kltVs.le {m:Nat} (hm:n<=m):∀{xs:List XV},kltVs n xs=true->kltVs m xs=true
 | [],_=>by simp only[kltVs]
 | x::xs,h=>by
   unfold kltVs at h ⊢
   split at h<;>(try (cases h;done))
   rename_i h0
   rw[kltV.le hm h0]
   exact kltVs.le hm h
end
theorem kltO.le {m:Nat} (hm:n<=m):∀{o:XObj},kltO n o=true->kltO m o=true
 | .row cs,h | .cst cs,h=>by
   simp only[kltO]at h ⊢
   exact kltVs.le hm h
 | .map es _,h=>by
   simp only[kltO]at h ⊢
   revert h
   induction es with
   | nil=>intro _;simp only[kltO.go]
   | cons e es ih =>
     obtain⟨b,k,v⟩:=e
     intro h
     unfold kltO.go at h ⊢
     split at h<;>(try (cases h;done))
     rename_i h1 h2
     rw[kltV.le hm h1,kltV.le hm h2]
     exact ih h
 | .iter none _ _ _,_=>by simp only[kltO]
 | .iter (Option.some k) _ _ _,h=>by
   simp only[kltO,Nat.blt_eq]at h ⊢
   omega
theorem Cl.le {m:Nat} (h:Cl n M) (hm:n<=m):Cl m M:=fun k o hk=>⟨Nat.lt_of_lt_of_le (h k o hk).1 hm,kltO.le hm (h k o hk).2⟩
theorem kltK_cl (h:Cl n M):∀(ks:List Nat),kltK n M ks=true
 | []=>rfl
 | k::ks=>by
   unfold kltK
   split
   ·rename_i o ho
    obtain⟨h1,h2⟩:=h k o ho
    rw[<-Nat.blt_eq]at h1
    rw[h1,h2]
    exact kltK_cl h ks
   ·exact kltK_cl h ks
theorem CPost.forget {v:XV} {u:Value} {r:Out} (hcl:Cl nx M) (hfree:∀k,nx<=k->σ k=none) (hv:kltV nx v=true) (hr:Ret nx M v r) (hp:CPost ρ w σ M nx r u w'):CPost ρ w σ M nx (v,M,nx) u w':=by
 obtain⟨σ',h1,h2,h3,h4,h5⟩:=hp
 obtain⟨e1,e2,e3⟩:=hr
 have tr:∀k,k<nx->Xs.trunc σ' nx k=σ' k:=fun k hk=>if_pos hk
 have old:∀k o,tget M k=some o->tget r.2.1 k=some o/\k<nx:=fun k o hk=>⟨(e2 k (hcl k o hk).1).trans hk,(hcl k o hk).1⟩
 have un:∀k p,Xs.trunc σ' nx k=some p->σ' k=some p:=fun k p h=>by
  simp only[Xs.trunc]at h
  split at h
  ·exact h
  ·cases h
 refine⟨Xs.trunc σ' nx,by rw[e1]at h1;exact VR.trunc hv h1,⟨fun k o hk=>?_,fun k k' o o' p p' hk hk' hmu hp hp' he=>?_,fun b x hb=>⟨(h2.fix b x hb).1,fun⟨k,o,p,hk,hp,q⟩=>(h2.fix b x hb).2 ⟨k,o,p,(old k o hk).1,un _ _ hp,q⟩⟩⟩,
  ⟨h3.os,h3.tape,h3.output,h3.size,h3.blk,fun b ⟨k,o,p,hk,hp,q⟩=>h3.own b ⟨k,o,p,(old k o hk).1,un _ _ hp,q⟩,fun k p hk=>?_,fun b ⟨k,o,p,hk,hp,q⟩=>h3.held b ⟨k,o,p,(old k o hk).1,un _ _ hp,q⟩⟩,Nat.le_refl _,fun k=>?_⟩
 ·obtain⟨g1,g2⟩:=old k o hk
  obtain⟨p,hp,ho⟩:=h2.obj k o g1
  exact⟨p,by rw[tr k g2];exact hp,OR.trunc (hcl k o hk).2 ho⟩
 ·exact h2.inj k k' o o' p p' (old _ _ hk).1 (old _ _ hk').1 hmu (un _ _ hp) (un _ _ hp') he
 ·rw[tr k (Nat.lt_of_not_le fun hn=>by rw[hfree k hn]at hk;cases hk)]
  exact h3.sig k p hk
 ·left
  by_cases hk:k<nx
  ·rw[tr k hk]
   rcases h5 k with e | e
   ·exact e
   ·omega
  ·simp only[Xs.trunc,if_neg hk]
   exact(hfree k (by omega)).symm
theorem FOk0.forget {v:XV} (hcl:Cl nx M) (hv:kltV nx v=true) (h:FOk0 P ρ g args M nx (Ret nx M v)):FOk0 P ρ g args M nx fun r=>r=(v,M,nx) :=
 h.imp fun _ _ _ _ _ _ hfree hr hp=>⟨_,rfl,hp.forget hcl hfree hv hr⟩
theorem agr_sub (nx:Nat) (M:Hp):Agr nx M (subX M (List.range nx)):=fun k hk=>by rw[subX_get,if_pos (List.mem_range.2 hk)]
theorem Csem.read {v:XV} (hcl:Cl nx M) (ha:kltVs nx args=true) (hv:kltV nx v=true) (h:∀N,Agr nx M N->FOk P ρ g args N nx (Ret nx N v)):Csem P ρ g args M nx ⟨v,List.range nx,[]⟩ nx :=
 ⟨ha,kltK_cl hcl _,(fun k hk=>by cases hk),Nat.le_refl _,(h _ (agr_sub nx M)).1.forget hcl.sub hv⟩
theorem CPost.less {N N':Hp} {lo hi:Nat} {val:XV} {v:Value} (h:∀k o,tget N' k=some o->tget N k=some o) (hp:CPost ρ w σ M lo (val,N,hi) v w'):CPost ρ w σ M lo (val,N',hi) v w':=by
 obtain⟨σ',h1,h2,h3,h4,h5⟩:=hp
 refine⟨σ',h1,h2.sub h,⟨h3.os,h3.tape,h3.output,h3.size,h3.blk,fun b hb=>h3.own b ?_,h3.sig,fun b hb=>h3.held b ?_⟩,h4,h5⟩
 ·obtain⟨k,o,p,q,r⟩:=hb;exact⟨k,o,p,h _ _ q,r⟩
 ·obtain⟨k,o,p,q,r⟩:=hb;exact⟨k,o,p,h _ _ q,r⟩
theorem VR_det (ρ:Rho) (b:Bool):VR { ρ with det:=b } = VR ρ:=by kernel_rfl
theorem VRs_det (ρ:Rho) (b:Bool):VRs { ρ with det:=b } = VRs ρ:=by kernel_rfl
theorem OR_det (ρ:Rho) (b:Bool):OR { ρ with det:=b } = OR ρ:=by kernel_rfl
theorem Ok_det (ρ:Rho) (b:Bool):Ok { ρ with det:=b } w σ M ↔ Ok ρ w σ M :=
 ⟨fun h=>⟨fun k o hk=>by have:=h.obj k o hk;rwa [OR_det]at this,h.inj,h.fix⟩,fun h=>⟨fun k o hk=>by rw[OR_det];exact h.obj k o hk,h.inj,h.fix⟩⟩
theorem FOk0.det {b:Bool} (h:FOk0 P { ρ with det:=b } g args M nx R):FOk0 P ρ g args M nx R :=
 fun w σ vs hok hfree hargs o a K Q hK=>h w σ vs ((Ok_det ρ b).2 hok) hfree (by rw[VRs_det];exact hargs) o a K Q fun v w' ⟨r,hr,σ',h1,h2,h3,h4,h5⟩=>hK v w' ⟨r,hr,σ',by rw[VR_det]at h1;exact h1,(Ok_det ρ b).1 h2,h3,h4,h5⟩
def newU (M:Hp) (lo hi:Nat):List (Nat×Option XObj):=updX M (List.range' lo (hi - lo))
theorem newU_keys (M:Hp) (lo hi:Nat):∀k ∈ ukeys (newU M lo hi),lo<=k/\k<hi:=fun k hk=>by
 rw[newU,updX_keys,List.mem_range']at hk
 obtain⟨i,h1,rfl⟩:=hk
 omega
theorem newU_get (M N:Hp) (lo hi k:Nat):tget (happ N (newU M lo hi)) k=if lo<=k/\k<hi then tget M k else tget N k:=by
 rw[newU,happ_updX]
 congr 1
 rw[List.mem_range',eq_iff_iff]
 exact⟨fun⟨i,h1,h2⟩=>by omega,fun⟨h1,h2⟩=>⟨k - lo,by omega,by omega⟩⟩
theorem Csem.made {Q:Out->Prop} (hcl:Cl nx M) (ha:kltVs nx args=true) (h:∀N,Agr nx M N->FOk P { ρ with det:=true } g args N nx fun r=>Q r/\Agr nx N r.2.1/\nx<=r.2.2)
 (v0:XV) (hv0:kltV nx v0=true) (hQ0:∀N,Agr nx M N->Q (v0,N,nx)) :
 ∃(v:XV) (N:Hp) (hi:Nat),Csem P ρ g args M nx ⟨v,List.range nx,newU N nx hi⟩ hi/\Q (v,N,hi)/\Agr nx M N/\nx<=hi/\Cl hi N/\kltV hi v=true:=by
 have hN:=agr_sub nx M
 have hD:=(h _ hN).out
 obtain⟨⟨v,N,hi⟩,⟨⟨g1,g2,g3⟩,g4,g5⟩,g6⟩:=hD.2 rfl ⟨(v0,_,nx),⟨hQ0 _ hN,Agr.refl _ _,Nat.le_refl _⟩,hcl.sub,hv0⟩
 simp only at g2 g3 g4 g5
 refine⟨v,N,hi,⟨ha,kltK_cl hcl _,fun k hk=>.inr (newU_keys _ _ _ k hk),g3,?_⟩,g1,fun k hk=>(g2 k hk).trans (hN k hk),g3,g4,g5⟩
 refine(FOk0.det g6).imp fun w σ r u w' _ _ hr hp=>⟨_,rfl,?_⟩
 subst hr
 refine hp.less fun k o hk=>?_
 rw[newU_get]at hk
 split at hk
 ·exact hk
 ·rw[<-hk]
  exact g2 k ((hcl.sub k o hk).1)
end
end Go.Xs
namespace Go.Xs
open Go.Proofs
set_option maxRecDepth 100000
set_option maxHeartbeats 4000000
mutual
def exAsk (x v:Int):Ex->Bool
 | .mk k a b ps=>if k=1 then true else if k=2 then decide (x<=a) else if k=3 then decide (v<=a) else if k=4 then decide (v.tmod a=b) else if k=5 then exsEv x v false ps else if k=6 then exsEv x v true ps else !(exsEv x v false ps)
def exsEv (x v:Int) (is:Bool):List Ex->Bool
 | []=>true
 | e::es=>(exAsk x v e==is)&&exsEv x v is es
end
theorem exsEv_any {x v:Int} {is:Bool}:∀(ps:List Ex),exsEv x v is ps = !(ps.any fun e=>exAsk x v e != is)
 | []=>by simp[exsEv]
 | e::es=>by
   simp only[exsEv,List.any_cons,exsEv_any es]
   cases exAsk x v e<;>cases is<;>simp
mutual
def exPos:Ex->Prop
 | .mk _ _ b ps=>0<=b/\exsPos ps
def exsPos:List Ex->Prop
 | []=>True
 | e::es=>exPos e/\exsPos es
end
theorem exsPos_mem:∀{ps:List Ex} {e:Ex},exsPos ps->e ∈ ps->exPos e
 | [],_,_,h=>by cases h
 | a::ps,e,h,hm=>by
   simp only[exsPos]at h
   rcases List.mem_cons.1 hm with rfl | hm
   ·exact h.1
   ·exact exsPos_mem h.2 hm
theorem exsOk_mem:∀{ps:List Ex} {e:Ex},exsOk ps=true->e ∈ ps->exOk e=true
 | [],_,_,h=>by cases h
 | a::ps,e,h,hm=>by
   simp only[exsOk,Bool.and_eq_true]at h
   rcases List.mem_cons.1 hm with rfl | hm
   ·exact h.1
   ·exact exsOk_mem h.2 hm
theorem logOf_range {i k:Nat} {v:XV} {us:List (Nat×Option XObj)} {l:Log} (h:0<k):logOf i ⟨v,List.range k,us⟩ l=(i,List.range k,ukeys us)::l:=by
 obtain⟨a,t,e⟩:∃a t,List.range k=a::t:=by
  cases hr:List.range k with
  | nil=>have:=congrArg List.length hr;simp at this;omega
  | cons a t=>exact⟨a,t,rfl⟩
 unfold logOf
 simp only[e]
theorem neqB (yc a b:Bool):binX Tryz.prog g0 4 .neq yc (.bool a) (.bool b)=some (.bool (a != b)):=by cases yc<;>cases a<;>cases b<;>kernel_rfl
theorem f320 (ρ:Rho) {e:Ex} {M:Hp} {nx b k1 k2 k3:Nat} {cs:List XV} {x v:Int} {is:Bool} (he:ExAt M b e cs) (m1:tget M k1=some (.row [.int .u64 x])) (m2:tget M k2=some (.row [.int .u64 v])) (m3:tget M k3=some (.row [.bool is])) (b1:k1<nx) (b2:k2<nx) (b3:k3<nx)
 (h:∀(M':Hp) (nx':Nat),Agr nx M M'->nx<=nx'->FOk Tryz.prog ρ 297 [.agg cs,.int .u64 x,.int .u64 v] M' nx' (Ret nx' M' (.bool (exAsk x v e)))) :
 FOk Tryz.prog ρ 320 [.agg cs,.mp k1 0,.mp k2 0,.mp k3 0] M nx (Ret nx M (.bool (exAsk x v e != is))):=by
 refine FOk.closed fun hcl ha=>?_
 have he0:=he
 obtain⟨k,p,q,ps⟩:=e
 simp only[ExAt]at he0
 obtain⟨pv,row,rfl,hsl,hps⟩:=he0
 have hv:=hsl.cell
 have hk:kltV nx pv=true:=by
  simp only[kltVs,kltV]at ha
  split at ha
  ·rename_i q;split at q
   ·rename_i q2;exact q2
   ·cases q
  ·cases ha
 have a1:=fun o=>(Agr.refl nx M).set (Nat.le_refl nx) o
 refine FOk.walk (m:=12) (rs:=[.tmp 5]) follows Tryz.func320 (by kernel_rfl) rfl rfl rfl ?_
 conv in W _ _ _ _ _ _ _=>arg 4;whnf
 refine xs6 gy6 hv.1 hv.2 m1 m2 m3 ?_;try exact⟨⟩
 refine CD_sem (Csem.read ((hcl.le (by omega)).set (by omega) ?_) ?_ rfl fun N hN=>h N _ ((a1 _).trans (hN.le (by omega))) (by omega)) (by decide) ?_
 ·simp only[kltO,kltVs,kltV];rw[kltV.le (by omega) hk]
 ·simp only[kltVs,kltV];rw[kltV.le (by omega) hk]
 ·refine xs5 gy6 m3 @neqB @logOf_range @Ret.eq_1 ?_;try exact⟨⟩
  exact⟨(by(repeat (refine Agr.set ?_ (by omega) _));exact Agr.refl _ _),by omega⟩
theorem f319 (ρ:Rho) {ps:List Ex} {M:Hp} {nx b:Nat} {pv:XV} {row:List XV} {k p q:Int} {x v:Int} {is:Bool} (hsl:SlAt M b pv 4 ps.length row) (hps:ExsAt M b ps row) (hb:b<=nx)
 (h:∀e ∈ ps,∀(M':Hp) (nx':Nat) (cs:List XV),Agr nx M M'->nx<=nx'->ExAt M' b e cs->FOk Tryz.prog ρ 297 [.agg cs,.int .u64 x,.int .u64 v] M' nx' (Ret nx' M' (.bool (exAsk x v e)))) :
 FOk Tryz.prog ρ 319 [.agg [.int .i64 k,.int .u64 p,.int .u64 q,pv],.int .u64 x,.int .u64 v,.bool is] M nx (Ret nx M (.bool (exsEv x v is ps))):=by
 have hv:=hsl.cell
 refine FOk.walk (m:=14) (rs:=[.tmp 8]) follows Tryz.func319 (by kernel_rfl) rfl rfl rfl ?_
 conv in W _ _ _ _ _ _ _=>arg 4;whnf
 refine xs3 gy6 hv.1 hv.2 ?_;try exact⟨⟩
 generalize hM1:tset (tset (tset (tset M nx (XObj.row [XV.int IntKind.i64 k,XV.int IntKind.u64 p,XV.int IntKind.u64 q,pv])) (nx+1) (XObj.row [XV.int IntKind.u64 x])) (nx+2) (XObj.row [XV.int IntKind.u64 v])) (nx+3) (XObj.row [XV.bool is])=M1
 have a1:Agr nx M M1:=by rw[<-hM1];exact(by(repeat (refine Agr.set ?_ (by omega) _));exact Agr.refl _ _)
 have m1:tget M1 (nx+1)=some (.row [.int .u64 x]):=by rw[<-hM1];simp[tget_tset]
 have m2:tget M1 (nx+2)=some (.row [.int .u64 v]):=by rw[<-hM1];simp[tget_tset]
 have m3:tget M1 (nx+3)=some (.row [.bool is]):=by rw[<-hM1];simp[tget_tset]
 clear hM1
 refine CN_fok (f301 ρ (hsl.agr (a1.le hb)) (hps.agr (a1.le hb)) (by omega) (fun e=>exAsk x v e != is) fun e hm M' nx' cs ha hn he=>?_) ?_
 ·exact f320 ρ he ((ha _ (by omega)).trans m1) ((ha _ (by omega)).trans m2) ((ha _ (by omega)).trans m3) (by omega) (by omega) (by omega) fun M2 n2 ha2 hn2=>h e hm M2 n2 cs ((a1.trans (ha.le (by omega))).trans (ha2.le (by omega))) (by omega) (he.agr (ha2.le (by omega)))
 ·rintro⟨u,M2,n2⟩ ⟨g1,g2,g3⟩
  simp only at g1 g2 g3
  subst g1
  refine xs2 gy6 @Ret.eq_1 ?_;try exact⟨⟩
  exact⟨by rw[exsEv_any],a1.trans (g2.le (by omega)),by omega⟩
theorem f325 (ρ:Rho) {ps:List Ex} {M:Hp} {nx b kb:Nat} {pv:XV} {row:List XV} {k p q:Int} {x v:Int} (hsl:SlAt M b pv 4 ps.length row) (hps:ExsAt M b ps row) (hb:b<=nx) (hE:EvAt M kb) (hkb:kb<nx)
 (h:∀e ∈ ps,∀(M':Hp) (nx':Nat) (cs:List XV),Agr nx M M'->nx<=nx'->ExAt M' b e cs->FOk Tryz.prog ρ 297 [.agg cs,.int .u64 x,.int .u64 v] M' nx' (Ret nx' M' (.bool (exAsk x v e)))) :
 FOk Tryz.prog ρ 325 [.agg [.int .i64 k,.int .u64 p,.int .u64 q,pv],.int .u64 x,.int .u64 v,.mp kb 0] M nx (Ret nx M (.bool (exsEv x v false ps))):=by
 have hv:=hsl.cell
 unfold EvAt at hE
 have a1:=fun o=>(Agr.refl nx M).set (Nat.le_refl nx) o
 refine FOk.walk (m:=13) (rs:=[.tmp 7]) follows Tryz.func325 (by kernel_rfl) rfl rfl rfl ?_
 conv in W _ _ _ _ _ _ _=>arg 4;whnf
 refine xs4 gy8 hv.1 hv.2 hE ?_;try exact⟨⟩
 refine CN_fok (f319 ρ (is:=false) (hsl.agr ((a1 _).le hb)) (hps.agr ((a1 _).le hb)) (by omega) fun e hm M' nx' cs ha hn he=>h e hm M' nx' cs ((a1 _).trans (ha.le (by omega))) (by omega) he) ?_
 rintro⟨u,M2,n2⟩ ⟨g1,g2,g3⟩
 simp only at g1 g2 g3
 subst g1
 refine xs2 gy8 @Ret.eq_1 ?_;try exact⟨⟩
 exact⟨(a1 _).trans (g2.le (by omega)),by omega⟩
theorem f326 (ρ:Rho) {ps:List Ex} {M:Hp} {nx b kb:Nat} {pv:XV} {row:List XV} {k p q:Int} {x v:Int} (hsl:SlAt M b pv 4 ps.length row) (hps:ExsAt M b ps row) (hb:b<=nx) (hE:EvAt M kb) (hkb:kb<nx)
 (h:∀e ∈ ps,∀(M':Hp) (nx':Nat) (cs:List XV),Agr nx M M'->nx<=nx'->ExAt M' b e cs->FOk Tryz.prog ρ 297 [.agg cs,.int .u64 x,.int .u64 v] M' nx' (Ret nx' M' (.bool (exAsk x v e)))) :
 FOk Tryz.prog ρ 326 [.agg [.int .i64 k,.int .u64 p,.int .u64 q,pv],.int .u64 x,.int .u64 v,.mp kb 0] M nx (Ret nx M (.bool (exsEv x v true ps))):=by
 have hv:=hsl.cell
 unfold EvAt at hE
 have a1:=fun o=>(Agr.refl nx M).set (Nat.le_refl nx) o
 refine FOk.walk (m:=13) (rs:=[.tmp 7]) follows Tryz.func326 (by kernel_rfl) rfl rfl rfl ?_
 conv in W _ _ _ _ _ _ _=>arg 4;whnf
 refine xs4 gy8 hv.1 hv.2 hE ?_;try exact⟨⟩
 refine CN_fok (f319 ρ (is:=true) (hsl.agr ((a1 _).le hb)) (hps.agr ((a1 _).le hb)) (by omega) fun e hm M' nx' cs ha hn he=>h e hm M' nx' cs ((a1 _).trans (ha.le (by omega))) (by omega) he) ?_
 rintro⟨u,M2,n2⟩ ⟨g1,g2,g3⟩
 simp only at g1 g2 g3
 subst g1
 refine xs2 gy8 @Ret.eq_1 ?_;try exact⟨⟩
 exact⟨(a1 _).trans (g2.le (by omega)),by omega⟩
theorem f327 (ρ:Rho) {ps:List Ex} {M:Hp} {nx b kb:Nat} {pv:XV} {row:List XV} {k p q:Int} {x v:Int} (hsl:SlAt M b pv 4 ps.length row) (hps:ExsAt M b ps row) (hb:b<=nx) (hE:EvAt M kb) (hkb:kb<nx)
 (h:∀e ∈ ps,∀(M':Hp) (nx':Nat) (cs:List XV),Agr nx M M'->nx<=nx'->ExAt M' b e cs->FOk Tryz.prog ρ 297 [.agg cs,.int .u64 x,.int .u64 v] M' nx' (Ret nx' M' (.bool (exAsk x v e)))) :
 FOk Tryz.prog ρ 327 [.agg [.int .i64 k,.int .u64 p,.int .u64 q,pv],.int .u64 x,.int .u64 v,.mp kb 0] M nx (Ret nx M (.bool (!(exsEv x v false ps)))):=by
 have hv:=hsl.cell
 unfold EvAt at hE
 have a1:=fun o=>(Agr.refl nx M).set (Nat.le_refl nx) o
 refine FOk.walk (m:=14) (rs:=[.tmp 7]) follows Tryz.func327 (by kernel_rfl) rfl rfl rfl ?_
 conv in W _ _ _ _ _ _ _=>arg 4;whnf
 refine xs4 gy9 hv.1 hv.2 hE ?_;try exact⟨⟩
 refine CN_fok (f319 ρ (is:=false) (hsl.agr ((a1 _).le hb)) (hps.agr ((a1 _).le hb)) (by omega) fun e hm M' nx' cs ha hn he=>h e hm M' nx' cs ((a1 _).trans (ha.le (by omega))) (by omega) he) ?_
 rintro⟨u,M2,n2⟩ ⟨g1,g2,g3⟩
 simp only at g1 g2 g3
 subst g1
 refine xs2 gy9 @Ret.eq_1 ?_;try exact⟨⟩
 exact⟨(a1 _).trans (g2.le (by omega)),by omega⟩
theorem f297 (ρ:Rho) {x v:Int}:∀(sz:Nat) (e:Ex) (M:Hp) (nx b:Nat) (cs:List XV),exN e<sz->ExAt M b e cs->b<=nx->exOk e=true->exPos e->FOk Tryz.prog ρ 297 [.agg cs,.int .u64 x,.int .u64 v] M nx (Ret nx M (.bool (exAsk x v e))):=by
 intro sz
 induction sz with
 | zero=>intro e M nx b cs h;omega
 | succ sz ih =>
 intro e M nx b cs hsz he hb hok hpos
 obtain⟨k,p,q,ps⟩:=e
 simp only[ExAt]at he
 obtain⟨pv,row,rfl,hsl,hps⟩:=he
 have hv:=hsl.cell
 simp only[exPos]at hpos
 simp only[exOk,Bool.and_eq_true]at hok
 obtain⟨hn,hoks⟩:=hok
 have hk:1<=k/\k<8:=by
  simp only[okNode,Bool.and_eq_true,decide_eq_true_eq]at hn
  omega
 have hp4:k=4->p≠0:=by
  intro h4
  subst h4
  simp[okNode,kdNum]at hn
  omega
 have hrec:∀(M1:Hp) (n1:Nat),Agr nx M M1->nx<=n1->∀e ∈ ps,∀(M':Hp) (nx':Nat) (cs:List XV),Agr n1 M1 M'->n1<=nx'->ExAt M' b e cs->FOk Tryz.prog ρ 297 [.agg cs,.int .u64 x,.int .u64 v] M' nx' (Ret nx' M' (.bool (exAsk x v e))):=by
  intro M1 n1 ha1 hn1 e hm M' nx' cs _ hn' he
  refine ih e M' nx' b cs ?_ he (by omega) (exsOk_mem hoks hm) (exsPos_mem hpos.2 hm)
  have:=exsN_mem hm
  simp only[exN]at hsz
  omega
 refine FOk.walk (m:=24) (rs:=[.tmp 6]) follows Tryz.func297 (by kernel_rfl) rfl rfl rfl ?_
 conv in W _ _ _ _ _ _ _=>arg 4;whnf
 refine xs3 gy10 hv.1 hv.2 ?_;try exact⟨⟩
 refine CN_fok (f276 ρ _ _ k hk.1 (by omega)) ?_
 rintro⟨v',M',nx'⟩ ⟨kb,h1,h2,h3,h4,h5⟩
 simp only at h1 h2 h3 h4 h5
 subst h1
 have hM:tget M' nx=some (.row [.int .i64 k,.int .u64 p,.int .u64 q,pv]):=by rw[h5 nx (by omega),tget_tset,if_pos rfl]
 have ha:Agr nx M M':=((Agr.refl nx M).set (Nat.le_refl _) _).trans (h5.le (by omega))
 clear h5
 have hpl:plain1 (kdAsk kb k)=true:=by
  have:k=1\/k=2\/k=3\/k=4\/k=5\/k=6\/k=7:=by omega
  rcases this with rfl | rfl | rfl | rfl | rfl | rfl | rfl<;>rfl
 clear hsz ih hn
 have hE:∀o o':XObj,EvAt (tset (tset M' (nx'+3) o) (nx'+3) o') kb:=fun o o'=>by
  unfold EvAt at h4 ⊢
  rw[tget_tset,if_neg (by omega),tget_tset,if_neg (by omega)];exact h4
 have ha2:∀(o o':XObj),Agr nx M (tset (tset M' (nx'+3) o) (nx'+3) o'):=fun o o'=>(ha.set (by omega) _).set (by omega) _
 have fin:∀(s:Bool),exAsk x v (.mk k p q ps)=s->∀(M1:Hp) (n1:Nat),Agr nx M M1->nx<=n1->Ret nx M (.bool (exAsk x v (.mk k p q ps))) (.bool s,M1,n1):=fun s h M1 n1 h1 h2=>by rw[h];exact .mk h1 h2
 have hcall:∃g caps,kdAsk kb k = .fn (.func g) [] caps/\∀(M1:Hp) (n1:Nat),Agr nx M M1->nx<=n1->EvAt M1 kb->kb<n1 ->
  FOk Tryz.prog ρ g ([.agg [.int .i64 k,.int .u64 p,.int .u64 q,pv],.int .u64 x,.int .u64 v]++caps) M1 n1 (Ret n1 M1 (.bool (exAsk x v (.mk k p q ps)))):=by
  have:k=1\/k=2\/k=3\/k=4\/k=5\/k=6\/k=7:=by omega
  rcases this with rfl | rfl | rfl | rfl | rfl | rfl | rfl
  ·exact⟨321,[],rfl,fun M1 n1 h1 h2 _ _=>f321 ρ 1 p q x v pv hv⟩
  ·exact⟨322,[],rfl,fun M1 n1 h1 h2 _ _=>f322 ρ 2 p q x v pv hv⟩
  ·exact⟨323,[],rfl,fun M1 n1 h1 h2 _ _=>f323 ρ 3 p q x v pv hv⟩
  ·exact⟨324,[],rfl,fun M1 n1 h1 h2 _ _=>f324 ρ 4 p q x v pv hv (hp4 rfl)⟩
  ·exact⟨325,[.mp kb 0],rfl,fun M1 n1 h1 h2 h3 h4=>f325 ρ (hsl.agr (h1.le hb)) (hps.agr (h1.le hb)) (by omega) h3 h4 (hrec M1 n1 h1 h2)⟩
  ·exact⟨326,[.mp kb 0],rfl,fun M1 n1 h1 h2 h3 h4=>f326 ρ (hsl.agr (h1.le hb)) (hps.agr (h1.le hb)) (by omega) h3 h4 (hrec M1 n1 h1 h2)⟩
  ·exact⟨327,[.mp kb 0],rfl,fun M1 n1 h1 h2 h3 h4=>f327 ρ (hsl.agr (h1.le hb)) (hps.agr (h1.le hb)) (by omega) h3 h4 (hrec M1 n1 h1 h2)⟩
 obtain⟨g,caps,hg,hF⟩:=hcall
 refine xs4 gy10 hM @kdV.eq_1 hpl ?_;try exact⟨⟩
 rw[hg]
 refine xs1 gy10 ?_;try exact⟨⟩
 have:=hF (tset (tset M' (nx'+3) (.row [.int .i64 0,.int .i64 0,.int .i64 0,.nilf])) (nx'+3) (.row [.int .i64 (kdNum k),.int .i64 (kdLeast k),.int .i64 (kdMost k),.fn (.func g) [] caps])) (nx'+13) (ha2 _ _) (by omega) (hE _ _) (by omega)
 refine CN_fok this ?_
 rintro⟨u,M2,n2⟩ ⟨g1,g2,g3⟩
 simp only at g1 g2 g3
 subst g1
 refine xs2 gy10 @Ret.eq_1 ?_;try exact⟨⟩
 exact⟨(ha2 _ _).trans (g2.le (by omega)),by omega⟩
def holdsS (e:Ex) (x v:Int):Bool:=exRight e&&exAsk x v e
theorem f257 (ρ:Rho) {e:Ex} {M:Hp} {nx b:Nat} {cs:List XV} (he:ExAt M b e cs) (hb:b<=nx) (hc:exN e<=1000) (hpos:exPos e) (x v:Int):FOk Tryz.prog ρ 257 [.agg cs,.int .u64 x,.int .u64 v] M nx (Ret nx M (.bool (holdsS e x v))):=by
 have he0:=he
 obtain⟨k,p,q,ps⟩:=e
 simp only[ExAt]at he0
 obtain⟨pv,row,rfl,hsl,hps⟩:=he0
 have hv:=hsl.cell
 have a1:=fun o=>(Agr.refl nx M).set (Nat.le_refl nx) o
 refine FOk.walk (m:=15) (rs:=[.tmp 6]) follows Tryz.func257 (by kernel_rfl) rfl rfl rfl ?_
 conv in W _ _ _ _ _ _ _=>arg 4;whnf
 refine xs3 gy0 hv.1 hv.2 ?_;try exact⟨⟩
 refine CN_fok (f230 ρ (he.agr ((a1 _).le hb)) (by omega) hc) ?_
 rintro⟨u,M2,n2⟩ ⟨g1,g2,g3⟩
 simp only at g1 g2 g3
 subst g1
 have a2:=(a1 (.row [.int .i64 k,.int .u64 p,.int .u64 q,pv])).trans (g2.le (by omega))
 have y:=g2 nx (by omega)
 rw[tget_tset,if_pos rfl]at y
 cases hr:exRight (.mk k p q ps) with
 | false =>
   refine xs4 gy0 y hr @Ret.eq_1 ?_;try exact⟨⟩
   exact⟨by simp[holdsS,hr],a2,by omega⟩
 | true =>
   have hok:exOk (.mk k p q ps)=true:=by
    simp only[exRight,Bool.and_eq_true]at hr
    exact hr.1.1
   refine xs3 gy0 y hr ?_;try exact⟨⟩
   refine CN_fok (f297 ρ (x:=x) (v:=v) _ (.mk k p q ps) M2 _ b _ (Nat.lt_succ_self _) (he.agr (a2.le hb)) (by omega) hok hpos) ?_
   rintro⟨u,M3,n3⟩ ⟨k1,k2,k3⟩
   simp only at k1 k2 k3
   subst k1
   refine xs2 gy0 @Ret.eq_1 ?_;try exact⟨⟩
   exact⟨by simp[holdsS,hr],a2.trans (k2.le (by omega)),by omega⟩
end Go.Xs
namespace Go.Xs
open Go.Proofs
set_option maxRecDepth 100000
section
variable {P:Program} {M:Hp} {b n:Nat} {t:TypeId} {xs:List XV}
theorem TyAt.int {k:IntKind} (hu:P.underlying t=some (.int k)) (h:TyAt P M b n t xs):∃i,xs=[.int k i]/\(Lit.int k i).wf=true:=by
 cases n with
 | zero=>exact h.elim
 | succ n=>simp only[TyAt,hu]at h;exact h
theorem TyAt.bool (hu:P.underlying t=some .bool) (h:TyAt P M b n t xs):∃v,xs=[.bool v]:=by
 cases n with
 | zero=>exact h.elim
 | succ n=>simp only[TyAt,hu]at h;exact h
theorem TyAt.slice {e:TypeId} (hu:P.underlying t=some (.slice e)) (h:TyAt P M b n t xs) :
 ∃(m:Nat) (v:XV) (xss:List (List XV)),n=m+1/\xs=[v]/\SlAt M b v (P.cellsOf e) xss.length xss.flatten/\∀ys ∈ xss,ys.length=P.cellsOf e/\TyAt P M b m e ys:=by
 cases n with
 | zero=>exact h.elim
 | succ n =>
   simp only[TyAt,hu]at h
   obtain⟨v,len,row,xss,h1,h2,rfl,rfl,h5⟩:=h
   exact⟨n,v,xss,rfl,h1,h2,h5⟩
theorem TyAt.struct {fs:Array Field} (hu:P.underlying t=some (.struct fs)) (h:TyAt P M b n t xs):∃m,n=m+1/\FsAt (TyAt P M b m) P fs.toList xs:=by
 cases n with
 | zero=>exact h.elim
 | succ n=>simp only[TyAt,hu]at h;exact⟨n,rfl,h⟩
theorem chunk {sz:Nat}:∀{xss:List (List XV)} {i:Nat} {ys:List XV},(∀ys ∈ xss,ys.length=sz)->xss[i]?=some ys->(xss.flatten.drop (i*sz)).take sz=ys
 | [],_,_,_,h=>by simp at h
 | x::xss,0,ys,hl,h=>by
   simp only[List.getElem?_cons_zero,Option.some.injEq]at h
   subst h
   rw[Nat.zero_mul,List.drop_zero,List.flatten_cons,List.take_left' (hl _ List.mem_cons_self)]
 | x::xss,i+1,ys,hl,h=>by
   simp only[List.getElem?_cons_succ]at h
   have hx:=hl x List.mem_cons_self
   rw[List.flatten_cons,Nat.succ_mul,Nat.add_comm,<-List.drop_drop,List.drop_left' hx]
   exact chunk (fun ys hy=>hl ys (List.mem_cons_of_mem _ hy)) h
theorem each_ex {α β:Type} {p:α->β->Prop}:∀{l:List α},(∀a ∈ l,∃b,p a b)->∃bs:List β,bs.length=l.length/\∀(i:Nat) a b,l[i]?=some a->bs[i]?=some b->p a b
 | [],_=>⟨[],rfl,fun i a b h=>by simp at h⟩
 | a::l,h=>by
   obtain⟨b,hb⟩:=h a List.mem_cons_self
   obtain⟨bs,h1,h2⟩:=each_ex fun x hx=>h x (List.mem_cons_of_mem _ hx)
   refine⟨b::bs,by simp[h1],fun i x y hx hy=>?_⟩
   cases i with
   | zero =>
     simp only[List.getElem?_cons_zero,Option.some.injEq]at hx hy
     subst hx;subst hy;exact hb
   | succ i=>exact h2 i x y (by simpa using hx) (by simpa using hy)
end
section
variable {M:Hp} {b n:Nat} {xs:List XV}
theorem ver_of (h:TyAt Tryz.prog M b n 25 xs):∃w v:Int,xs=[.int .u64 w,.int .u64 v]:=by
 obtain⟨m,rfl,h⟩:=h.struct Tryz.underlying25
 obtain⟨y0,z0,rfl,_,h0,y1,z1,rfl,_,h1,rfl⟩:=h
 obtain⟨w,rfl,_⟩:=h0.int Tryz.underlying23
 obtain⟨v,rfl,_⟩:=h1.int Tryz.underlying23
 exact⟨w,v,rfl⟩
theorem en_of (h:TyAt Tryz.prog M b n 120 xs):∃e,xs=encEn e:=by
 obtain⟨m,rfl,h⟩:=h.struct Tryz.underlying120
 obtain⟨y0,z0,rfl,_,h0,y1,z1,rfl,_,h1,y2,z2,rfl,_,h2,rfl⟩:=h
 obtain⟨x,rfl,_⟩:=h0.int Tryz.underlying23
 obtain⟨w,v,rfl⟩:=ver_of h1
 obtain⟨m,rfl⟩:=h2.bool Tryz.underlying4
 exact⟨⟨x,w,v,m⟩,rfl⟩
theorem exs_of (ih:∀xs,TyAt Tryz.prog M b n 40 xs->∃e,ExAt M b e xs/\exPos e):∀xss:List (List XV),(∀ys ∈ xss,ys.length=4/\TyAt Tryz.prog M b n 40 ys)->∃es:List Ex,es.length=xss.length/\ExsAt M b es xss.flatten/\exsPos es
 | [],_=>⟨[],rfl,by simp only[ExsAt],by simp only[exsPos]⟩
 | ys::xss,h=>by
   obtain⟨e,h1,h2⟩:=ih ys (h ys List.mem_cons_self).2
   obtain⟨es,h3,h4,h5⟩:=exs_of ih xss fun y hy=>h y (List.mem_cons_of_mem _ hy)
   have hl:=(h ys List.mem_cons_self).1
   refine⟨e::es,by simp[h3],?_,by simp only[exsPos];exact⟨h2,h5⟩⟩
   simp only[ExsAt,List.flatten_cons]
   rw[List.take_left' hl,List.drop_left' hl]
   exact⟨h1,h4⟩
theorem ex_of:∀(n:Nat) (xs:List XV),TyAt Tryz.prog M b n 40 xs->∃e,ExAt M b e xs/\exPos e:=by
 intro n
 induction n using Nat.strongRecOn with
 | _ n ih =>
   intro xs h
   obtain⟨m,rfl,h⟩:=h.struct Tryz.underlying40
   obtain⟨y0,z0,rfl,_,h0,y1,z1,rfl,_,h1,y2,z2,rfl,_,h2,y3,z3,rfl,_,h3,rfl⟩:=h
   obtain⟨k,rfl,_⟩:=h0.int Tryz.underlying3
   obtain⟨x,rfl,_⟩:=h1.int Tryz.underlying23
   obtain⟨y,rfl,hy⟩:=h2.int Tryz.underlying23
   obtain⟨q,v,xss,rfl,rfl,hsl,hall⟩:=h3.slice Tryz.underlying38
   have hsz:Tryz.prog.cellsOf 40=4:=by kernel_rfl
   rw[hsz]at hsl
   obtain⟨es,e1,e2,e3⟩:=exs_of (fun xs h=>ih q (by omega) xs h) xss fun ys hys=>by rw[<-hsz];exact hall ys hys
   refine⟨.mk k x y es,?_,?_⟩
   ·simp only[ExAt]
    exact⟨v,xss.flatten,rfl,by rw[e1];exact hsl,e2⟩
   ·simp only[exPos]
    refine⟨?_,e3⟩
    simp[Lit.wf,IntKind.min,IntKind.max,IntKind.signed,IntKind.bits]at hy
    omega
theorem rec_of (h:TyAt Tryz.prog M b n 43 xs):∃r,RecAt M b r xs/\exPos r.p:=by
 obtain⟨m,rfl,h⟩:=h.struct Tryz.underlying43
 obtain⟨y0,z0,rfl,_,h0,y1,z1,rfl,_,h1,y2,z2,rfl,_,h2,y3,z3,rfl,_,h3,y4,z4,rfl,_,h4,y5,z5,rfl,_,h5,y6,z6,rfl,_,h6,rfl⟩:=h
 obtain⟨k,rfl,_⟩:=h0.int Tryz.underlying3
 obtain⟨t,rfl,_⟩:=h1.int Tryz.underlying23
 obtain⟨x,rfl,_⟩:=h2.int Tryz.underlying23
 obtain⟨w,v,rfl⟩:=ver_of h3
 obtain⟨y,rfl,_⟩:=h4.int Tryz.underlying23
 obtain⟨e,he,hp⟩:=ex_of _ _ h5
 obtain⟨q,ve,xss,_,rfl,hsl,hall⟩:=h6.slice Tryz.underlying41
 have hsz:Tryz.prog.cellsOf 120=4:=by kernel_rfl
 rw[hsz]at hsl hall
 obtain⟨es,e1,e2⟩:=each_ex (p:=fun ys e=>ys=encEn e) fun ys hy=>en_of (hall ys hy).2
 refine⟨⟨k,t,x,w,v,y,e,es⟩,⟨y5,ve,by simp,he,?_⟩,hp⟩
 have:xss=es.map encEn:=by
  apply List.ext_getElem (by simp[e1])
  intro i h1 h2
  have h3:i<es.length:=by simpa using h2
  rw[List.getElem_map]
  exact e2 i _ _ (List.getElem?_eq_getElem h1) (List.getElem?_eq_getElem h3)
 subst this
 simp only[EnsAt]
 rw[List.flatMap_def]
 simpa using hsl
theorem recs_of {v:XV} (h:TyAt Tryz.prog M b n 22 [v]):∃L,RecsAt M b v L/\∀r ∈ L,exPos r.p:=by
 obtain⟨q,v',xss,_,e,hsl,hall⟩:=h.slice Tryz.underlying22
 cases e
 have hsz:Tryz.prog.cellsOf 43=11:=by kernel_rfl
 rw[hsz]at hsl hall
 obtain⟨L,e1,e2⟩:=each_ex (p:=fun ys r=>RecAt M b r ys/\exPos r.p) fun ys hy=>rec_of (hall ys hy).2
 have get:∀(i:Nat) r,L[i]?=some r->∃ys,xss[i]?=some ys/\RecAt M b r ys/\exPos r.p:=fun i r hr=>by
  have h1:=(List.getElem?_eq_some_iff.1 hr).1
  have h2:xss[i]?=some xss[i]:=List.getElem?_eq_getElem (by omega)
  exact⟨_,h2,e2 i _ _ h2 hr⟩
 refine⟨L,⟨xss.flatten,by rw[e1];exact hsl,fun i r hr=>?_⟩,fun r hr=>?_⟩
 ·obtain⟨ys,h1,h2,_⟩:=get i r hr
  rw[chunk (fun ys hy=>(hall ys hy).1) h1]
  exact h2
 ·obtain⟨i,hi,rfl⟩:=List.mem_iff_getElem.1 hr
  obtain⟨_,_,_,h⟩:=get i _ (List.getElem?_eq_getElem hi)
  exact h
def recTypes:List TypeId:=[3,4,22,23,25,38,40,41,43,120]
theorem recTypes_ok:∀t ∈ recTypes,tyOk Tryz.prog recTypes t=true :=
 List.all_eq_true.1 (show (recTypes.all fun t=>tyOk Tryz.prog recTypes t)=true by kernel_rfl)
end
end Go.Xs
namespace Go.Xs
structure Md where
 v:Int
 dead:Bool
def isMod (r:Rec):Bool:=decide (r.kind=3)||decide (r.kind=4)
def modIs (t x:Int) (r:Rec):Bool:=isMod r&&(decide (r.t=t)&&decide (r.x=x))
def mdOf (r:Rec):Md:=if r.kind=3 then ⟨r.v,false⟩ else ⟨0,true⟩
def rowOf (l:List Rec) (t x:Int):List Md:=(l.filter (modIs t x)).map mdOf
def endStep (t:Int) (o:Option Bool) (r:Rec):Option Bool:=if r.t=t then (if r.kind=1 then some false else if r.kind=6\/r.kind=7 then some true else o) else o
def endOf (l:List Rec) (t:Int):Option Bool:=l.foldl (endStep t) none
theorem rowOf_snoc (l:List Rec) (r:Rec) (t x:Int):rowOf (l++[r]) t x=if modIs t x r=true then rowOf l t x++[mdOf r] else rowOf l t x:=by
 unfold rowOf
 rw[List.filter_append,List.map_append]
 by_cases h:modIs t x r=true
 ·simp[h]
 ·simp[h]
theorem endOf_snoc (l:List Rec) (r:Rec) (t:Int):endOf (l++[r]) t=endStep t (endOf l t) r:=by
 unfold endOf
 rw[List.foldl_append]
 rfl
def madeS (l:List Rec) (x w n:Int):Option Md:=if 1<=n/\n<=(rowOf l w x).length then (rowOf l w x)[(n - 1).toNat]? else none
def thereS (l:List Rec) (x w n:Int):Bool:=(decide (w=0)&&decide (n=0))||(madeS l x w n).isSome
def seenS (l:List Rec) (r:Rec):Bool:=!(decide (r.kind=2))||thereS l r.x r.w r.n
def ownS (l:List Rec) (r:Rec):Bool:=!(decide (r.kind=2))||(decide ((rowOf l r.t r.x).length=0)||(decide (r.w=r.t)&&decide (r.n=(rowOf l r.t r.x).length)))
def entriesS (l:List Rec) (r:Rec):Bool:=r.es.all fun e=>thereS l e.x e.w e.n
def objsOf (l:List Rec) (t:Int):List Int:=(l.filter fun r=>isMod r&&decide (r.t=t)).map (·.x)
def ownEntriesS (l:List Rec) (r:Rec):Bool:=!(decide (r.kind=5))||(objsOf l r.t).all fun x=>r.es.any fun e=>decide (e.x=x)&&(decide (e.w=r.t)&&decide (e.n=(rowOf l r.t x).length))
end Go.Xs
namespace Go.Xs
noncomputable section
variable {τ:Type} {M M':Hp} {lo hi hi':Nat} {tag tag':Nat->τ}
def OwnSl (M:Hp) (lo hi:Nat) (tag:Nat->τ) (tg:τ) (v:XV) (sz len:Nat) (cs:List XV):Prop :=
 len<=9223372036854775807/\cs.length=len*sz/\((v = .nils/\len=0)\/0<len/\∃k,v = .sl k sz 0 len len/\lo<=k/\k<hi/\tag k=tg/\tget M k=some (.row cs))
theorem OwnSl.sl {tg:τ} {v:XV} {sz len:Nat} {cs:List XV} (h:OwnSl M lo hi tag tg v sz len cs):SlAt M hi v sz len cs:=by
 obtain⟨h1,h2,⟨rfl,rfl⟩ | ⟨_,k,rfl,h3,h4,h5,h6⟩⟩:=h
 ·exact⟨h1,.inl ⟨rfl,rfl,List.length_eq_zero_iff.1 (by omega)⟩⟩
 ·refine⟨h1,.inr ⟨k,0,len,cs,rfl,h4,by unfold hrd;rw[h6],by omega,?_⟩⟩
  rw[List.drop_zero,<-h2,List.take_length]
theorem SlAt.fldG {P:Program} {M:Hp} {b:Nat} {v:XV} {sz len:Nat} {row:List XV} (h:SlAt M b v sz len row) {i:Nat} (hi:i<len) {t:Nat} (ht:es P t=some sz) :
 ∃n o,n<b/\(∀k,indexAddrX P t v (.int k (i:Int))=some (.mp n o))/\∀(j:Nat) (x:XV),j<sz->((row.drop (i*sz)).take sz)[j]?=some x->∀(t' m:Nat),sa P t'=some (m,false)->∀N,Agr b M N->loadX P N t' (.mp n (o+j))=some ⟨x,[n],[]⟩:=by
 obtain⟨n,o,h1,h2,cs,h3,h4,h5⟩:=h.at hi ht
 refine⟨n,o,h1,h2,fun j x hj hx t' m ht' N hN=>?_⟩
 refine load_hrd1 (hrd_agr h3 hN h1) ht' ?_
 rw[h4,List.getElem?_take,if_pos hj,List.getElem?_drop]at hx
 exact hx
theorem tag_ne {a b:Nat} {x y:τ} (h1:tag a=x) (h2:tag b=y) (h:x≠y):a≠b:=fun e=>h (by rw[<-h1,<-h2,e])
theorem OwnSl.keep {tg:τ} {v:XV} {sz len:Nat} {cs:List XV} (h:OwnSl M lo hi tag tg v sz len cs) (hk:∀k,k<hi->tag k=tg->tget M' k=tget M k/\tag' k=tg) (hh:hi<=hi'):OwnSl M' lo hi' tag' tg v sz len cs:=by
 obtain⟨h1,h2,h3 | ⟨h0,k,rfl,h3,h4,h5,h6⟩⟩:=h
 ·exact⟨h1,h2,.inl h3⟩
 ·obtain⟨q1,q2⟩:=hk k h4 h5
  exact⟨h1,h2,.inr ⟨h0,k,rfl,h3,by omega,q2,by rw[q1];exact h6⟩⟩
inductive Tg where
 | none | mach | num | names | rows | row (i:Nat) | ended
def encPr (p:Int×Int):List XV:=[.int .u64 p.1,.int .u64 p.2]
def encMd (d:Md):List XV:=[.int .u64 d.v,.bool d.dead]
def pidxGo (p:Int×Int):List (Int×Int)->Nat->Option Int
 | [],_=>none
 | q::ps,i=>if q=p then some i else pidxGo p ps (i+1)
def pidx (ps:List (Int×Int)) (p:Int×Int):Option Int:=pidxGo p ps 0
def NumAt (M:Hp) (lo hi:Nat) (tag:Nat->Tg) (v:XV) (ps:List (Int×Int)):Prop :=
 (v = .nilm/\ps=[])\/ps≠[]/\∃k c lv,v = .mm k/\lo<=k/\k<hi/\tag k = .num/\tget M k=some (.map (entA (vI .i64) lv) c)/\rowsA 2 lv/\(∀e ∈ lv,e.1<c)/\∀a b,alook lv [a,b]=pidx ps (a,b)
def EndsAt (M:Hp) (lo hi:Nat) (tag:Nat->Tg) (v:XV) (le:List (Nat×Int×Bool)):Prop :=
 (v = .nilm/\le=[])\/∃k c,v = .mm k/\lo<=k/\k<hi/\tag k = .ended/\tget M k=some (.map (entU vB le) c)
structure Mach (M:Hp) (lo hi m mn:Nat) (l:List Rec) (tag:Nat->Tg) (ps:List (Int×Int)) (vnum vnames vrows vend:XV) (rs:List XV) (le:List (Nat×Int×Bool)):Prop where
 lo_m:lo<=m
 m_hi:m<hi
 tg:tag m = .mach
 row:tget M m=some (.row [vnum,vnames,vrows,.int .i64 mn,vend])
 num:NumAt M lo hi tag vnum ps
 names:OwnSl M lo hi tag .names vnames 2 ps.length (ps.flatMap encPr)
 rows:OwnSl M lo hi tag .rows vrows 1 ps.length rs
 all:∀(i:Nat) (t x:Int),ps[i]?=some (t,x)->rowOf l t x≠[]/\∃v,rs[i]?=some v/\OwnSl M lo hi tag (.row i) v 2 (rowOf l t x).length ((rowOf l t x).flatMap encMd)
 whole:∀t x,rowOf l t x≠[]->(t,x) ∈ ps
 nodup:ps.Nodup
 ends:EndsAt M lo hi tag vend le
 ended:∀t,alook le t=endOf l t
 few:ps.length<=l.length
def MachAt (M:Hp) (lo hi m:Nat) (l:List Rec):Prop:=∃tag ps vnum vnames vrows vend rs le,Mach M lo hi m l.length l tag ps vnum vnames vrows vend rs le
theorem NumAt.agr {tag:Nat->Tg} {v:XV} {ps:List (Int×Int)} (h:NumAt M lo hi tag v ps) (ha:Agr hi M M') (hh:hi<=hi'):NumAt M' lo hi' tag v ps:=by
 rcases h with h | ⟨h0,k,c,lv,h1,h2,h3,h4,h5,h6⟩
 ·exact .inl h
 ·exact .inr ⟨h0,k,c,lv,h1,h2,by omega,h4,by rw[ha k h3];exact h5,h6⟩
theorem EndsAt.agr {tag:Nat->Tg} {v:XV} {le:List (Nat×Int×Bool)} (h:EndsAt M lo hi tag v le) (ha:Agr hi M M') (hh:hi<=hi'):EndsAt M' lo hi' tag v le:=by
 rcases h with h | ⟨k,c,h1,h2,h3,h4,h5⟩
 ·exact .inl h
 ·exact .inr ⟨k,c,h1,h2,by omega,h4,by rw[ha k h3];exact h5⟩
theorem OwnSl.agr {tg:τ} {v:XV} {sz len:Nat} {cs:List XV} (h:OwnSl M lo hi tag tg v sz len cs) (ha:Agr hi M M') (hh:hi<=hi'):OwnSl M' lo hi' tag tg v sz len cs:=h.keep (fun k hk hg=>⟨ha k hk,hg⟩) hh
theorem MachAt.agr {m:Nat} {l:List Rec} (h:MachAt M lo hi m l) (ha:Agr hi M M') (hh:hi<=hi'):MachAt M' lo hi' m l:=by
 obtain⟨tag,ps,vnum,vnames,vrows,vend,rs,le,h⟩:=h
 exact⟨tag,ps,vnum,vnames,vrows,vend,rs,le,h.lo_m,Nat.lt_of_lt_of_le h.m_hi hh,h.tg,by rw[ha m h.m_hi];exact h.row,h.num.agr ha hh,h.names.agr ha hh,h.rows.agr ha hh,fun i t x hi=>by
  obtain⟨q1,v,q2,q3⟩:=h.all i t x hi
  exact⟨q1,v,q2,q3.agr ha hh⟩,h.whole,h.nodup,h.ends.agr ha hh,h.ended,h.few⟩
theorem pidxGo_some {p:Int×Int}:∀{ps:List (Int×Int)} {i:Nat} {n:Int},pidxGo p ps i=some n->∃j:Nat,n=((i+j:Nat):Int)/\ps[j]?=some p
 | [],_,_,h=>by cases h
 | q::ps,i,n,h=>by
   unfold pidxGo at h
   split at h
   ·rename_i e
    cases h
    exact⟨0,rfl,by rw[<-e];rfl⟩
   ·obtain⟨j,h1,h2⟩:=pidxGo_some h
    exact⟨j+1,by rw[h1];omega,by simpa using h2⟩
theorem pidx_some {ps:List (Int×Int)} {p:Int×Int} {n:Int} (h:pidx ps p=some n):∃j:Nat,n=(j:Int)/\ps[j]?=some p:=by
 obtain⟨j,h1,h2⟩:=pidxGo_some h
 exact⟨j,by rw[h1];omega,h2⟩
theorem pidxGo_none {p:Int×Int}:∀{ps:List (Int×Int)} {i:Nat},pidxGo p ps i=none ↔ p ∉ ps
 | [],_=>by simp[pidxGo]
 | q::ps,i=>by
   unfold pidxGo
   split
   ·rename_i e;subst e;simp
   ·rename_i e
    rw[pidxGo_none]
    simp only[List.mem_cons,not_or]
    exact⟨fun h=>⟨fun q=>e q.symm,h⟩,fun h=>h.2⟩
theorem pidx_none {ps:List (Int×Int)} {p:Int×Int}:pidx ps p=none ↔ p ∉ ps:=pidxGo_none
theorem pidxGo_snoc {p q:Int×Int}:∀{ps:List (Int×Int)} {i:Nat},pidxGo p (ps++[q]) i=match pidxGo p ps i with | some n=>some n | none=>if q=p then some ((i+ps.length:Nat):Int) else none
 | [],i=>by simp[pidxGo]
 | r::ps,i=>by
   simp only[List.cons_append,pidxGo]
   split
   ·rfl
   ·rw[pidxGo_snoc]
    simp only[List.length_cons]
    rw[show i+1+ps.length=i+(ps.length+1) by omega]
theorem pidx_snoc (ps:List (Int×Int)) (p q:Int×Int):pidx (ps++[q]) p=match pidx ps p with | some n=>some n | none=>if q=p then some (ps.length:Int) else none:=by
 have:=pidxGo_snoc (p:=p) (q:=q) (ps:=ps) (i:=0)
 simpa [pidx] using this
end
end Go.Xs
namespace Go.Xs
noncomputable section
variable {P:Program} {M:Hp} {β:Type}
theorem mq_z {t kt m:Nat} {z:XV} (h:mq P t = .a kt z m):∃el,P.underlying t=some (.map kt el)/\zeroX P el=some z:=by
 unfold mq at h
 split at h
 ·rename_i kt' el hu
  split at h
  ·cases h
  ·rename_i z' fs hz hk
   split at h
   ·split at h
    ·cases h;exact⟨el,hu,hz⟩
    ·cases h
   ·cases h
  ·cases h
 ·cases h
theorem look_nil_a {t kt m:Nat} {z:XV} {xs:List XV} (hq:mq P t = .a kt z m) (h1:okU xs=true) (h2:xs.length=m) (M:Hp) (ok:Bool):lookupX P M t .nilm (.agg xs) ok=some ⟨outO ok z none,[],[]⟩:=by
 obtain⟨el,hu,hz⟩:=mq_z hq
 unfold lookupX
 simp only[hu,hz,keyOk_xs hq h1 h2,findIn]
 cases ok<;>rfl
theorem aidx_none {κ:Type} [DecidableEq κ] {l:List (Nat×κ×β)} {k:κ} (h:alook l k=none) (i:Nat):aidx l k i=none:=by
 have:=aidx_look l k i
 rw[h]at this
 cases hx:aidx l k i with
 | none=>rfl
 | some r=>rw[hx]at this;cases this
theorem ent_new {vf:β->XV} {t n kt c m:Nat} {z:β} {xs:List XV} {l:List (Nat×List Int×β)} (hq:mq P t = .a kt (vf z) m) (hM:tget M n=some (.map (entA vf l) c)) (h1:okU xs=true) (h2:xs.length=m) (h3:rowsA m l) (hn:alook l (unU xs)=none) :
 mapEntX P M t (.mm n) (.agg xs)=some ⟨.tup [vf z,.int .i64 (c:Nat)],[n],[(n,some (.map (entA vf (l++[(c,unU xs,z)])) (c+1)))]⟩:=by
 obtain⟨el,hu,hz⟩:=mq_z hq
 unfold mapEntX
 simp only[hu,hM,hz,keyOk_xs hq h1 h2,findX_K hq h1 h2 (entA vf l) 0 (rowsX_ent h3),findK_ent,aidx_none hn,Option.map_none]
 have e:=okU_map h1
 simp only[entA,List.map_append,List.map_cons,List.map_nil,keyA]
 rw[<-e]
theorem born_snoc {vf:β->XV} {c:Nat} {ks:List Int} {z:β}:∀{l:List (Nat×List Int×β)} (i:Nat),(∀e ∈ l,e.1<c)->bornX c (entA vf (l++[(c,ks,z)])) i=some (i+l.length)
 | [],i,_=>by simp[entA,bornX]
 | (b,k,v)::l,i,h=>by
   have hb:Nat.beq b c=false:=by
    have:b<c:=h (b,k,v) List.mem_cons_self
    cases hb:Nat.beq b c with
    | false=>rfl
    | true=>have:=Nat.eq_of_beq_eq_true hb;omega
   have:=born_snoc (vf:=vf) (c:=c) (ks:=ks) (z:=z) (l:=l) (i+1) fun e he=>h e (List.mem_cons_of_mem _ he)
   simp only[entA,List.cons_append,List.map_cons,bornX,hb]at this ⊢
   rw[this]
   simp only[List.length_cons]
   congr 1
   omega
theorem setVal_snoc {vf:β->XV} {c:Nat} {ks:List Int} {z v:β}:∀{l:List (Nat×List Int×β)},setVal (vf v) (entA vf (l++[(c,ks,z)])) l.length=entA vf (l++[(c,ks,v)])
 | []=>rfl
 | (b,k,u)::l=>by
   have:=setVal_snoc (vf:=vf) (c:=c) (ks:=ks) (z:=z) (v:=v) (l:=l)
   simp only[entA,List.cons_append,List.map_cons,List.length_cons,setVal]at this ⊢
   rw[this]
theorem ent_st {vf:β->XV} {n c c':Nat} {kk:IntKind} {ks:List Int} {z v:β} {l:List (Nat×List Int×β)} (hM:tget M n=some (.map (entA vf (l++[(c,ks,z)])) c')) (hl:∀e ∈ l,e.1<c) :
 entStX M (.mm n) (.int kk (c:Nat)) (vf v)=some ⟨.udf,[n],[(n,some (.map (entA vf (l++[(c,ks,v)])) c'))]⟩:=by
 unfold entStX
 simp only[Int.ofNat_eq_natCast]
 show (match tget M n with | some (.map es clock)=>_ | _=>_)=_
 simp only[hM,born_snoc 0 hl,Nat.zero_add,setVal_snoc]
theorem x_mapEntry {Γ:Facts} {env:Env} {key:Nat} (t:Nat) (m k:Operand):xop P Γ env M key (.mapEntry t m k)=mapEntX P M t (opv env m) (opv env k):=rfl
theorem x_entryStore {Γ:Facts} {env:Env} {key:Nat} (t:Nat) (m s x:Operand):xop P Γ env M key (.entryStore t m s x)=entStX M (opv env m) (opv env s) (opv env x):=rfl
def meX (P:Program) (M:Hp) (t n:Nat) (xs:List XV):Option XObj->Option Eff
 | some (.map es c)=>mapEntX P (tset .nil n (.map es c)) t (.mm n) (.agg xs)
 | _=>mapEntX P M t (.mm n) (.agg xs)
theorem me_loc {N:Hp} (t n:Nat) (xs:List XV) (h:tget N n=tget M n):mapEntX P M t (.mm n) (.agg xs)=mapEntX P N t (.mm n) (.agg xs):=by
 unfold mapEntX
 generalize P.underlying t=u
 cases u with
 | none=>rfl
 | some d=>cases d<;>first | rfl | (dsimp only;rw[h])
theorem me_eq (t n:Nat) (xs:List XV):mapEntX P M t (.mm n) (.agg xs)=meX P M t n xs (tget M n):=by
 unfold meX
 split
 ·rename_i es c h
  exact me_loc t n xs (by rw[tget_tset,if_pos rfl,h])
 ·rfl
theorem meX_new {vf:β->XV} {t n kt c m:Nat} {z:β} {xs:List XV} {l:List (Nat×List Int×β)} (hq:mq P t = .a kt (vf z) m) (h1:okU xs=true) (h2:xs.length=m) (h3:rowsA m l) (hn:alook l (unU xs)=none) (M:Hp) :
 meX P M t n xs (some (.map (entA vf l) c))=some ⟨.tup [vf z,.int .i64 (c:Nat)],[n],[(n,some (.map (entA vf (l++[(c,unU xs,z)])) (c+1)))]⟩ :=
 ent_new hq (by rw[tget_tset,if_pos rfl]) h1 h2 h3 hn
def esX (M:Hp) (n:Nat) (st v:XV):Option XObj->Option Eff
 | some (.map es c)=>entStX (tset .nil n (.map es c)) (.mm n) st v
 | _=>entStX M (.mm n) st v
theorem es_loc {N:Hp} (n:Nat) (st v:XV) (h:tget N n=tget M n):entStX M (.mm n) st v=entStX N (.mm n) st v:=by
 unfold entStX
 cases st with
 | int k i =>
   cases i with
   | ofNat b=>dsimp only;rw[h]
   | negSucc b=>rfl
 | _=>rfl
theorem es_eq (n:Nat) (st v:XV):entStX M (.mm n) st v=esX M n st v (tget M n):=by
 unfold esX
 split
 ·rename_i es c h
  exact es_loc n st v (by rw[tget_tset,if_pos rfl,h])
 ·rfl
theorem esX_new {vf:β->XV} {n c c':Nat} {kk:IntKind} {ks:List Int} {z v:β} {l:List (Nat×List Int×β)} (hl:∀e ∈ l,e.1<c) (M:Hp) :
 esX M n (.int kk (c:Nat)) (vf v) (some (.map (entA vf (l++[(c,ks,z)])) c'))=some ⟨.udf,[n],[(n,some (.map (entA vf (l++[(c,ks,v)])) c'))]⟩ :=
 ent_st (kk:=kk) (by rw[tget_tset,if_pos rfl]) hl
end
end Go.Xs
namespace Go.Xs
open Go.Proofs
set_option maxRecDepth 100000
set_option maxHeartbeats 4000000
theorem f317 (ρ:Rho) {M:Hp} {nx lo hi m:Nat} {tag:Nat->Tg} {v c1 c2 c3 c4:XV} {ps:List (Int×Int)} (hM:tget M m=some (.row [v,c1,c2,c3,c4])) (hm:m<nx) (h:NumAt M lo hi tag v ps) (hh:hi<=nx) (a c:Int):FOk Tryz.prog ρ 317 [.mp m 0,.agg [.int .u64 a,.int .u64 c]] M nx (Ret nx M (.tup [.int .i64 ((pidx ps (a,c)).getD 0),.bool (pidx ps (a,c)).isSome])):=by
 rcases h with ⟨rfl,rfl⟩ | ⟨_,k,cl,lv,rfl,h1,h2,h3,h4,h5,h6,h7⟩
 ·have hn:=fun M ok=>look_nil_a (P:=Tryz.prog) (t:=153) (xs:=[.int .u64 a,.int .u64 c]) ty153.2.2.2.1 rfl rfl M ok
  refine FOk.walk (m:=19) (rs:=[.tmp 4,.tmp 5]) follows Tryz.func317 (by kernel_rfl) rfl rfl rfl ?_
  conv in W _ _ _ _ _ _ _=>arg 4;whnf
  refine xs4 gy11 hM hn @Ret.eq_1 ?_;try exact⟨⟩
  exact⟨rfl,(Agr.refl _ _).set (Nat.le_refl _) _,by omega⟩
 ·refine FOk.walk (m:=19) (rs:=[.tmp 4,.tmp 5]) follows Tryz.func317 (by kernel_rfl) rfl rfl rfl ?_
  conv in W _ _ _ _ _ _ _=>arg 4;whnf
  refine xs5 gy11 hM h4 h7 @Ret.eq_1 ?_;try exact⟨⟩
  exact⟨(Agr.refl _ _).set (Nat.le_refl _) _,by omega⟩
theorem f295 (ρ:Rho) {M:Hp} {nx lo hi m:Nat} {tag:Nat->Tg} {v c1 c2 c3 c4:XV} {ps:List (Int×Int)} (hM:tget M m=some (.row [v,c1,c2,c3,c4])) (hm:m<nx) (h:NumAt M lo hi tag v ps) (hh:hi<=nx) (a c:Int):FOk Tryz.prog ρ 295 [.mp m 0,.agg [.int .u64 a,.int .u64 c]] M nx (Ret nx M (.tup [.int .i64 ((pidx ps (a,c)).getD 0),.bool (pidx ps (a,c)).isSome])):=by
 refine FOk.walk (m:=15) (rs:=[.tmp 4,.tmp 5]) follows Tryz.func295 (by kernel_rfl) rfl rfl rfl ?_
 conv in W _ _ _ _ _ _ _=>arg 4;whnf
 refine xs1 gy12 ?_;try exact⟨⟩
 have a1:=fun o=>(Agr.refl nx M).set (Nat.le_refl nx) o
 refine CD_fok (f317 ρ ((a1 _ m hm).trans hM) (by omega) (h.agr ((a1 _).le hh) (Nat.le_refl _)) (by omega) a c) (by decide) ?_ ?_
 ·refine xs1 gy12 ?_;try exact⟨⟩
 ·rintro⟨u,M2,n2⟩ ⟨g1,g2,g3⟩
  simp only at g1 g2 g3
  subst g1
  refine xs2 gy12 @Ret.eq_1 ?_;try exact⟨⟩
  exact⟨(a1 _).trans (g2.le (by omega)),by omega⟩
theorem f255 (ρ:Rho) {M:Hp} {nx lo hi m:Nat} {tag:Nat->Tg} {v c1 c2 c3 c4:XV} {ps:List (Int×Int)} (hM:tget M m=some (.row [c1,v,c2,c3,c4])) (hm:m<nx) (h:OwnSl M lo hi tag .names v 2 ps.length (ps.flatMap encPr)):FOk Tryz.prog ρ 255 [.mp m 0] M nx (Ret nx M (.int .i64 ps.length)):=by
 have hlen:=fun N=>h.sl.len (P:=Tryz.prog) (t:=154) ty154.2.2.2.2.2 N
 refine FOk.walk (m:=11) (rs:=[.tmp 2]) follows Tryz.func255 (by kernel_rfl) rfl rfl rfl ?_
 conv in W _ _ _ _ _ _ _=>arg 4;whnf
 refine xs4 gy13 hM hlen @Ret.eq_1 ?_;try exact⟨⟩
 exact⟨Agr.refl _ _,by omega⟩
theorem pr_row:∀(ps:List (Int×Int)) (i:Nat) (p:Int×Int),ps[i]?=some p->((ps.flatMap encPr).drop (i*2)).take 2=encPr p
 | [],_,_,h=>by simp at h
 | a::ps,0,p,h=>by
   simp only[List.getElem?_cons_zero,Option.some.injEq]at h
   subst h
   simp[encPr]
 | a::ps,i+1,p,h=>by
   simp only[List.getElem?_cons_succ]at h
   have:=pr_row ps i p h
   rw[<-this,List.flatMap_cons,show (i+1)*2=(encPr a).length+i*2 by simp[encPr];omega,<-List.drop_drop]
   simp
theorem f296 (ρ:Rho) {M:Hp} {nx lo hi m:Nat} {tag:Nat->Tg} {v c1 c2 c3 c4:XV} {ps:List (Int×Int)} (hM:tget M m=some (.row [c1,v,c2,c3,c4])) (hm:m<nx) (h:OwnSl M lo hi tag .names v 2 ps.length (ps.flatMap encPr)) (hh:hi<=nx) {i:Nat} {p:Int×Int} (hi:ps[i]?=some p) :
 FOk Tryz.prog ρ 296 [.mp m 0,.int .i64 (i:Nat)] M nx (Ret nx M (.tup [.agg (encPr p),.int .i64 0])):=by
 have hlen:=fun N=>h.sl.len (P:=Tryz.prog) (t:=154) ty154.2.2.2.2.2 N
 have hlt:i<ps.length:=(List.getElem?_eq_some_iff.1 hi).1
 have c0:¬ (i:Int)<0:=by omega
 have c1':¬ (ps.length:Int)<=i:=by omega
 obtain⟨n,o,hnb,hix,hld⟩:=h.sl.elem (P:=Tryz.prog) hlt (t:=154) (t':=302) ty154.2.2.2.1 ty302.1
 rw[pr_row ps i p hi]at hld
 have a1:=fun o=>(Agr.refl nx M).set (Nat.le_refl nx) o
 have g1:=fun q=>hld (tset M nx q) ((a1 q).le hh)
 simp only[encPr]at g1 ⊢
 clear hld
 refine FOk.walk (m:=25) (rs:=[.cell 4 302,.tmp 5]) follows Tryz.func296 (by kernel_rfl) rfl rfl rfl ?_
 conv in W _ _ _ _ _ _ _=>arg 4;whnf
 refine xs8 gy14 hM hlen c0 c1' hix g1 @Ret.eq_1 ?_;try exact⟨⟩
 exact⟨((a1 _).set (Nat.le_refl _) _),by omega⟩
theorem f256 (ρ:Rho) {M:Hp} {nx lo hi m:Nat} {tag:Nat->Tg} {v c1 c2 c3 c4:XV} {ps:List (Int×Int)} (hM:tget M m=some (.row [c1,v,c2,c3,c4])) (hm:m<nx) (h:OwnSl M lo hi tag .names v 2 ps.length (ps.flatMap encPr)) (hh:hi<=nx) {i:Nat} {p:Int×Int} (hi:ps[i]?=some p) :
 FOk Tryz.prog ρ 256 [.mp m 0,.int .i64 (i:Nat)] M nx (Ret nx M (.tup [.agg (encPr p),.int .i64 0])):=by
 refine FOk.walk (m:=16) (rs:=[.cell 4 302,.tmp 5]) follows Tryz.func256 (by kernel_rfl) rfl rfl rfl ?_
 conv in W _ _ _ _ _ _ _=>arg 4;whnf
 refine xs1 gy12 ?_;try exact⟨⟩
 have a1:=fun o=>(Agr.refl nx M).set (Nat.le_refl nx) o
 refine CN_fok (f296 ρ ((a1 _ m hm).trans hM) (by omega) (h.agr ((a1 _).le hh) (Nat.le_refl _)) (by omega) hi) ?_
 rintro⟨u,M2,n2⟩ ⟨g1,g2,g3⟩
 simp only[encPr]at g1 g2 g3
 subst g1
 have z:∀o,(tset M nx o)=(tset M nx o):=fun _=>rfl
 have y:=g2 nx (by omega)
 rw[tget_tset,if_pos rfl]at y
 refine xs4 gy12 y @Ret.eq_1 @encPr.eq_1 ?_;try exact⟨⟩
 exact⟨((a1 _).trans (g2.le (by omega))).set (Nat.le_refl _) _,by omega⟩
end Go.Xs
namespace Go.Xs
open Go.Proofs
set_option maxRecDepth 100000
set_option maxHeartbeats 4000000
def addP (ps:List (Int×Int)) (p:Int×Int):List (Int×Int):=if p ∈ ps then ps else ps++[p]
def AddPost (M:Hp) (nx lo m:Nat) (tag:Nat->Tg) (ps:List (Int×Int)) (p:Int×Int) (c2 c3 c4:XV) (r:Out):Prop :=
 ∃(i:Nat) (tag':Nat->Tg) (v0 v1:XV),r.1 = .int .i64 (i:Nat)/\(addP ps p)[i]?=some p/\pidx (addP ps p) p=some (i:Int)/\tget r.2.1 m=some (.row [v0,v1,c2,c3,c4])/\NumAt r.2.1 lo r.2.2 tag' v0 (addP ps p) /\
  OwnSl r.2.1 lo r.2.2 tag' .names v1 2 (addP ps p).length ((addP ps p).flatMap encPr)/\(∀k,k<nx->tag' k=tag k)/\(∀k,k<nx->k≠m->tag k ≠ .num->tag k ≠ .names->tget r.2.1 k=tget M k)/\Agr lo M r.2.1/\nx<=r.2.2
theorem alook_snoc {β:Type} {c:Nat} {k:List Int} {v:β}:∀{l:List (Nat×List Int×β)} (j:List Int),alook (l++[(c,k,v)]) j=match alook l j with | some u=>some u | none=>if j=k then some v else none
 | [],j=>by simp[alook]
 | (b,k',u)::l,j=>by
   simp only[List.cons_append,alook]
   split
   ·rfl
   ·exact alook_snoc j
theorem AddPost.le {M M':Hp} {nx lo m n1 n2:Nat} {tag:Nat->Tg} {ps:List (Int×Int)} {p:Int×Int} {c2 c3 c4 v:XV} (h:AddPost M nx lo m tag ps p c2 c3 c4 (v,M',n1)) (hn:n1<=n2):AddPost M nx lo m tag ps p c2 c3 c4 (v,M',n2):=by
 obtain⟨i,tag',v0,v1,h1,h2,h3,h4,h5,h6,h7,h8,h9,h10⟩:=h
 exact⟨i,tag',v0,v1,h1,h2,h3,h4,h5.agr (Agr.refl _ _) hn,h6.agr (Agr.refl _ _) hn,h7,h8,h9,Nat.le_trans h10 hn⟩
theorem f258 (ρ:Rho) {M:Hp} {nx lo hi m k:Nat} {tag:Nat->Tg} {v0 v1 c2 c3 c4:XV} {ps:List (Int×Int)} (hlo:lo<=m) (hmh:m<hi) (ht:tag m = .mach) (hM:tget M m=some (.row [v0,v1,c2,c3,c4])) (h0:NumAt M lo hi tag v0 ps) (h1:OwnSl M lo hi tag .names v1 2 ps.length (ps.flatMap encPr)) (hh:hi<=nx)
 (few:ps.length<=1000) (a c:Int) (hk:tget M k=some (.row [.int .u64 a,.int .u64 c])) (hkn:k<nx) (hkm:hi<=k) :
 FOk Tryz.prog ρ 258 [.mp m 0,.sl k 2 0 1 1] M nx (AddPost M nx lo m tag ps (a,c) c2 c3 c4):=by
 rcases h0 with ⟨rfl,rfl⟩ | ⟨hne,nk,cl,lv,rfl,q1,q2,q3,q4,q5,q6,q7⟩
 ·have hn:=fun M ok=>look_nil_a (P:=Tryz.prog) (t:=153) (xs:=[.int .u64 a,.int .u64 c]) ty153.2.2.2.1 rfl rfl M ok
  obtain⟨_,hcs,⟨rfl,_⟩ | ⟨hl,_⟩⟩:=h1
  rotate_right
  ·simp at hl
  refine FOk.walk (m:=62) (rs:=[.tmp 4]) follows Tryz.func258 (by kernel_rfl) rfl rfl rfl ?_
  conv in W _ _ _ _ _ _ _=>arg 4;whnf
  refine xs1 gy15 ?_;try exact⟨⟩
  refine W_loop (fun m' s=>(m'=1/\s=⟨tset (tset (tset (tset (tset (tset (tset .nil 0 (.mp m 0)) 1 (.sl k 2 0 1 1)) 4 (.int .i64 0)) 5 (.int .i64 (-1))) 10 (.sl k 2 0 1 1)) 11 (.int .i64 1)) 12 (.int .i64 0),M,nx+5⟩)\/(m'=0/\tget s.env 11=some (.int .i64 1)/\tget s.env 12=some (.int .i64 1)/\tget s.env 5=some (.int .i64 0)/\AddPost M nx lo m tag [] (a,c) c2 c3 c4 (.int .i64 0,s.M,s.nx))) 1 (.inl ⟨rfl,?_⟩) ?_
  ·rfl
  ·rintro m' ⟨env,M',nx'⟩ (⟨rfl,hs⟩ | ⟨rfl,e11,e12,e5,hp⟩)
   ·cases hs
    have hE:=fun M n=>meX_new (P:=Tryz.prog) (vf:=vI .i64) (t:=153) (n:=n) (c:=0) (z:=(0:Int)) (xs:=[.int .u64 a,.int .u64 c]) (l:=[]) ty153.2.2.2.1 rfl rfl (fun _ h=>by cases h) rfl M
    have hS:=fun M n=>esX_new (vf:=vI .i64) (n:=n) (c:=0) (c':=1) (kk:=.i64) (ks:=[a,c]) (z:=(0:Int)) (v:=(0:Int)) (l:=[]) (fun _ h=>by cases h) M
    simp only[entA,List.map_nil,vI,List.nil_append,List.map_cons,unU,Int.ofNat_eq_natCast,Int.cast_ofNat_Int]at hE hS
    refine xs10 gy15 hM hk hn @x_mapEntry @me_eq hE @x_entryStore @es_eq hS ?_;try exact⟨⟩
    refine⟨?_,0,by omega,.inr ⟨rfl,rfl,?_⟩⟩
    ·(repeat' apply And.intro)<;>(refine okP2_ap _ _ _ _ _ _ ?_ ?_ ?_<;>(intro x hx hy;first | (simp only[List.mem_cons,List.not_mem_nil,or_false]at hx hy;done) | (simp only[List.mem_cons,List.not_mem_nil,or_false]at hx hy;omega)))
    ·refine⟨0,fun k=>if k=nx+35 then .num else if k=nx+52 then .names else tag k,.mm (nx+35),.sl (nx+52) 2 0 1 1,rfl,by simp[addP],by simp[addP,pidx,pidxGo],(by(repeat (first | rw[tget_tset,if_pos rfl] | rw[tget_tset,if_neg (by omega)] | rw[tget_tdel,if_neg (by omega)]));try (first | rfl | assumption)),?_,?_,fun k hk=>?_,fun k hk h1 h2 h3=>(by(repeat (first | rw[tget_tset,if_pos rfl] | rw[tget_tset,if_neg (by omega)] | rw[tget_tdel,if_neg (by omega)]));try (first | rfl | assumption)),fun k hk=>(by(repeat (first | rw[tget_tset,if_pos rfl] | rw[tget_tset,if_neg (by omega)] | rw[tget_tdel,if_neg (by omega)]));try (first | rfl | assumption)),by simp only;omega⟩
     ·refine .inr ⟨by simp[addP],nx+35,1,[(0,[a,c],0)],rfl,by omega,by simp only;omega,by simp,(by(repeat (first | rw[tget_tset,if_pos rfl] | rw[tget_tset,if_neg (by omega)] | rw[tget_tdel,if_neg (by omega)]));try (first | rfl | assumption)),fun e he=>by simp only[List.mem_singleton]at he;subst he;rfl,fun e he=>by simp only[List.mem_singleton]at he;subst he;omega,fun a' b'=>?_⟩
      simp only[alook,addP,pidx,pidxGo]
      by_cases h:a'=a/\b'=c
      ·obtain⟨rfl,rfl⟩:=h
       simp[pidxGo]
      ·have h2:¬ ((a,c):Int×Int)=(a',b'):=fun e=>h (by cases e;exact⟨rfl,rfl⟩)
       have h3:¬ ([a',b']=[a,c]):=fun e=>h (by cases e;exact⟨rfl,rfl⟩)
       simp[h2,h3,pidxGo]
     ·exact⟨by simp[addP],by simp[addP,encPr],.inr ⟨by simp[addP],nx+52,by simp[addP],by omega,by simp only;omega,by simp,(by(repeat (first | rw[tget_tset,if_pos rfl] | rw[tget_tset,if_neg (by omega)] | rw[tget_tdel,if_neg (by omega)]));try (first | rfl | assumption))⟩⟩
     ·simp only
      rw[if_neg (by omega),if_neg (by omega)]
   ·simp only at e11 e12 e5 hp
    refine xs4 gy15 e11 e12 e5 ?_;try exact⟨⟩
    exact hp.le (by omega)
 ·obtain⟨_,hcs,⟨rfl,hl⟩ | ⟨hl,sk,rfl,s1,s2,s3,s4⟩⟩:=h1
  ·exact(hne (List.length_eq_zero_iff.1 hl)).elim
  have n1:=tag_ne ht q3 (by simp)
  have n2:=tag_ne ht s3 (by simp)
  have n3:=tag_ne q3 s3 (by simp)
  have hd:KEq m nk=False/\KEq nk m=False/\KEq m sk=False/\KEq sk m=False/\KEq nk sk=False/\KEq sk nk=False:=by simp only[KEq,eq_iff_iff,iff_false];exact⟨n1,n1.symm,n2,n2.symm,n3,n3.symm⟩
  have hal:=q7 a c
  cases hp:pidx ps (a,c) with
  | some j =>
    rw[hp]at hal
    obtain⟨i,rfl,hi⟩:=pidx_some hp
    have hmem:=List.mem_of_getElem? hi
    clear n1 n2 n3
    refine FOk.walk (m:=62) (rs:=[.tmp 4]) follows Tryz.func258 (by kernel_rfl) rfl rfl rfl ?_
    conv in W _ _ _ _ _ _ _=>arg 4;whnf
    refine xs1 gy15 ?_;try exact⟨⟩
    refine W_loop (fun m' s=>(m'=1/\s=⟨tset (tset (tset (tset (tset (tset (tset .nil 0 (.mp m 0)) 1 (.sl k 2 0 1 1)) 4 (.int .i64 0)) 5 (.int .i64 (-1))) 10 (.sl k 2 0 1 1)) 11 (.int .i64 1)) 12 (.int .i64 0),M,nx+5⟩)\/(m'=0/\tget s.env 11=some (.int .i64 1)/\tget s.env 12=some (.int .i64 1)/\tget s.env 5=some (.int .i64 (i:Nat))/\AddPost M nx lo m tag ps (a,c) c2 c3 c4 (.int .i64 (i:Nat),s.M,s.nx))) 1 (.inl ⟨rfl,?_⟩) ?_
    ·rfl
    ·rintro m' ⟨env,M',nx'⟩ (⟨rfl,hs⟩ | ⟨rfl,e11,e12,e5,hq⟩)
     ·cases hs
      refine xs6 gy15 hM hk q4 hal hd ?_;try exact⟨⟩
      refine⟨0,by omega,.inr ⟨rfl,rfl,?_⟩⟩
      have a1:Agr nx M (tset (tset M (nx+8) (.row [.int .u64 0,.int .u64 0])) (nx+8) (.row [.int .u64 a,.int .u64 c])):=(by(repeat (refine Agr.set ?_ (by omega) _));exact Agr.refl _ _)
      have hA:addP ps (a,c)=ps:=by simp[addP,hmem]
      refine⟨i,tag,.mm nk,.sl sk 2 0 ps.length ps.length,rfl,by rw[hA];exact hi,by rw[hA];exact hp,(a1 m (by omega)).trans hM,?_,?_,fun k hk=>rfl,fun k hk _ _ _=>a1 k hk,a1.le (by omega),by simp only;omega⟩
      ·rw[hA]
       exact .inr ⟨hne,nk,cl,lv,rfl,q1,by simp only;omega,q3,(a1 nk (by omega)).trans q4,q5,q6,q7⟩
      ·rw[hA]
       exact⟨by omega,hcs,.inr ⟨hl,sk,rfl,s1,by simp only;omega,s3,(a1 sk (by omega)).trans s4⟩⟩
     ·simp only at e11 e12 e5 hq
      refine xs4 gy15 e11 e12 e5 ?_;try exact⟨⟩
      exact hq.le (by omega)
  | none =>
    rw[hp]at hal
    have hE:=fun M n=>meX_new (P:=Tryz.prog) (vf:=vI .i64) (t:=153) (n:=n) (c:=cl) (z:=(0:Int)) (xs:=[.int .u64 a,.int .u64 c]) (l:=lv) ty153.2.2.2.1 rfl rfl q5 hal M
    have hS:=fun M n=>esX_new (vf:=vI .i64) (n:=n) (c:=cl) (c':=cl+1) (kk:=.i64) (ks:=[a,c]) (z:=(0:Int)) (v:=(ps.length:Int)) (l:=lv) q6 M
    simp only[vI,unU]at hE hS
    refine FOk.walk (m:=62) (rs:=[.tmp 4]) follows Tryz.func258 (by kernel_rfl) rfl rfl rfl ?_
    conv in W _ _ _ _ _ _ _=>arg 4;whnf
    refine xs1 gy15 ?_;try exact⟨⟩
    refine W_loop (fun m' s=>(m'=1/\s=⟨tset (tset (tset (tset (tset (tset (tset .nil 0 (.mp m 0)) 1 (.sl k 2 0 1 1)) 4 (.int .i64 0)) 5 (.int .i64 (-1))) 10 (.sl k 2 0 1 1)) 11 (.int .i64 1)) 12 (.int .i64 0),M,nx+5⟩)\/(m'=0/\tget s.env 11=some (.int .i64 1)/\tget s.env 12=some (.int .i64 1)/\tget s.env 5=some (.int .i64 ps.length)/\AddPost M nx lo m tag ps (a,c) c2 c3 c4 (.int .i64 ps.length,s.M,s.nx))) 1 (.inl ⟨rfl,?_⟩) ?_
    ·rfl
    ·rintro m' ⟨env,M',nx'⟩ (⟨rfl,hs⟩ | ⟨rfl,e11,e12,e5,hq⟩)
     ·cases hs
      refine xs14 gy15 hM hk q4 hal hd s4 hcs @x_mapEntry @me_eq hE @x_entryStore @es_eq hS ?_;try exact⟨⟩
      refine⟨?_,0,by omega,.inr ⟨rfl,rfl,?_⟩⟩
      ·(repeat' apply And.intro)<;>(refine okP2_ap _ _ _ _ _ _ ?_ ?_ ?_<;>(intro x hx hy;first | (simp only[List.mem_cons,List.not_mem_nil,or_false]at hx hy;done) | (simp only[List.mem_cons,List.not_mem_nil,or_false]at hx hy;omega)))
      ·have hA:addP ps (a,c)=ps++[(a,c)]:=if_neg (pidx_none.1 hp)
       have htk:List.take (ps.length*2) (ps.flatMap encPr)=ps.flatMap encPr:=by rw[<-hcs,List.take_length]
       refine⟨ps.length,fun k=>if k=nx+47 then .names else tag k,.mm nk,.sl (nx+47) 2 0 (ps.length+1) (ps.length+1),rfl,by rw[hA];simp,by rw[hA,pidx_snoc,hp];simp,(by(repeat (first | rw[tget_tset,if_pos rfl] | rw[tget_tset,if_neg (by omega)] | rw[tget_tdel,if_neg (by omega)]));try (first | rfl | assumption)),?_,?_,fun k hk=>?_,fun k hk h1 h2 h3=>?_,fun k hk=>(by(repeat (first | rw[tget_tset,if_pos rfl] | rw[tget_tset,if_neg (by omega)] | rw[tget_tdel,if_neg (by omega)]));try (first | rfl | assumption)),by simp only;omega⟩
       ·refine .inr ⟨by rw[hA];simp,nk,cl+1,lv++[(cl,[a,c],(ps.length:Int))],rfl,q1,by simp only;omega,by simp only;rw[if_neg (by omega)];exact q3,(by(repeat (first | rw[tget_tset,if_pos rfl] | rw[tget_tset,if_neg (by omega)] | rw[tget_tdel,if_neg (by omega)]));try (first | rfl | assumption)),fun e he=>?_,fun e he=>?_,fun a' b'=>?_⟩
        ·rcases List.mem_append.1 he with he | he
         ·exact q5 e he
         ·simp only[List.mem_singleton]at he;subst he;rfl
        ·rcases List.mem_append.1 he with he | he
         ·have:=q6 e he;omega
         ·simp only[List.mem_singleton]at he;subst he;simp only;omega
        ·rw[alook_snoc,q7,hA,pidx_snoc]
         cases pidx ps (a',b') with
         | some n=>rfl
         | none =>
           simp only
           by_cases h:a'=a/\b'=c
           ·obtain⟨rfl,rfl⟩:=h
            simp
           ·have h2:¬ ((a,c):Int×Int)=(a',b'):=fun e=>h (by cases e;exact⟨rfl,rfl⟩)
            have h3:¬ ([a',b']=[a,c]):=fun e=>h (by cases e;exact⟨rfl,rfl⟩)
            rw[if_neg h2,if_neg h3]
       ·refine⟨by rw[hA];simp;omega,by rw[hA,List.flatMap_append,List.length_append,hcs];simp[encPr];omega,.inr ⟨by rw[hA];simp,nx+47,by rw[hA];simp,by omega,by simp only;omega,by simp,?_⟩⟩
        rw[hA,List.flatMap_append]
        conv=>rhs;rw[<-htk]
        exact(by(repeat (first | rw[tget_tset,if_pos rfl] | rw[tget_tset,if_neg (by omega)] | rw[tget_tdel,if_neg (by omega)]));try (first | rfl | assumption))
       ·simp only
        rw[if_neg (by omega)]
       ·have e1:k≠nk:=fun e=>h2 (by rw[e];exact q3)
        have e2:k≠sk:=fun e=>h3 (by rw[e];exact s3)
        exact(by(repeat (first | rw[tget_tset,if_pos rfl] | rw[tget_tset,if_neg (by omega)] | rw[tget_tdel,if_neg (by omega)]));try (first | rfl | assumption))
     ·simp only at e11 e12 e5 hq
      refine xs4 gy15 e11 e12 e5 ?_;try exact⟨⟩
      exact hq.le (by omega)
end Go.Xs
namespace Go.Xs
theorem nodup_get {α:Type} {l:List α} (h:l.Nodup) {i j:Nat} {a:α} (hi:l[i]?=some a) (hj:l[j]?=some a):i=j:=by
 obtain⟨h1,e1⟩:=List.getElem?_eq_some_iff.1 hi
 obtain⟨h2,e2⟩:=List.getElem?_eq_some_iff.1 hj
 exact(List.getElem_inj h).1 (e1.trans e2.symm)
theorem addP_nodup {ps:List (Int×Int)} {p:Int×Int} (h:ps.Nodup):(addP ps p).Nodup:=by
 unfold addP
 split
 ·exact h
 ·rename_i hp
  rw[List.nodup_append]
  exact⟨h,by simp,fun a ha b hb=>by simp only[List.mem_singleton]at hb;subst hb;exact fun e=>hp (e ▸ ha)⟩
theorem addP_get {ps:List (Int×Int)} {p:Int×Int} {j:Nat} (hj:j<ps.length):(addP ps p)[j]?=ps[j]?:=by
 unfold addP
 split
 ·rfl
 ·rw[List.getElem?_append_left hj]
theorem mod_kind {r:Rec} (h:isMod r=true):r.kind=3\/r.kind=4:=by
 simp only[isMod,Bool.or_eq_true,decide_eq_true_eq]at h
 exact h
theorem rowOf_same {l:List Rec} {r:Rec} (hr:isMod r=true):rowOf (l++[r]) r.t r.x=rowOf l r.t r.x++[mdOf r]:=by
 rw[rowOf_snoc,if_pos]
 simp[modIs,hr]
theorem rowOf_other {l:List Rec} {r:Rec} {t x:Int} (h:(t,x)≠(r.t,r.x)):rowOf (l++[r]) t x=rowOf l t x:=by
 rw[rowOf_snoc,if_neg]
 intro hm
 simp only[modIs,Bool.and_eq_true,decide_eq_true_eq]at hm
 exact h (by rw[hm.2.1,hm.2.2])
theorem rowOf_nomod {l:List Rec} {r:Rec} {t x:Int} (h:isMod r=false):rowOf (l++[r]) t x=rowOf l t x:=by
 rw[rowOf_snoc,if_neg]
 simp[modIs,h]
theorem NumAt.keep {M M':Hp} {lo hi hi':Nat} {tag tag':Nat->Tg} {v:XV} {ps:List (Int×Int)} (h:NumAt M lo hi tag v ps) (hk:∀k,k<hi->tag k = .num->tget M' k=tget M k/\tag' k = .num) (hh:hi<=hi'):NumAt M' lo hi' tag' v ps:=by
 rcases h with q | ⟨h0,k,c,lv,q1,q2,q3,q4,q5,q6⟩
 ·exact .inl q
 ·obtain⟨e1,e2⟩:=hk k q3 q4
  exact .inr ⟨h0,k,c,lv,q1,q2,by omega,e2,by rw[e1];exact q5,q6⟩
theorem Mach.put {M M3:Hp} {lo hi n3 m mn i:Nat} {l:List Rec} {tag tag3:Nat->Tg} {ps:List (Int×Int)} {vnum vnames vrows vend v0 v1 vrows':XV} {rs rs':List XV} {le:List (Nat×Int×Bool)} {r:Rec} (h:Mach M lo hi m mn l tag ps vnum vnames vrows vend rs le) (hr:isMod r=true)
 (htag:∀k,k<hi->tag3 k=tag k) (row3:tget M3 m=some (.row [v0,v1,vrows',.int .i64 mn,vend])) (num:NumAt M3 lo n3 tag3 v0 (addP ps (r.t,r.x))) (names:OwnSl M3 lo n3 tag3 .names v1 2 (addP ps (r.t,r.x)).length ((addP ps (r.t,r.x)).flatMap encPr))
 (rows:OwnSl M3 lo n3 tag3 .rows vrows' 1 (addP ps (r.t,r.x)).length rs') (hi':(addP ps (r.t,r.x))[i]?=some (r.t,r.x))
 (new:∃v,rs'[i]?=some v/\OwnSl M3 lo n3 tag3 (.row i) v 2 (rowOf l r.t r.x++[mdOf r]).length ((rowOf l r.t r.x++[mdOf r]).flatMap encMd))
 (oth:∀j,j<ps.length->j≠i->rs'[j]?=rs[j]?) (keep:∀k j,k<hi->tag k = .row j->j≠i->tget M3 k=tget M k) (keepE:∀k,k<hi->tag k = .ended->tget M3 k=tget M k) (hn:hi<=n3) :
 Mach M3 lo n3 m mn (l++[r]) tag3 (addP ps (r.t,r.x)) v0 v1 vrows' vend rs' le:=by
 refine⟨h.lo_m,Nat.lt_of_lt_of_le h.m_hi hn,by rw[htag m h.m_hi];exact h.tg,row3,num,names,rows,fun j t x hj=>?_,fun t x hne=>?_,addP_nodup h.nodup,?_,fun t=>?_,?_⟩
 ·by_cases hji:j=i
  ·subst hji
   rw[hi']at hj
   cases hj
   rw[rowOf_same hr]
   exact⟨by simp,new⟩
  ·have hne:((t,x):Int×Int)≠(r.t,r.x):=fun e=>hji (nodup_get (addP_nodup h.nodup) hj (by rw[e];exact hi'))
   have hjl:j<ps.length:=by
    have hjl:=(List.getElem?_eq_some_iff.1 hj).1
    unfold addP at hjl hj
    split at hjl
    ·exact hjl
    ·rename_i hp
     rw[if_neg hp]at hj
     simp only[List.length_append,List.length_cons,List.length_nil]at hjl
     rcases Nat.lt_or_ge j ps.length with q | q
     ·exact q
     ·have:j=ps.length:=by omega
      subst this
      simp only[List.getElem?_concat_length,Option.some.injEq]at hj
      exact(hne hj.symm).elim
   rw[addP_get hjl]at hj
   obtain⟨q1,v,q2,q3⟩:=h.all j t x hj
   rw[rowOf_other hne]
   exact⟨q1,v,by rw[oth j hjl hji];exact q2,q3.keep (fun k hk hg=>⟨keep k j hk hg hji,by rw[htag k hk];exact hg⟩) hn⟩
 ·by_cases he:((t,x):Int×Int)=(r.t,r.x)
  ·rw[he]
   exact List.mem_of_getElem? hi'
  ·rw[rowOf_other he]at hne
   have:=h.whole t x hne
   unfold addP
   split
   ·exact this
   ·exact List.mem_append_left _ this
 ·rcases h.ends with q | ⟨k,c,q1,q2,q3,q4,q5⟩
  ·exact .inl q
  ·exact .inr ⟨k,c,q1,q2,by omega,by rw[htag k q3];exact q4,by rw[keepE k q3 q4];exact q5⟩
 ·rw[h.ended,endOf_snoc]
  unfold endStep
  rcases mod_kind hr with e | e<;>simp[e]
 ·have:=h.few
  unfold addP
  split<;>simp<;>omega
theorem putAt_set {v:XV}:∀(rs:List XV) (i:Nat),i<rs.length->putAt rs i [v]=rs.set i v
 | [],_,h=>by simp at h
 | a::rs,0,_=>by cases rs<;>rfl
 | a::rs,i+1,h=>by
   simp only[List.length_cons]at h
   simp only[putAt,List.set_cons_succ]
   rw[putAt_set rs i (by omega)]
theorem putAt_last {a v:XV}:∀(rs:List XV),putAt (rs++[a]) rs.length [v]=rs++[v]
 | []=>rfl
 | b::rs=>by
   simp only[List.cons_append,List.length_cons,putAt]
   rw[putAt_last rs]
theorem Mach.norm {M:Hp} {lo hi m mn:Nat} {l:List Rec} {tag:Nat->Tg} {ps:List (Int×Int)} {vnum vnames vrows vend:XV} {rs:List XV} {le:List (Nat×Int×Bool)} (h:Mach M lo hi m mn l tag ps vnum vnames vrows vend rs le) :
 Mach M lo hi m mn l (fun k=>if k<hi then tag k else .none) ps vnum vnames vrows vend rs le:=by
 have hk:∀(k:Nat) (tg:Tg),k<hi->tag k=tg->(if k<hi then tag k else Tg.none)=tg:=fun k tg h1 h2=>by rw[if_pos h1,h2]
 refine⟨h.lo_m,h.m_hi,hk _ _ h.m_hi h.tg,h.row,?_,h.names.keep (fun k h1 h2=>⟨rfl,hk _ _ h1 h2⟩) (Nat.le_refl _),h.rows.keep (fun k h1 h2=>⟨rfl,hk _ _ h1 h2⟩) (Nat.le_refl _),fun i t x hi=>?_,h.whole,h.nodup,?_,h.ended,h.few⟩
 ·rcases h.num with q | ⟨h0,k,c,lv,q1,q2,q3,q4,q5⟩
  ·exact .inl q
  ·exact .inr ⟨h0,k,c,lv,q1,q2,q3,hk _ _ q3 q4,q5⟩
 ·obtain⟨q1,v,q2,q3⟩:=h.all i t x hi
  exact⟨q1,v,q2,q3.keep (fun k h1 h2=>⟨rfl,hk _ _ h1 h2⟩) (Nat.le_refl _)⟩
 ·rcases h.ends with q | ⟨k,c,q1,q2,q3,q4,q5⟩
  ·exact .inl q
  ·exact .inr ⟨k,c,q1,q2,q3,hk _ _ q3 q4,q5⟩
end Go.Xs
namespace Go.Xs
theorem Mach.upd {M M':Hp} {lo hi hi' m mn mn':Nat} {l l':List Rec} {tag tag':Nat->Tg} {ps:List (Int×Int)} {vnum vnames vrows vend vend':XV} {rs:List XV} {le le':List (Nat×Int×Bool)} (h:Mach M lo hi m mn l tag ps vnum vnames vrows vend rs le)
 (row':tget M' m=some (.row [vnum,vnames,vrows,.int .i64 mn',vend'])) (keep:∀k,k<hi->k≠m->tag k ≠ .ended->tget M' k=tget M k) (htag:∀k,k<hi->tag' k=tag k) (hh:hi<=hi') (same:∀t x,rowOf l' t x=rowOf l t x)
 (ends:EndsAt M' lo hi' tag' vend' le') (ended:∀t,alook le' t=endOf l' t) (few:l.length<=l'.length):Mach M' lo hi' m mn' l' tag' ps vnum vnames vrows vend' rs le':=by
 have kk:∀(tg:Tg),tg ≠ .ended->tg ≠ .mach->∀k,k<hi->tag k=tg->tget M' k=tget M k/\tag' k=tg:=fun tg h1 h2 k hk hg =>
  ⟨keep k hk (fun e=>h2 (by rw[<-hg,e];exact h.tg)) (by rw[hg];exact h1),by rw[htag k hk];exact hg⟩
 refine⟨h.lo_m,Nat.lt_of_lt_of_le h.m_hi hh,by rw[htag m h.m_hi];exact h.tg,row',h.num.keep (kk _ (by simp) (by simp)) hh,h.names.keep (kk _ (by simp) (by simp)) hh,h.rows.keep (kk _ (by simp) (by simp)) hh,fun i t x hi=>?_,fun t x hne=>h.whole t x (by rw[<-same];exact hne),h.nodup,ends,ended,Nat.le_trans h.few few⟩
 obtain⟨q1,v,q2,q3⟩:=h.all i t x hi
 rw[same]
 exact⟨q1,v,q2,q3.keep (kk _ (by simp) (by simp)) hh⟩
theorem Mach.doEnd {M M':Hp} {lo hi n' m mn mn' E c':Nat} {l l':List Rec} {tag:Nat->Tg} {ps:List (Int×Int)} {vnum vnames vrows vend:XV} {rs:List XV} {le le':List (Nat×Int×Bool)} (h:Mach M lo hi m mn l tag ps vnum vnames vrows vend rs le)
 (hE:(lo<=E/\E<hi/\tag E = .ended)\/hi<=E) (hEn:E<n') (row:tget M' m=some (.row [vnum,vnames,vrows,.int .i64 mn',.mm E])) (map:tget M' E=some (.map (entU vB le') c')) (keep:∀k,k<hi->k≠m->k≠E->tget M' k=tget M k) (hn:hi<=n')
 (same:∀t x,rowOf l' t x=rowOf l t x) (ended:∀t,alook le' t=endOf l' t) (few:l.length<=l'.length):∃tag',Mach M' lo n' m mn' l' tag' ps vnum vnames vrows (.mm E) rs le':=by
 have hm:=h.m_hi
 have hlo:=h.lo_m
 refine⟨fun k=>if k=E then .ended else tag k,h.upd row (fun k h1 h2 h3=>keep k h1 h2 fun e=>?_) (fun k hk=>?_) hn same (.inr ⟨E,c',rfl,by omega,hEn,if_pos rfl,map⟩) ended few⟩
 ·rcases hE with ⟨_,_,q⟩ | q
  ·exact h3 (by rw[e];exact q)
  ·omega
 ·split
  ·rename_i e
   rcases hE with ⟨_,_,q⟩ | q
   ·rw[e];exact q.symm
   ·omega
  ·rfl
theorem Mach.many {M M':Hp} {lo hi n' m mn mn':Nat} {l:List Rec} {tag:Nat->Tg} {ps:List (Int×Int)} {vnum vnames vrows vend:XV} {rs:List XV} {le:List (Nat×Int×Bool)} (h:Mach M lo hi m mn l tag ps vnum vnames vrows vend rs le)
 (row:tget M' m=some (.row [vnum,vnames,vrows,.int .i64 mn',vend])) (keep:∀k,k<hi->k≠m->tget M' k=tget M k) (hn:hi<=n'):Mach M' lo n' m mn' l tag ps vnum vnames vrows vend rs le:=by
 refine h.upd row (fun k h1 h2 _=>keep k h1 h2) (fun _ _=>rfl) hn (fun _ _=>rfl) ?_ h.ended (Nat.le_refl _)
 rcases h.ends with q | ⟨k,c,q1,q2,q3,q4,q5⟩
 ·exact .inl q
 ·exact .inr ⟨k,c,q1,q2,by omega,q4,by rw[keep k q3 (fun e=>by rw[e,h.tg]at q4;cases q4)];exact q5⟩
theorem endOf_idle {l:List Rec} {r:Rec} (h1:r.kind≠1) (h6:r.kind≠6) (h7:r.kind≠7) (t:Int):endOf (l++[r]) t=endOf l t:=by
 rw[endOf_snoc]
 unfold endStep
 simp[h1,h6,h7]
theorem endOf_begin {l:List Rec} {r:Rec} (h1:r.kind=1) (t:Int):endOf (l++[r]) t=if t=r.t then some false else endOf l t:=by
 rw[endOf_snoc]
 unfold endStep
 by_cases e:r.t=t
 ·rw[if_pos e,if_pos h1,if_pos e.symm]
 ·rw[if_neg e,if_neg fun q=>e q.symm]
theorem endOf_end {l:List Rec} {r:Rec} (h1:r.kind=6\/r.kind=7) (t:Int):endOf (l++[r]) t=if t=r.t then some true else endOf l t:=by
 rw[endOf_snoc]
 unfold endStep
 by_cases e:r.t=t
 ·rw[if_pos e,if_neg (by omega),if_pos h1,if_pos e.symm]
 ·rw[if_neg e,if_neg fun q=>e q.symm]
theorem nomod {r:Rec} (h3:r.kind≠3) (h4:r.kind≠4):isMod r=false:=by simp[isMod,h3,h4]
theorem SlAt.wk {M:Hp} {b b':Nat} {v:XV} {sz len:Nat} {row:List XV} (h:SlAt M b v sz len row) (hb:b<=b'):SlAt M b' v sz len row:=by
 refine⟨h.1,?_⟩
 rcases h.2 with h | ⟨n,off,cap,cs,h1,h2,h3⟩
 ·exact .inl h
 ·exact .inr ⟨n,off,cap,cs,h1,by omega,h3⟩
mutual
theorem ExAt.wk {M:Hp} {b b':Nat} (hb:b<=b'):∀{e:Ex} {cs:List XV},ExAt M b e cs->ExAt M b' e cs
 | .mk k x y ps,cs,h=>by
   simp only[ExAt]at h ⊢
   obtain⟨v,row,h1,h2,h3⟩:=h
   exact⟨v,row,h1,h2.wk hb,ExsAt.wk hb h3⟩
theorem ExsAt.wk {M:Hp} {b b':Nat} (hb:b<=b'):∀{es:List Ex} {row:List XV},ExsAt M b es row->ExsAt M b' es row
 | [],_,_=>by simp only[ExsAt]
 | e::es,row,h=>by
   simp only[ExsAt]at h ⊢
   exact⟨ExAt.wk hb h.1,ExsAt.wk hb h.2⟩
end
theorem RecAt.wk {M:Hp} {b b':Nat} {r:Rec} {cs:List XV} (h:RecAt M b r cs) (hb:b<=b'):RecAt M b' r cs:=by
 obtain⟨pc,ve,h1,h2,h3⟩:=h
 exact⟨pc,ve,h1,h2.wk hb,SlAt.wk h3 hb⟩
end Go.Xs
namespace Go.Xs
noncomputable section
variable {M M':Hp} {p q:Nat->Prop}
def SlAtP (M:Hp) (p:Nat->Prop) (v:XV) (sz len:Nat) (row:List XV):Prop :=
 len<=9223372036854775807/\((v = .nils/\len=0/\row=[])\/∃n off cap cs,v = .sl n sz off len cap/\p n/\hrd M n=some cs/\off+len*sz<=cs.length/\row=(cs.drop off).take (len*sz))
mutual
def ExAtP (M:Hp) (p:Nat->Prop):Ex->List XV->Prop
 | .mk k x y ps,cs=>∃v row,cs=[.int .i64 k,.int .u64 x,.int .u64 y,v]/\SlAtP M p v 4 ps.length row/\ExsAtP M p ps row
def ExsAtP (M:Hp) (p:Nat->Prop):List Ex->List XV->Prop
 | [],_=>True
 | e::es,row=>ExAtP M p e (row.take 4)/\ExsAtP M p es (row.drop 4)
end
theorem SlAtP.keep {v:XV} {sz len:Nat} {row:List XV} (h:SlAtP M p v sz len row) (hk:∀k,p k->tget M' k=tget M k/\q k):SlAtP M' q v sz len row:=by
 refine⟨h.1,?_⟩
 rcases h.2 with h | ⟨n,off,cap,cs,h1,h2,h3,h4⟩
 ·exact .inl h
 ·obtain⟨e1,e2⟩:=hk n h2
  exact .inr ⟨n,off,cap,cs,h1,e2,by unfold hrd at h3 ⊢;rw[e1];exact h3,h4⟩
theorem SlAt.pp {b:Nat} {v:XV} {sz len:Nat} {row:List XV} (h:SlAt M b v sz len row):SlAtP M (· < b) v sz len row:=h
theorem SlAtP.lt {b:Nat} {v:XV} {sz len:Nat} {row:List XV} (h:SlAtP M (· < b) v sz len row):SlAt M b v sz len row:=h
mutual
theorem ExAtP.keep (hk:∀k,p k->tget M' k=tget M k/\q k):∀{e:Ex} {cs:List XV},ExAtP M p e cs->ExAtP M' q e cs
 | .mk k x y ps,cs,h=>by
   simp only[ExAtP]at h ⊢
   obtain⟨v,row,h1,h2,h3⟩:=h
   exact⟨v,row,h1,h2.keep hk,ExsAtP.keep hk h3⟩
theorem ExsAtP.keep (hk:∀k,p k->tget M' k=tget M k/\q k):∀{es:List Ex} {row:List XV},ExsAtP M p es row->ExsAtP M' q es row
 | [],_,_=>by simp only[ExsAtP]
 | e::es,row,h=>by
   simp only[ExsAtP]at h ⊢
   exact⟨ExAtP.keep hk h.1,ExsAtP.keep hk h.2⟩
end
mutual
theorem ExAt.pp {b:Nat}:∀{e:Ex} {cs:List XV},ExAt M b e cs ↔ ExAtP M (· < b) e cs
 | .mk k x y ps,cs=>by
   simp only[ExAt,ExAtP]
   exact⟨fun⟨v,row,h1,h2,h3⟩=>⟨v,row,h1,h2,ExsAt.pp.1 h3⟩,fun⟨v,row,h1,h2,h3⟩=>⟨v,row,h1,h2,ExsAt.pp.2 h3⟩⟩
theorem ExsAt.pp {b:Nat}:∀{es:List Ex} {row:List XV},ExsAt M b es row ↔ ExsAtP M (· < b) es row
 | [],_=>by simp only[ExsAt,ExsAtP]
 | e::es,row=>by
   simp only[ExsAt,ExsAtP]
   exact and_congr ExAt.pp ExsAt.pp
end
theorem ExsAtP.get:∀{es:List Ex} {row:List XV} {i:Nat} {e:Ex},ExsAtP M p es row->es[i]?=some e->ExAtP M p e ((row.drop (i*4)).take 4)
 | [],_,_,_,_,h=>by simp at h
 | e::es,row,0,e',h,he=>by
   simp only[ExsAtP]at h
   simp only[List.getElem?_cons_zero,Option.some.injEq]at he
   subst he
   simpa using h.1
 | e::es,row,i+1,e',h,he=>by
   simp only[ExsAtP]at h
   simp only[List.getElem?_cons_succ]at he
   have:=ExsAtP.get h.2 he
   rw[List.drop_drop]at this
   rw[show (i+1)*4=4+i*4 by omega]
   exact this
theorem ExsAtP.of:∀{es:List Ex} {row:List XV},(∀i e,es[i]?=some e->ExAtP M p e ((row.drop (i*4)).take 4))->ExsAtP M p es row
 | [],_,_=>by simp only[ExsAtP]
 | e::es,row,h=>by
   simp only[ExsAtP]
   refine⟨by simpa using h 0 e rfl,ExsAtP.of fun i e' he=>?_⟩
   have:=h (i+1) e' (by simpa using he)
   rw[List.drop_drop,show 4+i*4=(i+1)*4 by omega]
   exact this
theorem SlAtP.cell {v:XV} {sz len:Nat} {row:List XV} (h:SlAtP M p v sz len row):cellsOf v=[v]/\plain1 v=true:=by
 rcases h.2 with ⟨rfl,_⟩ | ⟨n,off,cap,cs,rfl,_⟩<;>exact⟨rfl,rfl⟩
theorem ExAtP.plain {e:Ex} {cs:List XV} (h:ExAtP M p e cs):cs.length=4/\cs.all plain1=true:=by
 obtain⟨k,x,y,ps⟩:=e
 simp only[ExAtP]at h
 obtain⟨v,row,rfl,h2,_⟩:=h
 have:=h2.cell.2
 exact⟨rfl,by rw[List.all_cons,List.all_cons,List.all_cons,List.all_cons,this];rfl⟩
theorem ExsAtP.plain:∀{es:List Ex} {row:List XV},ExsAtP M p es row->row.length=es.length*4->row.all plain1=true
 | [],row,_,h=>by
   have:row=[]:=List.length_eq_zero_iff.1 (by simpa using h)
   subst this
   rfl
 | e::es,row,h,hl=>by
   simp only[ExsAtP]at h
   rw[<-List.take_append_drop 4 row,List.all_append,h.1.plain.2,ExsAtP.plain h.2 (by simp only[List.length_cons]at hl;rw[List.length_drop];omega)]
   rfl
theorem over_eq:∀(cs vs:List XV),vs.length<=cs.length->putAt.over cs vs=vs++cs.drop vs.length
 | cs,[],_=>by simp[putAt.over]
 | [],v::vs,h=>by simp at h
 | c::cs,v::vs,h=>by
   simp only[List.length_cons]at h
   simp only[putAt.over,List.length_cons,List.drop_succ_cons,List.cons_append]
   rw[over_eq cs vs (by omega)]
theorem putAt_eq:∀(cs:List XV) (n:Nat) (vs:List XV),n+vs.length<=cs.length->putAt cs n vs=cs.take n++(vs++cs.drop (n+vs.length))
 | cs,0,vs,h=>by
   rw[List.take_zero,List.nil_append,Nat.zero_add,<-over_eq cs vs (by omega)]
   cases cs<;>rfl
 | [],n+1,vs,h=>by simp at h
 | c::cs,n+1,vs,h=>by
   simp only[List.length_cons]at h
   simp only[putAt,List.take_succ_cons,List.cons_append]
   rw[putAt_eq cs n vs (by omega),show n+1+vs.length=(n+vs.length)+1 by omega,List.drop_succ_cons]
theorem putAt_len (cs:List XV) (n:Nat) (vs:List XV) (h:n+vs.length<=cs.length):(putAt cs n vs).length=cs.length:=by
 rw[putAt_eq cs n vs h]
 simp
 omega
theorem putAt_blk (cs:List XV) (sz i j L:Nat) (vs:List XV) (hv:vs.length=sz) (hc:cs.length=L*sz) (hi:i<L) (hj:j<L):((putAt cs (i*sz) vs).drop (j*sz)).take sz=if j=i then vs else (cs.drop (j*sz)).take sz:=by
 have h1:(i+1)*sz<=L*sz:=Nat.mul_le_mul_right _ hi
 have h2:(j+1)*sz<=L*sz:=Nat.mul_le_mul_right _ hj
 rw[Nat.add_mul,Nat.one_mul]at h1 h2
 rw[putAt_eq cs _ vs (by omega)]
 rcases Nat.lt_trichotomy j i with h | h | h
 ·have h3:(j+1)*sz<=i*sz:=Nat.mul_le_mul_right _ h
  rw[Nat.add_mul,Nat.one_mul]at h3
  rw[if_neg (by omega),List.drop_append_of_le_length (by rw[List.length_take];omega),List.take_append_of_le_length (by rw[List.length_drop,List.length_take];omega),List.drop_take,List.take_take]
  congr 1
  omega
 ·subst h
  have e:(List.take (j*sz) cs).length=j*sz:=by rw[List.length_take];omega
  rw[if_pos rfl,List.drop_append,e,Nat.sub_self,List.drop_zero,List.drop_eq_nil_of_le (by omega),List.nil_append,List.take_append_of_le_length (by omega),List.take_of_length_le (by omega)]
 ·have h3:(i+1)*sz<=j*sz:=Nat.mul_le_mul_right _ h
  rw[Nat.add_mul,Nat.one_mul]at h3
  rw[if_neg (by omega)]
  have e:(List.take (i*sz) cs).length=i*sz:=by rw[List.length_take];omega
  rw[List.drop_append,e,List.drop_eq_nil_of_le (by omega),List.nil_append,List.drop_append,hv,List.drop_eq_nil_of_le (by omega),List.nil_append,List.drop_drop]
  congr 2
  omega
theorem SlAt.el2 {b:Nat} {v:XV} {sz len:Nat} {row:List XV} (h:SlAt M b v sz len row):∃rds:List Nat,(∀k ∈ rds,k<b)/\∀N,Agr b M N->Go.Xs.el2 N v (some sz)=some (row,len,rds):=by
 rcases h.2 with ⟨rfl,rfl,rfl⟩ | ⟨n,off,cap,cs,rfl,h2,h3,h4,rfl⟩
 ·exact⟨[],by simp,fun N _=>el2_nils sz⟩
 ·refine⟨[n],by simp[h2],fun N hN=>?_⟩
  rw[el2_sl,hN n h2]
  unfold hrd at h3
  split at h3
  ·rename_i cs' e;cases h3;rw[e];exact elC_row _ _ _ _ _ h4
  ·rename_i cs' e;cases h3;rw[e];exact elC_cst _ _ _ _ _ h4
  ·cases h3
theorem apC_zero {P:Program} {key:Nat} (t sz eb k:Nat) (zs:List XV) (r:List Nat) (x:XV) (h1:eb<=128) (h2:1<=sz) (h3:zs.length=sz) (hk:tget M k=some (.row [])):apC P M key t (.sl k sz 0 0 0) x (some (sz,eb,zs)) (some ([],0,r))=some ⟨.sl k sz 0 0 0,k::r,[(k,some (.row []))]⟩:=by
 simp only[apC,Nat.ble_eq_true_of_le h1,Nat.ble_eq_true_of_le h2,h3,Nat.beq_refl,hrow,hk,List.all_nil,Nat.zero_mul,Nat.add_zero,Nat.zero_add]
 rfl
theorem apC_all {P:Program} {key:Nat} (t sz eb k n:Nat) (zs ys:List XV) (r:List Nat) (x:XV) (h1:eb<=128) (h2:1<=sz) (h3:zs.length=sz) (h4:1<=n) (h6:n<=big) (h5:ys.all plain1=true) (hk:tget M k=some (.row [])) (hr:k ∉ r) :
 apC P M key t (.sl k sz 0 0 0) x (some (sz,eb,zs)) (some (ys,n,r))=some ⟨.sl key sz 0 n n,k::r,[(k,none),(key,some (.row ys))]⟩:=by
 have hl:lmem r k=false:=by
  cases hh:lmem r k with
  | false=>rfl
  | true=>exact(hr ((lmem_iff _ _).1 hh)).elim
 rw[apC_full t sz eb k 0 n zs ys r x h1 h2 h3 h4 (by omega) h5,hk]
 simp[apE,hl,Nat.ble_eq_true_of_le]
end
end Go.Xs
namespace Go.Xs
structure TxS where
 t:Int
 b:Int
 e:Int
 s:Int
 n:Int
structure ModS where
 pos:Int
 t:Int
 x:Int
 w:Int
 n:Int
 v:Int
 dead:Bool
 fin:Bool
structure LookS where
 pos:Int
 place:Int
 t:Int
 x:Int
 w:Int
 n:Int
 pred:Bool
 m:Bool
structure HS where
 nrec:Nat
 crec:List XV
 txs:List TxS
 places:Nat->Int->List Int
 num:Int->Option Int
 com:List Int
 mods:List ModS
 ver:Int->Int->Int->Option Int
 looks:List LookS
 obj:Int->Option Int
def encTx (a:TxS):List XV:=[.int .u64 a.t,.int .i64 a.b,.int .i64 a.e,.int .i64 a.s,.int .i64 a.n]
def encMod (a:ModS):List XV:=[.int .i64 a.pos,.int .u64 a.t,.int .u64 a.x,.int .u64 a.w,.int .u64 a.n,.int .u64 a.v,.bool a.dead,.bool a.fin]
def encLook (a:LookS):List XV:=[.int .i64 a.pos,.int .i64 a.place,.int .u64 a.t,.int .u64 a.x,.int .u64 a.w,.int .u64 a.n,.bool a.pred,.bool a.m]
inductive Hg where
 | none | hist | recs | txs | num | com | mods | ver | looks | obj | known (i:Nat) | kmap (i:Nat) | slot (i:Nat) (x:Int)
structure BornOk {κ β:Type} (l:List (Nat×κ×β)) (c:Nat):Prop where
 lt:∀e ∈ l,e.1<c
 nd:(l.map (·.1)).Nodup
 kd:(l.map (·.2.1)).Nodup
theorem born_nil {κ β:Type} (c:Nat):BornOk ([]:List (Nat×κ×β)) c:=⟨by simp,by simp,by simp⟩
theorem aput_births {κ β:Type} [DecidableEq κ]:∀(l:List (Nat×κ×β)) (c:Nat) (k:κ) (v:β),(aput l c k v).map (·.1)=if (alook l k).isSome then l.map (·.1) else l.map (·.1)++[c]
 | [],c,k,v=>rfl
 | (b,k',u)::l,c,k,v=>by
   simp only[aput,alook]
   split
   ·simp
   ·rw[List.map_cons,aput_births l c k v]
    split<;>simp
theorem aput_keys {κ β:Type} [DecidableEq κ]:∀(l:List (Nat×κ×β)) (c:Nat) (k:κ) (v:β),(aput l c k v).map (·.2.1)=if (alook l k).isSome then l.map (·.2.1) else l.map (·.2.1)++[k]
 | [],c,k,v=>rfl
 | (b,k',u)::l,c,k,v=>by
   simp only[aput,alook]
   split
   ·simp
   ·rw[List.map_cons,aput_keys l c k v]
    split<;>simp
theorem alook_none {κ β:Type} [DecidableEq κ]:∀{l:List (Nat×κ×β)} {k:κ},alook l k=none->k ∉ l.map (·.2.1)
 | [],k,_=>by simp
 | (b,k',u)::l,k,h=>by
   simp only[alook]at h
   split at h
   ·cases h
   ·rename_i e
    have:=alook_none h
    rw[List.map_cons,List.mem_cons,not_or]
    exact⟨e,this⟩
theorem alook_of_mem {κ β:Type} [DecidableEq κ]:∀{l:List (Nat×κ×β)},(l.map (·.2.1)).Nodup->∀e ∈ l,alook l e.2.1=some e.2.2
 | [],_,e,he=>by cases he
 | (b,k',u)::l,hn,e,he=>by
   simp only[alook]
   rw[List.map_cons,List.nodup_cons]at hn
   rcases List.mem_cons.1 he with rfl | he
   ·rw[if_pos rfl]
   ·rw[if_neg fun q=>hn.1 (List.mem_map.2 ⟨e,he,q⟩)]
    exact alook_of_mem hn.2 e he
theorem mem_of_alook {κ β:Type} [DecidableEq κ]:∀{l:List (Nat×κ×β)} {k:κ} {v:β},alook l k=some v->∃b,(b,k,v) ∈ l
 | [],k,v,h=>by cases h
 | (b,k',u)::l,k,v,h=>by
   simp only[alook]at h
   split at h
   ·rename_i e;subst e;cases h;exact⟨b,List.mem_cons_self⟩
   ·obtain⟨b',h'⟩:=mem_of_alook h;exact⟨b',List.mem_cons_of_mem _ h'⟩
theorem born_put {κ β:Type} [DecidableEq κ] {l:List (Nat×κ×β)} {c:Nat} {k:κ} {v:β} (h:BornOk l c):BornOk (aput l c k v) (acl l c k):=by
 have hb:=aput_births l c k v
 have hk:=aput_keys l c k v
 have lt:∀b ∈ l.map (·.1),b<c:=fun b hb=>by
  obtain⟨e,he,rfl⟩:=List.mem_map.1 hb
  exact h.lt e he
 unfold acl
 by_cases hs:(alook l k).isSome
 ·rw[if_pos hs]at hb hk ⊢
  exact⟨fun e he=>lt _ (by rw[<-hb];exact List.mem_map.2 ⟨e,he,rfl⟩),by rw[hb];exact h.nd,by rw[hk];exact h.kd⟩
 ·rw[if_neg hs]at hb hk ⊢
  refine⟨fun e he=>?_,?_,?_⟩
  ·have:e.1 ∈ l.map (·.1)++[c]:=by rw[<-hb];exact List.mem_map.2 ⟨e,he,rfl⟩
   rcases List.mem_append.1 this with q | q
   ·have:=lt _ q;omega
   ·rw[List.mem_singleton]at q;omega
  ·rw[hb,List.nodup_append]
   refine⟨h.nd,by simp,fun a ha b hb'=>?_⟩
   rw[List.mem_singleton]at hb'
   have:=lt a ha
   omega
  ·rw[hk,List.nodup_append]
   refine⟨h.kd,by simp,fun a ha b hb'=>?_⟩
   rw[List.mem_singleton]at hb'
   subst hb'
   intro e
   subst e
   exact alook_none (by simpa using hs) ha
def KnownAt (M:Hp) (lo hi:Nat) (tag:Nat->Hg) (i:Nat) (a:TxS) (pl:Int->List Int) (v:XV):Prop :=
 ∃rk mk c lm,v = .mp rk 0/\lo<=rk/\rk<hi/\tag rk = .known i/\tget M rk=some (.row (encTx a++[.mm mk]))/\lo<=mk/\mk<hi/\tag mk = .kmap i/\tget M mk=some (.map (entU vX lm) c) /\
  (BornOk lm c/\∀x,alook lm x=none->pl x=[])/\∀x v,alook lm x=some v->pl x≠[]/\OwnSl M lo hi tag (.slot i x) v 1 (pl x).length ((pl x).map (XV.int .i64))
structure Hist (M:Hp) (lo hi h:Nat) (S:HS) (tag:Nat->Hg) (vrec vtxs vcom vmods vlook:XV) (nk vk ok cn cv co:Nat) (ptrs:List XV) (lnum:List (Nat×Int×Int)) (lver:List (Nat×List Int×Int)) (lobj:List (Nat×Int×Int)):Prop where
 lo_h:lo<=h
 h_hi:h<hi
 tg:tag h = .hist
 row:tget M h=some (.row [vrec,vtxs,.mm nk,vcom,vmods,.mm vk,vlook,.mm ok])
 recs:OwnSl M lo hi tag .recs vrec 11 S.nrec S.crec
 txs:OwnSl M lo hi tag .txs vtxs 1 S.txs.length ptrs
 known:∀i a,S.txs[i]?=some a->∃v,ptrs[i]?=some v/\KnownAt M lo hi tag i a (S.places i) v
 nlo:lo<=nk
 nhi:nk<hi
 ntg:tag nk = .num
 num:tget M nk=some (.map (entU (vI .i64) lnum) cn)
 numS:∀t,alook lnum t=S.num t
 com:OwnSl M lo hi tag .com vcom 1 S.com.length (S.com.map (XV.int .u64))
 mods:OwnSl M lo hi tag .mods vmods 8 S.mods.length (S.mods.flatMap encMod)
 vlo:lo<=vk
 vhi:vk<hi
 vtg:tag vk = .ver
 ver:tget M vk=some (.map (entA (vI .i64) lver) cv)
 vrow:rowsA 3 lver
 verS:∀x w n,alook lver [x,w,n]=S.ver x w n
 looks:OwnSl M lo hi tag .looks vlook 8 S.looks.length (S.looks.flatMap encLook)
 olo:lo<=ok
 ohi:ok<hi
 otg:tag ok = .obj
 obj:tget M ok=some (.map (entU (vI .i64) lobj) co)
 objS:∀x,alook lobj x=S.obj x
def HistAt (M:Hp) (lo hi h:Nat) (S:HS):Prop:=∃tag vrec vtxs vcom vmods vlook nk vk ok cn cv co ptrs lnum lver lobj,Hist M lo hi h S tag vrec vtxs vcom vmods vlook nk vk ok cn cv co ptrs lnum lver lobj
theorem KnownAt.keep {M M':Hp} {lo hi hi' i:Nat} {tag tag':Nat->Hg} {a:TxS} {pl:Int->List Int} {v:XV} (h:KnownAt M lo hi tag i a pl v)
 (hk:∀k,k<hi->(tag k = .known i\/tag k = .kmap i\/∃x,tag k = .slot i x)->tget M' k=tget M k/\tag' k=tag k) (hh:hi<=hi'):KnownAt M' lo hi' tag' i a pl v:=by
 obtain⟨rk,mk,c,lm,h1,h2,h3,h4,h5,h6,h7,h8,h9,h10,h11⟩:=h
 obtain⟨e1,e2⟩:=hk rk h3 (.inl h4)
 obtain⟨e3,e4⟩:=hk mk h7 (.inr (.inl h8))
 refine⟨rk,mk,c,lm,h1,h2,by omega,by rw[e2];exact h4,by rw[e1];exact h5,h6,by omega,by rw[e4];exact h8,by rw[e3];exact h9,h10,fun x v hx=>?_⟩
 obtain⟨g1,g2⟩:=h11 x v hx
 exact⟨g1,g2.keep (fun k hk' hg=>by
  obtain⟨e5,e6⟩:=hk k hk' (.inr (.inr ⟨x,hg⟩))
  exact⟨e5,by rw[e6];exact hg⟩) hh⟩
end Go.Xs
namespace Go.Xs
def HS.look (S:HS) (a:LookS):HS:={ S with looks:=S.looks++[a],obj:=fun x=>if x=a.x then some ((S.obj a.x).getD 0+1) else S.obj x }
section
variable {M M':Hp} {lo hi hi' h:Nat} {S S':HS} {tag tag':Nat->Hg} {vrec vtxs vcom vmods vlook:XV} {nk vk ok cn cv co:Nat} {ptrs:List XV} {lnum:List (Nat×Int×Int)} {lver:List (Nat×List Int×Int)} {lobj:List (Nat×Int×Int)}
theorem keepT {C:Hg->Prop} (keep:∀k,k<hi->¬ C (tag k)->tget M' k=tget M k) (htag:∀k,k<hi->tag' k=tag k) (tg:Hg) (hc:¬ C tg):∀k,k<hi->tag k=tg->tget M' k=tget M k/\tag' k=tg :=
 fun k hk hg=>⟨keep k hk (by rw[hg];exact hc),by rw[htag k hk];exact hg⟩
theorem Hist.look {vlook':XV} {co':Nat} {lobj':List (Nat×Int×Int)} {a:LookS} (H:Hist M lo hi h S tag vrec vtxs vcom vmods vlook nk vk ok cn cv co ptrs lnum lver lobj)
 (keep:∀k,k<hi->¬ (fun g=>g=Hg.hist\/g = .looks\/g = .obj) (tag k)->tget M' k=tget M k) (htag:∀k,k<hi->tag' k=tag k) (hh:hi<=hi')
 (row:tget M' h=some (.row [vrec,vtxs,.mm nk,vcom,vmods,.mm vk,vlook',.mm ok])) (looks:OwnSl M' lo hi' tag' .looks vlook' 8 (S.looks.length+1) ((S.looks++[a]).flatMap encLook))
 (obj:tget M' ok=some (.map (entU (vI .i64) lobj') co')) (objS:∀x,alook lobj' x=(S.look a).obj x) :
 Hist M' lo hi' h (S.look a) tag' vrec vtxs vcom vmods vlook' nk vk ok cn cv co' ptrs lnum lver lobj':=by
 have kk:=fun tg hc=>keepT (M:=M) (M':=M') (C:=fun g=>g=Hg.hist\/g = .looks\/g = .obj) keep htag tg hc
 exact {
  lo_h:=H.lo_h,h_hi:=Nat.lt_of_lt_of_le H.h_hi hh,tg:=by rw[htag h H.h_hi];exact H.tg,row:=row
  recs:=H.recs.keep (kk _ (by simp)) hh,txs:=H.txs.keep (kk _ (by simp)) hh
  known:=fun i b hb=>by
   obtain⟨v,h1,h2⟩:=H.known i b hb
   exact⟨v,h1,h2.keep (fun k hk hg=>⟨keep k hk (by rcases hg with q | q | ⟨x,q⟩<;>rw[q]<;>simp),htag k hk⟩) hh⟩
  nlo:=H.nlo,nhi:=Nat.lt_of_lt_of_le H.nhi hh,ntg:=by rw[htag nk H.nhi];exact H.ntg,num:=by rw[(kk _ (by simp) nk H.nhi H.ntg).1];exact H.num,numS:=H.numS
  com:=H.com.keep (kk _ (by simp)) hh,mods:=H.mods.keep (kk _ (by simp)) hh
  vlo:=H.vlo,vhi:=Nat.lt_of_lt_of_le H.vhi hh,vtg:=by rw[htag vk H.vhi];exact H.vtg,ver:=by rw[(kk _ (by simp) vk H.vhi H.vtg).1];exact H.ver,vrow:=H.vrow,verS:=H.verS
  looks:=by have e:(S.look a).looks.length=S.looks.length+1:=by simp[HS.look]
            rw[e];exact looks
  olo:=H.olo,ohi:=Nat.lt_of_lt_of_le H.ohi hh,otg:=by rw[htag ok H.ohi];exact H.otg,obj:=obj,objS:=objS }
theorem Hist.agr (H:Hist M lo hi h S tag vrec vtxs vcom vmods vlook nk vk ok cn cv co ptrs lnum lver lobj) (ha:Agr hi M M'):Hist M' lo hi h S tag vrec vtxs vcom vmods vlook nk vk ok cn cv co ptrs lnum lver lobj:=by
 have kk:∀(tg:Hg) (k:Nat),k<hi->tag k=tg->tget M' k=tget M k/\tag k=tg:=fun tg k hk hg=>⟨ha k hk,hg⟩
 exact {
  lo_h:=H.lo_h,h_hi:=H.h_hi,tg:=H.tg,row:=by rw[ha h H.h_hi];exact H.row
  recs:=H.recs.keep (kk _) (Nat.le_refl _),txs:=H.txs.keep (kk _) (Nat.le_refl _)
  known:=fun i b hb=>by
   obtain⟨v,h1,h2⟩:=H.known i b hb
   exact⟨v,h1,h2.keep (fun k hk _=>⟨ha k hk,rfl⟩) (Nat.le_refl _)⟩
  nlo:=H.nlo,nhi:=H.nhi,ntg:=H.ntg,num:=by rw[ha nk H.nhi];exact H.num,numS:=H.numS
  com:=H.com.keep (kk _) (Nat.le_refl _),mods:=H.mods.keep (kk _) (Nat.le_refl _)
  vlo:=H.vlo,vhi:=H.vhi,vtg:=H.vtg,ver:=by rw[ha vk H.vhi];exact H.ver,vrow:=H.vrow,verS:=H.verS
  looks:=H.looks.keep (kk _) (Nat.le_refl _)
  olo:=H.olo,ohi:=H.ohi,otg:=H.otg,obj:=by rw[ha ok H.ohi];exact H.obj,objS:=H.objS }
theorem Hist.norm (H:Hist M lo hi h S tag vrec vtxs vcom vmods vlook nk vk ok cn cv co ptrs lnum lver lobj):Hist M lo hi h S (fun k=>if k<hi then tag k else .none) vrec vtxs vcom vmods vlook nk vk ok cn cv co ptrs lnum lver lobj:=by
 have ht:∀k,k<hi->(if k<hi then tag k else Hg.none)=tag k:=fun k hk=>if_pos hk
 have kk:∀(tg:Hg) (k:Nat),k<hi->tag k=tg->tget M k=tget M k/\(if k<hi then tag k else Hg.none)=tg:=fun tg k hk hg=>⟨rfl,by rw[ht k hk];exact hg⟩
 exact {
  lo_h:=H.lo_h,h_hi:=H.h_hi,tg:=by rw[ht h H.h_hi];exact H.tg,row:=H.row
  recs:=H.recs.keep (kk _) (Nat.le_refl _),txs:=H.txs.keep (kk _) (Nat.le_refl _)
  known:=fun i b hb=>by
   obtain⟨v,h1,h2⟩:=H.known i b hb
   exact⟨v,h1,h2.keep (fun k hk _=>⟨rfl,ht k hk⟩) (Nat.le_refl _)⟩
  nlo:=H.nlo,nhi:=H.nhi,ntg:=by rw[ht nk H.nhi];exact H.ntg,num:=H.num,numS:=H.numS
  com:=H.com.keep (kk _) (Nat.le_refl _),mods:=H.mods.keep (kk _) (Nat.le_refl _)
  vlo:=H.vlo,vhi:=H.vhi,vtg:=by rw[ht vk H.vhi];exact H.vtg,ver:=H.ver,vrow:=H.vrow,verS:=H.verS
  looks:=H.looks.keep (kk _) (Nat.le_refl _)
  olo:=H.olo,ohi:=H.ohi,otg:=by rw[ht ok H.ohi];exact H.otg,obj:=H.obj,objS:=H.objS }
end
end Go.Xs
namespace Go.Xs
def HS.modify (S:HS) (i:Int) (r:Rec) (k:Nat):HS:={ S with
 places:=fun j x=>if j=k/\x=r.x then S.places k r.x++[(S.mods.length:Int)] else S.places j x
 ver:=fun x w n=>if x=r.x/\w=r.t/\n=(((S.places k r.x).length+1:Nat):Int) then some (S.mods.length:Int) else S.ver x w n
 mods:=S.mods++[⟨i,r.t,r.x,r.t,(((S.places k r.x).length+1:Nat):Int),r.v,decide (r.kind=4),false⟩]
 obj:=fun x=>if x=r.x then some ((S.obj r.x).getD 0+1) else S.obj x }
section
variable {M M':Hp} {lo hi hi' h:Nat} {S:HS} {tag tag':Nat->Hg} {vrec vtxs vcom vmods vlook:XV} {nk vk ok cn cv co:Nat} {ptrs:List XV} {lnum:List (Nat×Int×Int)} {lver:List (Nat×List Int×Int)} {lobj:List (Nat×Int×Int)}
def ModC (k:Nat) (x:Int) (g:Hg):Prop:=g = .hist\/g = .mods\/g = .ver\/g = .obj\/g = .kmap k\/g = .slot k x
theorem Hist.modify {vmods':XV} {cv' co' k:Nat} {lver':List (Nat×List Int×Int)} {lobj':List (Nat×Int×Int)} {r:Rec} {i:Int} (H:Hist M lo hi h S tag vrec vtxs vcom vmods vlook nk vk ok cn cv co ptrs lnum lver lobj)
 (keep:∀q,q<hi->¬ ModC k r.x (tag q)->tget M' q=tget M q) (htag:∀q,q<hi->tag' q=tag q) (hh:hi<=hi')
 (row:tget M' h=some (.row [vrec,vtxs,.mm nk,vcom,vmods',.mm vk,vlook,.mm ok])) (mods:OwnSl M' lo hi' tag' .mods vmods' 8 (S.mods.length+1) ((S.modify i r k).mods.flatMap encMod))
 (ver:tget M' vk=some (.map (entA (vI .i64) lver') cv')) (vrow:rowsA 3 lver') (verS:∀x w n,alook lver' [x,w,n]=(S.modify i r k).ver x w n)
 (obj:tget M' ok=some (.map (entU (vI .i64) lobj') co')) (objS:∀x,alook lobj' x=(S.modify i r k).obj x)
 (known:∀a,S.txs[k]?=some a->∃v,ptrs[k]?=some v/\KnownAt M' lo hi' tag' k a ((S.modify i r k).places k) v) :
 Hist M' lo hi' h (S.modify i r k) tag' vrec vtxs vcom vmods' vlook nk vk ok cn cv' co' ptrs lnum lver' lobj':=by
 have kk:=fun tg hc=>keepT (M:=M) (M':=M') (C:=ModC k r.x) keep htag tg hc
 exact {
  lo_h:=H.lo_h,h_hi:=Nat.lt_of_lt_of_le H.h_hi hh,tg:=by rw[htag h H.h_hi];exact H.tg,row:=row
  recs:=H.recs.keep (kk _ (by simp[ModC])) hh,txs:=H.txs.keep (kk _ (by simp[ModC])) hh
  known:=fun j b hb=>by
   by_cases hj:j=k
   ·subst hj
    exact known b hb
   ·obtain⟨v,h1,h2⟩:=H.known j b hb
    have e:(S.modify i r k).places j=S.places j:=funext fun x=>if_neg fun q=>hj q.1
    rw[e]
    exact⟨v,h1,h2.keep (fun q hq hg=>⟨keep q hq (by rcases hg with g | g | ⟨x,g⟩<;>rw[g]<;>simp[ModC,hj]),htag q hq⟩) hh⟩
  nlo:=H.nlo,nhi:=Nat.lt_of_lt_of_le H.nhi hh,ntg:=by rw[htag nk H.nhi];exact H.ntg,num:=by rw[(kk _ (by simp[ModC]) nk H.nhi H.ntg).1];exact H.num,numS:=H.numS
  com:=H.com.keep (kk _ (by simp[ModC])) hh
  mods:=by have e:(S.modify i r k).mods.length=S.mods.length+1:=by simp[HS.modify]
           rw[e];exact mods
  vlo:=H.vlo,vhi:=Nat.lt_of_lt_of_le H.vhi hh,vtg:=by rw[htag vk H.vhi];exact H.vtg,ver:=ver,vrow:=vrow,verS:=verS
  looks:=H.looks.keep (kk _ (by simp[ModC])) hh
  olo:=H.olo,ohi:=Nat.lt_of_lt_of_le H.ohi hh,otg:=by rw[htag ok H.ohi];exact H.otg,obj:=obj,objS:=objS }
end
end Go.Xs
namespace Go.Xs
open Go.Proofs
set_option maxRecDepth 100000
set_option maxHeartbeats 4000000
structure Ins where
 w:Int
 n:Int
 wr:Int
 en:Int
def encIns (e:Ins):List XV:=[.int .u64 e.w,.int .u64 e.n,.int .i64 e.wr,.int .i64 e.en]
def RowAt (M:Hp) (b:Nat) (v:XV) (l:List Ins):Prop:=∃rk sv,v = .mp rk 0/\rk<b/\tget M rk=some (.row [sv])/\SlAt M b sv 4 l.length (l.flatMap encIns)
theorem RowAt.agr {M M':Hp} {b:Nat} {v:XV} {l:List Ins} (h:RowAt M b v l) (ha:Agr b M M'):RowAt M' b v l:=by
 obtain⟨rk,sv,h1,h2,h3,h4⟩:=h
 exact⟨rk,sv,h1,h2,(ha rk h2).trans h3,h4.agr ha⟩
def OrdAt (M:Hp) (b o:Nat) (f:Int->Option (List Ins)):Prop :=
 o<b/\∃rm c l,tget M o=some (.row [.mm rm])/\rm<b/\tget M rm=some (.map (entU vX l) c)/\(∀x,alook l x=none->f x=none)/\∀x v,alook l x=some v->∃ins,f x=some ins/\RowAt M b v ins
theorem OrdAt.agr {M M':Hp} {b o:Nat} {f:Int->Option (List Ins)} (h:OrdAt M b o f) (ha:Agr b M M'):OrdAt M' b o f:=by
 obtain⟨ho,rm,c,l,h1,h2,h3,h4,h5⟩:=h
 exact⟨ho,rm,c,l,(ha o ho).trans h1,h2,(ha rm h2).trans h3,h4,fun x v hx=>by
  obtain⟨ins,h6,h7⟩:=h5 x v hx
  exact⟨ins,h6,h7.agr ha⟩⟩
theorem f54 (ρ:Rho) {M:Hp} {nx b o:Nat} {f:Int->Option (List Ins)} (h:OrdAt M b o f) (hb:b<=nx) (x:Int):FOk Tryz.prog ρ 54 [.mp o 0,.int .u64 x] M nx fun r=>RowAt r.2.1 r.2.2 r.1 ((f x).getD [])/\Agr nx M r.2.1/\nx<=r.2.2:=by
 obtain⟨ho,rm,c,l,h1,h2,h3,h4,h5⟩:=h
 refine FOk.walk (m:=24) (rs:=[.tmp 4]) follows Tryz.func54 (by kernel_rfl) rfl rfl rfl ?_
 conv in W _ _ _ _ _ _ _=>arg 4;whnf
 cases hx:alook l x with
 | none =>
   refine xs4 gy16 h1 h3 hx ?_;try exact⟨⟩
   refine⟨⟨_,.nils,rfl,by omega,by rw[tget_tset,if_pos rfl],?_⟩,(Agr.refl _ _).set (by omega) _,by omega⟩
   rw[h4 x hx]
   exact⟨by simp,.inl ⟨rfl,rfl,rfl⟩⟩
 | some v =>
   obtain⟨ins,h6,rk,sv,rfl,h8,h9,h10⟩:=h5 x v hx
   refine xs4 gy16 h1 h3 hx ?_;try exact⟨⟩
   refine⟨⟨rk,sv,rfl,by omega,h9,?_⟩,Agr.refl _ _,by omega⟩
   rw[h6]
   rcases h10 with ⟨g1,g2⟩
   refine⟨g1,?_⟩
   rcases g2 with g2 | ⟨n,off,cap,cs,e1,e2,e3⟩
   ·exact .inl g2
   ·exact .inr ⟨n,off,cap,cs,e1,by omega,e3⟩
end Go.Xs
namespace Go.Xs
open Go.Proofs
set_option maxRecDepth 100000
set_option maxHeartbeats 4000000
theorem ins_row:∀(es:List Ins) (i:Nat) (e:Ins),es[i]?=some e->((es.flatMap encIns).drop (i*4)).take 4=encIns e
 | [],_,_,h=>by simp at h
 | a::es,0,e,h=>by
   simp only[List.getElem?_cons_zero,Option.some.injEq]at h
   subst h
   simp[encIns]
 | a::es,i+1,e,h=>by
   simp only[List.getElem?_cons_succ]at h
   have:=ins_row es i e h
   rw[<-this,List.flatMap_cons,show (i+1)*4=(encIns a).length+i*4 by simp[encIns];omega,<-List.drop_drop]
   simp
theorem f25 (ρ:Rho) {M:Hp} {nx b o:Nat} {f:Int->Option (List Ins)} (h:OrdAt M b o f) (hb:b<=nx) (x:Int):FOk Tryz.prog ρ 25 [.mp o 0,.int .u64 x] M nx (Ret nx M (.int .i64 ((f x).getD []).length)):=by
 refine FOk.walk (m:=13) (rs:=[.tmp 4]) follows Tryz.func25 (by kernel_rfl) rfl rfl rfl ?_
 conv in W _ _ _ _ _ _ _=>arg 4;whnf
 refine xs1 gy17 ?_;try exact⟨⟩
 refine CN_fok (f54 ρ h (by omega) x) ?_
 rintro⟨u,M2,n2⟩ ⟨⟨rk,sv,e1,e2,e3,e4⟩,g2,g3⟩
 simp only at e1 e2 e3 e4 g2 g3
 subst e1
 have hlen:=fun N=>e4.len (P:=Tryz.prog) (t:=100) ty100.2.2.2.2.2 N
 refine xs4 gy17 e3 hlen @Ret.eq_1 ?_;try exact⟨⟩
 exact⟨g2.le (by omega),by omega⟩
def insAt (l:List Ins) (i:Int):List XV×Bool :=
 if i=0 then ([.int .u64 0,.int .u64 0],true) else if i<0\/l.length<i then ([.int .u64 0,.int .u64 0],false) else
 match l[(i - 1).toNat]? with | some e=>([.int .u64 e.w,.int .u64 e.n],true) | none=>([],false)
theorem f56 (ρ:Rho) {M:Hp} {nx b:Nat} {v:XV} {l:List Ins} (h:RowAt M b v l) (hb:b<=nx) (i:Int) (hi:-9223372036854775808<=i):FOk Tryz.prog ρ 56 [v,.int .i64 i] M nx (Ret nx M (.tup [.agg (insAt l i).1,.bool (insAt l i).2])):=by
 obtain⟨rk,sv,rfl,h1,h2,h3⟩:=h
 have hlen:=fun N=>h3.len (P:=Tryz.prog) (t:=100) ty100.2.2.2.2.2 N
 refine FOk.walk (m:=32) (rs:=[.cell 4 25,.tmp 5]) follows Tryz.func56 (by kernel_rfl) rfl rfl rfl ?_
 conv in W _ _ _ _ _ _ _=>arg 4;whnf
 by_cases c0:i=0
 ·refine xs3 gy18 c0 @Ret.eq_1 ?_;try exact⟨⟩
  exact⟨by simp[insAt],((Agr.refl _ _).set (by omega) _).set (by omega) _,by omega⟩
 by_cases c1:i<0
 ·refine xs4 gy18 c0 c1 @Ret.eq_1 ?_;try exact⟨⟩
  exact⟨by simp[insAt,c0,c1],((Agr.refl _ _).set (by omega) _).set (by omega) _,by omega⟩
 by_cases c2:(l.length:Int)<i
 ·refine xs7 gy18 c0 c1 h2 hlen c2 @Ret.eq_1 ?_;try exact⟨⟩
  exact⟨by simp[insAt,c0,c2],((Agr.refl _ _).set (by omega) _).set (by omega) _,by omega⟩
 ·obtain⟨j,rfl⟩:∃j:Nat,i=((j+1:Nat):Int):=⟨(i - 1).toNat,by omega⟩
  have hj:j<l.length:=by omega
  have hz:=h3.1
  obtain⟨e,he⟩:∃e,l[j]?=some e:=⟨l[j],by simp[hj]⟩
  obtain⟨n,o,hnb,hix,cs,hcs,hrow,hle⟩:=h3.at (P:=Tryz.prog) hj (t:=100) ty100.2.2.2.1
  rw[ins_row l j e he]at hrow
  have hw:IntKind.i64.wrap (((j+1:Nat):Int) - 1)=(j:Int):=by rw[wrap_i64 (by omega) (by omega)];omega
  have hld:∀N,Agr nx M N->loadX Tryz.prog N 25 (.mp n o)=some ⟨.agg [.int .u64 e.w,.int .u64 e.n],[n],[]⟩:=fun N hN=>by
   rw[load_hrd (hrd_agr hcs hN (by omega)) ty25.1 (by omega)]
   have:(cs.drop o).take 2=((cs.drop o).take 4).take 2:=by rw[List.take_take];rfl
   rw[this,<-hrow]
   rfl
  have g1:=fun q=>hld (tset M nx q) ((Agr.refl _ _).set (Nat.le_refl _) _)
  refine xs10 gy18 c0 c1 h2 hlen c2 hw hix g1 @Ret.eq_1 ?_;try exact⟨⟩
  refine⟨?_,((Agr.refl _ _).set (by omega) _).set (by omega) _,by omega⟩
  have:(((j+1:Nat):Int) - 1).toNat=j:=by omega
  simp only[insAt,if_neg c0,this,he]
  rw[if_neg (by omega)]
end Go.Xs
namespace Go.Xs
open Go.Proofs
set_option maxRecDepth 100000
set_option maxHeartbeats 4000000
theorem f80 (ρ:Rho) {l:List Ins} {M:Hp} {nx b:Nat} {v:XV} (hsl:SlAt M b v 4 l.length (l.flatMap encIns)) (hb:b<=nx) {g:Nat} {first caps:List XV} (q:Ins->Bool)
 (hq:∀e ∈ l,∀(M':Hp) (nx':Nat),Agr nx M M'->nx<=nx'->FOk Tryz.prog ρ g (first++[.agg (encIns e)]++caps) M' nx' (Ret nx' M' (.bool (q e)))) :
 FOk Tryz.prog ρ 80 [v,.fn (.func g) first caps] M nx (Ret nx M (.int .i64 (idxG q l 0))):=by
 have hlen:=fun N=>hsl.len (P:=Tryz.prog) (t:=100) ty100.2.2.2.2.2 N
 have hz:=hsl.1
 refine FOk.walk (m:=19) (rs:=[.tmp 4]) follows Tryz.func80 (by kernel_rfl) rfl rfl rfl ?_
 conv in W _ _ _ _ _ _ _=>arg 4;whnf
 refine xs2 gy19 hlen ?_;try exact⟨⟩
 refine W_loop (fun m s=>∃i:Nat,i<=l.length/\m=l.length - i/\idxG q (l.drop i) i=idxG q l 0/\tget s.env 0=some v/\tget s.env 1=some (.fn (.func g) first caps)/\tget s.env 7=some (.int .i64 l.length)/\tget s.env 8=some (.int .i64 i)/\Agr nx M s.M/\nx<=s.nx)
  l.length ⟨0,by omega,by omega,by simp,?_⟩ ?_
 ·refine xs1 gy19 ?_;try exact⟨⟩
  exact⟨Agr.refl _ _,by omega⟩
 ·rintro m ⟨env,M',nx'⟩ ⟨i,hi,hm,hid,e0,e1,e7,e8,ha,hn⟩
  simp only at e0 e1 e7 e8 ha hn
  by_cases hlt:(i:Int)<l.length
  ·have hlt':i<l.length:=by omega
   obtain⟨e,hei⟩:∃e,l[i]?=some e:=⟨l[i],by simp[hlt']⟩
   obtain⟨n,o,hnb,hix,hld⟩:=hsl.elem (P:=Tryz.prog) hlt' (t:=100) (t':=106) ty100.2.2.2.1 ty106.1
   have hld:=hld M' (ha.le hb)
   rw[ins_row l i e hei]at hld
   have hw2:IntKind.i64.wrap ((i:Int)+1)=((i+1:Nat):Int):=by rw[wrap_i64 (by omega) (by omega)];omega
   have hst:=idxG_step (q:=q) hei
   refine xs8 gy19 e0 e1 e7 e8 hlt hix hld ?_;try exact⟨⟩
   refine CN_fok (hq e (List.mem_of_getElem? hei) M' _ ha (by omega)) ?_
   rintro⟨v',M'',nx''⟩ ⟨h1,h2,h3⟩
   simp only at h1 h2 h3
   subst h1
   cases hqe:q e with
   | true =>
     refine xs7 gy19 e0 e1 e7 e8 hqe @Ret.eq_1 ?_;try exact⟨⟩
     refine⟨?_,ha.trans (h2.le (by omega)),by omega⟩
     rw[<-hid,hst,hqe]
     rfl
   | false =>
     refine xs7 gy19 e0 e1 e7 e8 hqe hw2 ?_;try exact⟨⟩
     exact⟨l.length - (i+1),by omega,i+1,by omega,rfl,by rw[<-hid,hst,hqe];rfl,rfl,ha.trans (h2.le (by omega)),by omega⟩
  ·have hd:l.drop i=[]:=List.drop_eq_nil_of_le (by omega)
   refine xs7 gy19 e0 e1 e7 e8 hlt @Ret.eq_1 ?_;try exact⟨⟩
   refine⟨?_,ha,by omega⟩
   rw[<-hid,hd]
   rfl
def insIs (w n:Int) (e:Ins):Bool:=decide (e.w=w)&&decide (e.n=n)
theorem f81 (ρ:Rho) {M:Hp} {nx pk:Nat} (w n:Int) (e:Ins) (h:tget M pk=some (.row [.int .u64 w,.int .u64 n])) (hk:pk<nx):FOk Tryz.prog ρ 81 [.agg (encIns e),.mp pk 0] M nx (Ret nx M (.bool (insIs w n e))):=by
 simp only[encIns]
 refine FOk.walk (m:=8) (rs:=[.tmp 3]) follows Tryz.func81 (by kernel_rfl) rfl rfl rfl ?_
 conv in W _ _ _ _ _ _ _=>arg 4;whnf
 refine xs2 gy20 h ?_;try exact⟨⟩
 exact .mk ((Agr.refl _ _).set (Nat.le_refl _) _) (by omega)
theorem f23 (ρ:Rho) (M:Hp) (nx:Nat) (w n:Int):FOk Tryz.prog ρ 23 [.agg [.int .u64 w,.int .u64 n]] M nx (Ret nx M (.bool (decide (w=0)&&decide (n=0)))):=by
 refine FOk.walk (m:=6) (rs:=[.tmp 2]) follows Tryz.func23 (by kernel_rfl) rfl rfl rfl ?_
 conv in W _ _ _ _ _ _ _=>arg 4;whnf
 refine xs1 gy21 ?_;try exact⟨⟩
 exact .mk ((Agr.refl _ _).set (Nat.le_refl _) _) (by omega)
def placeS (l:List Ins) (w n:Int):Int×Bool:=if (decide (w=0)&&decide (n=0))=true then (0,true) else (idxG (insIs w n) l 0+1,decide (0<=idxG (insIs w n) l 0))
theorem idxG_lt {α:Type} (q:α->Bool):∀(l:List α) (i:Nat),-1<=idxG q l i/\idxG q l i<i+l.length
 | [],i=>by simp only[idxG,List.length_nil];omega
 | e::l,i=>by
   have:=idxG_lt q l (i+1)
   by_cases h:q e=true
   ·have h1:idxG q (e::l) i=i:=if_pos h
    rw[h1];simp only[List.length_cons];omega
   ·have h1:idxG q (e::l) i=idxG q l (i+1):=if_neg h
    rw[h1];simp only[List.length_cons];omega
theorem f55 (ρ:Rho) {M:Hp} {nx b:Nat} {v:XV} {l:List Ins} (h:RowAt M b v l) (hb:b<=nx) (w n:Int):FOk Tryz.prog ρ 55 [v,.agg [.int .u64 w,.int .u64 n]] M nx (Ret nx M (.tup [.int .i64 (placeS l w n).1,.bool (placeS l w n).2])):=by
 obtain⟨rk,sv,rfl,h1,h2,h3⟩:=h
 refine FOk.walk (m:=19) (rs:=[.tmp 4,.tmp 5]) follows Tryz.func55 (by kernel_rfl) rfl rfl rfl ?_
 conv in W _ _ _ _ _ _ _=>arg 4;whnf
 refine xs1 gy22 ?_;try exact⟨⟩
 have a1:∀q,Agr nx M (tset M nx q):=fun q=>(Agr.refl _ _).set (Nat.le_refl _) q
 refine CN_fok (f23 ρ _ _ w n) ?_
 rintro⟨u,M2,n2⟩ ⟨g1,g2,g3⟩
 simp only at g1 g2 g3
 subst g1
 have a2:Agr nx M M2:=(a1 _).trans (g2.le (by omega))
 have z:tget M2 nx=some (.row [.int .u64 w,.int .u64 n]):=(g2 nx (by omega)).trans (by rw[tget_tset,if_pos rfl])
 have y:=(a2 rk (by omega)).trans h2
 clear g2
 cases hu:(decide (w=0)&&decide (n=0)) with
 | true =>
   refine xs3 gy22 hu @Ret.eq_1 ?_;try exact⟨⟩
   exact⟨by simp[placeS,hu],a2,by omega⟩
 | false =>
   refine xs3 gy22 hu y ?_;try exact⟨⟩
   refine CN_fok (f80 ρ (h3.agr (a2.le hb)) (by omega) (insIs w n) fun e he M' nx' ha hn=>?_) ?_
   ·exact f81 ρ w n e ((ha nx (by omega)).trans z) (by omega)
   ·rintro⟨u,M3,n3⟩ ⟨g1,g2,g3'⟩
    simp only at g1 g2 g3'
    subst g1
    have hz:=h3.1
    have hi:=idxG_lt (insIs w n) l 0
    have hw:IntKind.i64.wrap (idxG (insIs w n) l 0+1)=idxG (insIs w n) l 0+1:=wrap_i64 (by omega) (by omega)
    refine xs3 gy22 hw @Ret.eq_1 ?_;try exact⟨⟩
    exact⟨by simp[placeS,hu],a2.trans (g2.le (by omega)),by omega⟩
end Go.Xs
namespace Go.Xs
open Go.Proofs
set_option maxRecDepth 100000
set_option maxHeartbeats 4000000
theorem f252 (ρ:Rho) {M:Hp} {nx lo hi m:Nat} {l:List Rec} (h:MachAt M lo hi m l) (hh:hi<=nx) (t x:Int) :
 ∃v,SlAt M hi v 2 (rowOf l t x).length ((rowOf l t x).flatMap encMd)/\∀M' nx',Agr nx M M'->nx<=nx'->FOk Tryz.prog ρ 252 [.mp m 0,.int .u64 t,.int .u64 x] M' nx' (Ret nx' M' v):=by
 obtain⟨tag,ps,vnum,vnames,vrows,vend,rs,le,h⟩:=h
 cases hp:pidx ps (t,x) with
 | none =>
   have hr:rowOf l t x=[]:=Classical.byContradiction fun hne=>pidx_none.1 hp (h.whole t x hne)
   refine⟨.nils,by rw[hr];exact⟨by simp,.inl ⟨rfl,rfl,rfl⟩⟩,fun M' nx' ha hn=>?_⟩
   have hM:=(ha m (by have:=h.m_hi;omega)).trans h.row
   refine FOk.walk (m:=28) (rs:=[.tmp 6]) follows Tryz.func252 (by kernel_rfl) rfl rfl rfl ?_
   conv in W _ _ _ _ _ _ _=>arg 4;whnf
   refine xs1 gy23 ?_;try exact⟨⟩
   refine CN_fok (f295 ρ hM (by have:=h.m_hi;omega) (h.num.agr (ha.le hh) (Nat.le_refl _)) (by omega) t x) ?_
   rintro⟨u,M2,n2⟩ ⟨g1,g2,g3⟩
   simp only[hp,Option.getD_none,Option.isSome_none]at g1 g2 g3
   subst g1
   refine xs2 gy23 @Ret.eq_1 ?_;try exact⟨⟩
   exact⟨g2.le (by omega),by omega⟩
 | some i =>
   obtain⟨j,rfl,hj⟩:=pidx_some hp
   obtain⟨hne,v,hv,hw⟩:=h.all j t x hj
   refine⟨v,hw.sl,fun M' nx' ha hn=>?_⟩
   have hM:=(ha m (by have:=h.m_hi;omega)).trans h.row
   have hlt:j<ps.length:=(List.getElem?_eq_some_iff.1 hj).1
   obtain⟨n,o,hnb,hix,hld⟩:=h.rows.sl.fldG (P:=Tryz.prog) hlt (t:=159) ty159.2.2.2.1
   refine FOk.walk (m:=28) (rs:=[.tmp 6]) follows Tryz.func252 (by kernel_rfl) rfl rfl rfl ?_
   conv in W _ _ _ _ _ _ _=>arg 4;whnf
   refine xs1 gy23 ?_;try exact⟨⟩
   refine CN_fok (f295 ρ hM (by have:=h.m_hi;omega) (h.num.agr (ha.le hh) (Nat.le_refl _)) (by omega) t x) ?_
   rintro⟨u,M2,n2⟩ ⟨g1,g2,g3⟩
   simp only[hp,Option.getD_some,Option.isSome_some]at g1 g2 g3
   subst g1
   have hM2:=(g2 m (by have:=h.m_hi;omega)).trans hM
   have hl:=hld 0 v (by omega) (by simp[hv]) 303 1 ty303.1 M2 (((ha.trans (g2.le (by omega)))).le hh)
   rw[Nat.add_zero]at hl
   refine xs5 gy23 hM2 hix hl @Ret.eq_1 ?_;try exact⟨⟩
   exact⟨g2.le (by omega),by omega⟩
theorem wrap_u64 {n:Int} (h0:0<=n) (h1:n<=18446744073709551615):IntKind.u64.wrap n=n:=by rw[IntKind.wrap_u64];omega
def madeV (o:Option Md):XV:=match o with | some d=>.tup [.agg (encMd d),.int .i64 0] | none=>.tup [.agg [.int .u64 0,.bool false],.int .i64 70]
theorem md_row:∀(es:List Md) (i:Nat) (e:Md),es[i]?=some e->((es.flatMap encMd).drop (i*2)).take 2=encMd e
 | [],_,_,h=>by simp at h
 | a::es,0,e,h=>by
   simp only[List.getElem?_cons_zero,Option.some.injEq]at h
   subst h
   simp[encMd]
 | a::es,i+1,e,h=>by
   simp only[List.getElem?_cons_succ]at h
   have:=md_row es i e h
   rw[<-this,List.flatMap_cons,show (i+1)*2=(encMd a).length+i*2 by simp[encMd];omega,<-List.drop_drop]
   simp
theorem f251 (ρ:Rho) {M:Hp} {nx lo hi m:Nat} {l:List Rec} (h:MachAt M lo hi m l) (hh:hi<=nx) (x w n:Int):FOk Tryz.prog ρ 251 [.mp m 0,.int .u64 x,.agg [.int .u64 w,.int .u64 n]] M nx (Ret nx M (madeV (madeS l x w n))):=by
 obtain⟨v,hsl,hrow⟩:=f252 ρ h hh w x
 have hlen:=fun N=>hsl.len (P:=Tryz.prog) (t:=303) ty303.2.2.2.2.2 N
 have hz:=hsl.1
 have a1:=fun o=>(Agr.refl nx M).set (Nat.le_refl nx) o
 refine FOk.walk (m:=37) (rs:=[.cell 6 247,.tmp 7]) follows Tryz.func251 (by kernel_rfl) rfl rfl rfl ?_
 conv in W _ _ _ _ _ _ _=>arg 4;whnf
 refine xs1 gy24 ?_;try exact⟨⟩
 refine CD_fok (hrow _ _ ((a1 _).set (by omega) _) (by omega)) (by decide) ?_ ?_
 ·refine xs1 gy24 ?_;try exact⟨⟩
 ·rintro⟨u,M2,n2⟩ ⟨g1,g2,g3⟩
  simp only at g1 g2 g3
  subst g1
  have y:=g2 nx (by omega)
  rw[tget_tset,if_neg (by omega),tget_tset,if_pos rfl]at y
  have y2:=g2 (nx+1) (by omega)
  rw[tget_tset,if_pos rfl]at y2
  have a2:=((a1 _).set (Nat.le_succ _) _).trans (g2.le (by omega))
  have hw:IntKind.u64.wrap ((rowOf l w x).length:Int)=(rowOf l w x).length:=wrap_u64 (by omega) (by omega)
  by_cases c1:n<1
  ·refine xs7 gy24 y y2 c1 hlen hw @Ret.eq_1 ?_;try exact⟨⟩
   exact⟨by simp only[madeS];rw[if_neg (by omega)];rfl,a2.set (by omega) _,by omega⟩
  by_cases c2:((rowOf l w x).length:Int)<n
  ·refine xs8 gy24 y y2 c1 c2 hlen hw @Ret.eq_1 ?_;try exact⟨⟩
   exact⟨by simp only[madeS];rw[if_neg (by omega)];rfl,a2.set (by omega) _,by omega⟩
  obtain⟨j,rfl⟩:∃j:Nat,n=((j+1:Nat):Int):=⟨(n - 1).toNat,by omega⟩
  have hj:j<(rowOf l w x).length:=by omega
  obtain⟨d,hd⟩:∃d,(rowOf l w x)[j]?=some d:=⟨(rowOf l w x)[j],by simp[hj]⟩
  obtain⟨k,o,hnb,hix,hld⟩:=hsl.elem (P:=Tryz.prog) hj (t:=303) (t':=247) ty303.2.2.2.1 ty247.1
  rw[md_row _ j d hd]at hld
  have hl:=hld M2 (a2.le hh)
  have hw2:IntKind.u64.wrap (((j+1:Nat):Int) - 1)=(j:Int):=by rw[wrap_u64 (by omega) (by omega)];omega
  simp only[encMd]at hl
  refine xs11 gy24 y y2 c1 c2 hlen hw hw2 hix hl @Ret.eq_1 ?_;try exact⟨⟩
  refine⟨?_,a2.set (by omega) _,by omega⟩
  simp only[madeS]
  rw[if_pos ⟨by omega,by omega⟩,show (((j+1:Nat):Int) - 1).toNat=j by omega,hd]
  rfl
end Go.Xs
namespace Go.Xs
open Go.Proofs
set_option maxRecDepth 100000
set_option maxHeartbeats 4000000
theorem f66 (ρ:Rho) {M:Hp} {nx lo hi h:Nat} {S:HS} (H:HistAt M lo hi h S) (hh:hi<=nx) (few:S.looks.length<=100000) (a:LookS) (cnt:0<=(S.obj a.x).getD 0/\(S.obj a.x).getD 0<=1000000000) :
 FOk Tryz.prog ρ 66 [.mp h 0,.agg (encLook a)] M nx fun o=>o.1 = .tup []/\HistAt o.2.1 lo o.2.2 h (S.look a)/\Agr lo M o.2.1/\nx<=o.2.2:=by
 obtain⟨tag,vrec,vtxs,vcom,vmods,vlook,nk,vk,ok,cn,cv,co,ptrs,lnum,lver,lobj,H⟩:=H
 replace H:=H.norm
 obtain⟨tg0,htg⟩:∃f,f=fun k=>if k<hi then tag k else Hg.none:=⟨_,rfl⟩
 rw[<-htg]at H
 clear htg
 have hr:=H.row
 have hhi:=H.h_hi
 have hlo:=H.lo_h
 have hohi:=H.ohi
 have holo:=H.olo
 have hob:=H.obj
 have n1:=tag_ne H.tg H.otg (by simp)
 have hal:=H.objS a.x
 rw[<-hal]at cnt
 have hw:IntKind.i64.wrap ((alook lobj a.x).getD 0+1)=(alook lobj a.x).getD 0+1:=wrap_i64 (by omega) (by omega)
 simp only[encLook]
 obtain⟨hz,hcl,⟨rfl,hl0⟩ | ⟨hl,sk,rfl,s1,s2,s3,s4⟩⟩:=H.looks
 ·have hd:KEq h ok=False/\KEq ok h=False:=by simp only[KEq,eq_iff_iff,iff_false];exact⟨n1,n1.symm⟩
  refine FOk.walk (m:=22) (rs:=[]) follows Tryz.func66 (by kernel_rfl) rfl rfl rfl ?_
  conv in W _ _ _ _ _ _ _=>arg 4;whnf
  refine xs5 gy25 hr hob hd hw ?_;try exact⟨⟩
  refine⟨okP2_ap _ _ _ _ _ _ (fun q hq=>by simp only[List.mem_singleton]at hq ⊢;omega) (fun q hq=>by simp) (fun q hq=>by simp at hq),⟨fun k=>if k=nx+8 then .looks else tg0 k,vrec,vtxs,vcom,vmods,.sl (nx+8) 8 0 (S.looks.length+1) (S.looks.length+1),nk,vk,ok,cn,cv,acl lobj co a.x,ptrs,lnum,lver,aput lobj co a.x ((alook lobj a.x).getD 0+1),H.look (fun k hk hc=>?_) (fun k hk=>if_neg (by omega)) (by omega) (by rw[hl0];exact(by(repeat (first | rw[tget_tset,if_pos rfl] | rw[tget_tset,if_neg (by omega)] | rw[tget_tdel,if_neg (by omega)]));try (first | rfl | assumption))) ?_ (by(repeat (first | rw[tget_tset,if_pos rfl] | rw[tget_tset,if_neg (by omega)] | rw[tget_tdel,if_neg (by omega)]));try (first | rfl | assumption)) fun x=>?_⟩,fun k hk=>(by(repeat (first | rw[tget_tset,if_pos rfl] | rw[tget_tset,if_neg (by omega)] | rw[tget_tdel,if_neg (by omega)]));try (first | rfl | assumption)),by omega⟩
  ·have e1:k≠h:=fun e=>hc (by rw[e];exact .inl H.tg)
   have e2:k≠ok:=fun e=>hc (by rw[e];exact .inr (.inr H.otg))
   exact(by(repeat (first | rw[tget_tset,if_pos rfl] | rw[tget_tset,if_neg (by omega)] | rw[tget_tdel,if_neg (by omega)]));try (first | rfl | assumption))
  ·have hS0:S.looks=[]:=List.length_eq_zero_iff.1 hl0
   rw[hS0]
   exact⟨by simp,by simp[encLook],.inr ⟨by simp,nx+8,by simp,by omega,by omega,by simp,(by(repeat (first | rw[tget_tset,if_pos rfl] | rw[tget_tset,if_neg (by omega)] | rw[tget_tdel,if_neg (by omega)]));try (first | rfl | assumption))⟩⟩
  ·rw[alook_put]
   simp only[HS.look,hal,H.objS x]
 ·have n2:=tag_ne H.tg s3 (by simp)
  have n3:=tag_ne H.otg s3 (by simp)
  have hd:KEq h ok=False/\KEq ok h=False/\KEq h sk=False/\KEq sk h=False/\KEq ok sk=False/\KEq sk ok=False:=by simp only[KEq,eq_iff_iff,iff_false];exact⟨n1,n1.symm,n2,n2.symm,n3,n3.symm⟩
  refine FOk.walk (m:=22) (rs:=[]) follows Tryz.func66 (by kernel_rfl) rfl rfl rfl ?_
  conv in W _ _ _ _ _ _ _=>arg 4;whnf
  refine xs7 gy25 hr hob hd hw s4 hcl ?_;try exact⟨⟩
  refine⟨okP2_ap _ _ _ _ _ _ (fun q hq=>by simp only[List.mem_singleton]at hq ⊢;omega) (fun q hq=>by simp) (fun q hq=>by simp at hq),⟨fun k=>if k=nx+8 then .looks else tg0 k,vrec,vtxs,vcom,vmods,.sl (nx+8) 8 0 (S.looks.length+1) (S.looks.length+1),nk,vk,ok,cn,cv,acl lobj co a.x,ptrs,lnum,lver,aput lobj co a.x ((alook lobj a.x).getD 0+1),H.look (fun k hk hc=>?_) (fun k hk=>if_neg (by omega)) (by omega) (by(repeat (first | rw[tget_tset,if_pos rfl] | rw[tget_tset,if_neg (by omega)] | rw[tget_tdel,if_neg (by omega)]));try (first | rfl | assumption)) ?_ (by(repeat (first | rw[tget_tset,if_pos rfl] | rw[tget_tset,if_neg (by omega)] | rw[tget_tdel,if_neg (by omega)]));try (first | rfl | assumption)) fun x=>?_⟩,fun k hk=>(by(repeat (first | rw[tget_tset,if_pos rfl] | rw[tget_tset,if_neg (by omega)] | rw[tget_tdel,if_neg (by omega)]));try (first | rfl | assumption)),by omega⟩
  ·have e1:k≠h:=fun e=>hc (by rw[e];exact .inl H.tg)
   have e2:k≠ok:=fun e=>hc (by rw[e];exact .inr (.inr H.otg))
   have e3:k≠sk:=fun e=>hc (by rw[e];exact .inr (.inl s3))
   exact(by(repeat (first | rw[tget_tset,if_pos rfl] | rw[tget_tset,if_neg (by omega)] | rw[tget_tdel,if_neg (by omega)]));try (first | rfl | assumption))
  ·have htk:List.take (S.looks.length*8) (S.looks.flatMap encLook)=S.looks.flatMap encLook:=by rw[<-hcl,List.take_length]
   refine⟨by omega,by rw[List.flatMap_append,List.length_append,hcl];simp[encLook];omega,.inr ⟨by omega,nx+8,rfl,by omega,by omega,by simp,?_⟩⟩
   rw[List.flatMap_append]
   conv=>rhs;rw[<-htk]
   exact(by(repeat (first | rw[tget_tset,if_pos rfl] | rw[tget_tset,if_neg (by omega)] | rw[tget_tdel,if_neg (by omega)]));try (first | rfl | assumption))
  ·rw[alook_put]
   simp only[HS.look,hal,H.objS x]
end Go.Xs
namespace Go.Xs
open Go.Proofs
set_option maxRecDepth 100000
set_option maxHeartbeats 4000000
theorem RecAt.cells {M:Hp} {b:Nat} {r:Rec} {cs:List XV} (h:RecAt M b r cs):∃pk pa pb pv ve,cs=[.int .i64 r.kind,.int .u64 r.t,.int .u64 r.x,.int .u64 r.w,.int .u64 r.n,.int .u64 r.v,.int .i64 pk,.int .u64 pa,.int .u64 pb,pv,ve] /\
 (cellsOf pv=[pv]/\plain1 pv=true)/\(cellsOf ve=[ve]/\plain1 ve=true)/\EnsAt M b ve r.es/\ExAt M b r.p [.int .i64 pk,.int .u64 pa,.int .u64 pb,pv]:=by
 obtain⟨kind,t,x,w,n,vv,p,es⟩:=r
 obtain⟨pc,ve,rfl,he,hes⟩:=h
 have he0:=he
 obtain⟨pk,pa,pb,ps⟩:=p
 simp only[ExAt]at he0
 obtain⟨v,row,rfl,hsl,hps⟩:=he0
 exact⟨pk,pa,pb,v,ve,rfl,hsl.cell,SlAt.cell hes,hes,he⟩
theorem f125 (ρ:Rho) {r:Rec} {M:Hp} {nx b:Nat} {cs:List XV} {m:XV} (hr:RecAt M b r cs):FOk Tryz.prog ρ 125 [m,.agg cs] M nx (Ret nx M (.bool (decide (1<=r.kind)&&decide (r.kind<=7)))):=by
 obtain⟨pk,pa,pb,pv,ve,rfl,⟨p1,p2⟩,⟨q1,q2⟩,_,_⟩:=hr.cells
 refine FOk.walk (m:=13) (rs:=[.tmp 4]) follows Tryz.func125 (by kernel_rfl) rfl rfl rfl ?_
 conv in W _ _ _ _ _ _ _=>arg 4;whnf
 by_cases c1:1<=r.kind
 ·refine xs7 gy1 p1 p2 q1 q2 c1 @Ret.eq_1 ?_;try exact⟨⟩
  exact⟨(Agr.refl _ _).set (Nat.le_refl _) _,by omega⟩
 ·refine xs7 gy1 p1 p2 q1 q2 c1 @Ret.eq_1 ?_;try exact⟨⟩
  exact⟨by simp,(Agr.refl _ _).set (Nat.le_refl _) _,by omega⟩
theorem f127 (ρ:Rho) {r:Rec} {M:Hp} {nx b:Nat} {cs:List XV} {m:XV} (hr:RecAt M b r cs):FOk Tryz.prog ρ 127 [m,.agg cs] M nx (Ret nx M (.bool (!(decide (r.t=0))))):=by
 obtain⟨pk,pa,pb,pv,ve,rfl,⟨p1,p2⟩,⟨q1,q2⟩,_,_⟩:=hr.cells
 refine FOk.walk (m:=8) (rs:=[.tmp 4]) follows Tryz.func127 (by kernel_rfl) rfl rfl rfl ?_
 conv in W _ _ _ _ _ _ _=>arg 4;whnf
 refine xs6 gy1 p1 p2 q1 q2 @Ret.eq_1 ?_;try exact⟨⟩
 exact⟨(Agr.refl _ _).set (Nat.le_refl _) _,by omega⟩
def EndAt (M:Hp) (b:Nat) (v:XV) (l:List (Nat×Int×Bool)):Prop:=(v = .nilm/\l=[])\/∃em c,v = .mm em/\em<b/\tget M em=some (.map (entU vB l) c)
def MEnd (M:Hp) (b m:Nat) (l:List (Nat×Int×Bool)):Prop:=m<b/\∃c0 c1 c2 c3 v,tget M m=some (.row [c0,c1,c2,c3,v])/\EndAt M b v l
theorem f130 (ρ:Rho) {r:Rec} {M:Hp} {nx b m:Nat} {cs:List XV} {l:List (Nat×Int×Bool)} (hr:RecAt M b r cs) (hm:MEnd M b m l) (hb:b<=nx):FOk Tryz.prog ρ 130 [.mp m 0,.agg cs] M nx (Ret nx M (.bool (!((alook l r.t).getD false)))):=by
 obtain⟨pk,pa,pb,pv,ve,rfl,⟨p1,p2⟩,⟨q1,q2⟩,_,_⟩:=hr.cells
 obtain⟨hmb,c0,c1,c2,c3,v,hM,⟨rfl,rfl⟩ | ⟨em,c,rfl,hem,hE⟩⟩:=hm
 ·refine FOk.walk (m:=13) (rs:=[.tmp 4]) follows Tryz.func130 (by kernel_rfl) rfl rfl rfl ?_
  conv in W _ _ _ _ _ _ _=>arg 4;whnf
  simp (maxSteps:=10000000) (disch:=first|assumption|decide|omega|(simp only[zde, *];done)|(simp only[zdf,big];first|done|assumption|omega)) only [zst,argsE,spl,resXs,resX,vI,vB,vX,oneOr,Nat.reduceLT,Nat.reduceEqDiff,Nat.reduceAdd,Nat.reduceMul,Nat.reduceSub,reduceIte,Int.reduceLT,Int.reduceLE,Int.reduceEq,Int.reduceNeg,Int.reduceToNat,gy26,p1,p2,q1,q2,hM,Ret,alook]
  exact⟨(Agr.refl _ _).set (Nat.le_refl _) _,by omega⟩
 ·refine FOk.walk (m:=13) (rs:=[.tmp 4]) follows Tryz.func130 (by kernel_rfl) rfl rfl rfl ?_
  conv in W _ _ _ _ _ _ _=>arg 4;whnf
  refine xs8 gy26 p1 p2 q1 q2 hM hE @Ret.eq_1 ?_;try exact⟨⟩
  exact⟨(Agr.refl _ _).set (Nat.le_refl _) _,by omega⟩
theorem f128 (ρ:Rho) {r:Rec} {M:Hp} {nx b m:Nat} {cs:List XV} {l:List (Nat×Int×Bool)} (hr:RecAt M b r cs) (hm:MEnd M b m l) (hb:b<=nx):FOk Tryz.prog ρ 128 [.mp m 0,.agg cs] M nx (Ret nx M (.bool (!(decide (r.kind=1)) || !(alook l r.t).isSome))):=by
 obtain⟨pk,pa,pb,pv,ve,rfl,⟨p1,p2⟩,⟨q1,q2⟩,_,_⟩:=hr.cells
 obtain⟨hmb,c0,c1,c2,c3,v,hM,⟨rfl,rfl⟩ | ⟨em,c,rfl,hem,hE⟩⟩:=hm
 all_goals by_cases k1:r.kind=1
 ·refine FOk.walk (m:=24) (rs:=[.tmp 4]) follows Tryz.func128 (by kernel_rfl) rfl rfl rfl ?_
  conv in W _ _ _ _ _ _ _=>arg 4;whnf
  simp (maxSteps:=10000000) (disch:=first|assumption|decide|omega|(simp only[zde, *];done)|(simp only[zdf,big];first|done|assumption|omega)) only [zst,argsE,spl,resXs,resX,vI,vB,vX,oneOr,Nat.reduceLT,Nat.reduceEqDiff,Nat.reduceAdd,Nat.reduceMul,Nat.reduceSub,reduceIte,Int.reduceLT,Int.reduceLE,Int.reduceEq,Int.reduceNeg,Int.reduceToNat,gy26,p1,p2,q1,q2,hM,k1,Ret,alook]
  exact⟨rfl,(Agr.refl _ _).set (Nat.le_refl _) _,by omega⟩
 ·refine FOk.walk (m:=24) (rs:=[.tmp 4]) follows Tryz.func128 (by kernel_rfl) rfl rfl rfl ?_
  conv in W _ _ _ _ _ _ _=>arg 4;whnf
  simp (maxSteps:=10000000) (disch:=first|assumption|decide|omega|(simp only[zde, *];done)|(simp only[zdf,big];first|done|assumption|omega)) only [zst,argsE,spl,resXs,resX,vI,vB,vX,oneOr,Nat.reduceLT,Nat.reduceEqDiff,Nat.reduceAdd,Nat.reduceMul,Nat.reduceSub,reduceIte,Int.reduceLT,Int.reduceLE,Int.reduceEq,Int.reduceNeg,Int.reduceToNat,gy26,p1,p2,q1,q2,hM,k1,Ret,alook]
  exact⟨rfl,(Agr.refl _ _).set (Nat.le_refl _) _,by omega⟩
 ·refine FOk.walk (m:=24) (rs:=[.tmp 4]) follows Tryz.func128 (by kernel_rfl) rfl rfl rfl ?_
  conv in W _ _ _ _ _ _ _=>arg 4;whnf
  refine xs9 gy26 p1 p2 q1 q2 hM hE k1 @Ret.eq_1 ?_;try exact⟨⟩
  exact⟨by simp,(Agr.refl _ _).set (Nat.le_refl _) _,by omega⟩
 ·refine FOk.walk (m:=24) (rs:=[.tmp 4]) follows Tryz.func128 (by kernel_rfl) rfl rfl rfl ?_
  conv in W _ _ _ _ _ _ _=>arg 4;whnf
  refine xs9 gy26 p1 p2 q1 q2 hM hE k1 @Ret.eq_1 ?_;try exact⟨⟩
  exact⟨by simp,(Agr.refl _ _).set (Nat.le_refl _) _,by omega⟩
theorem f129 (ρ:Rho) {r:Rec} {M:Hp} {nx b m:Nat} {cs:List XV} {l:List (Nat×Int×Bool)} (hr:RecAt M b r cs) (hm:MEnd M b m l) (hb:b<=nx):FOk Tryz.prog ρ 129 [.mp m 0,.agg cs] M nx (Ret nx M (.bool (decide (r.kind=1)||(alook l r.t).isSome))):=by
 obtain⟨pk,pa,pb,pv,ve,rfl,⟨p1,p2⟩,⟨q1,q2⟩,_,_⟩:=hr.cells
 obtain⟨hmb,c0,c1,c2,c3,v,hM,⟨rfl,rfl⟩ | ⟨em,c,rfl,hem,hE⟩⟩:=hm
 all_goals by_cases k1:r.kind=1
 ·refine FOk.walk (m:=23) (rs:=[.tmp 4]) follows Tryz.func129 (by kernel_rfl) rfl rfl rfl ?_
  conv in W _ _ _ _ _ _ _=>arg 4;whnf
  simp (maxSteps:=10000000) (disch:=first|assumption|decide|omega|(simp only[zde, *];done)|(simp only[zdf,big];first|done|assumption|omega)) only [zst,argsE,spl,resXs,resX,vI,vB,vX,oneOr,Nat.reduceLT,Nat.reduceEqDiff,Nat.reduceAdd,Nat.reduceMul,Nat.reduceSub,reduceIte,Int.reduceLT,Int.reduceLE,Int.reduceEq,Int.reduceNeg,Int.reduceToNat,gy27,p1,p2,q1,q2,hM,k1,Ret,alook]
  exact⟨rfl,(Agr.refl _ _).set (Nat.le_refl _) _,by omega⟩
 ·refine FOk.walk (m:=23) (rs:=[.tmp 4]) follows Tryz.func129 (by kernel_rfl) rfl rfl rfl ?_
  conv in W _ _ _ _ _ _ _=>arg 4;whnf
  simp (maxSteps:=10000000) (disch:=first|assumption|decide|omega|(simp only[zde, *];done)|(simp only[zdf,big];first|done|assumption|omega)) only [zst,argsE,spl,resXs,resX,vI,vB,vX,oneOr,Nat.reduceLT,Nat.reduceEqDiff,Nat.reduceAdd,Nat.reduceMul,Nat.reduceSub,reduceIte,Int.reduceLT,Int.reduceLE,Int.reduceEq,Int.reduceNeg,Int.reduceToNat,gy27,p1,p2,q1,q2,hM,k1,Ret,alook]
  exact⟨rfl,(Agr.refl _ _).set (Nat.le_refl _) _,by omega⟩
 ·refine FOk.walk (m:=23) (rs:=[.tmp 4]) follows Tryz.func129 (by kernel_rfl) rfl rfl rfl ?_
  conv in W _ _ _ _ _ _ _=>arg 4;whnf
  refine xs9 gy27 p1 p2 q1 q2 hM hE k1 @Ret.eq_1 ?_;try exact⟨⟩
  exact⟨by simp,(Agr.refl _ _).set (Nat.le_refl _) _,by omega⟩
 ·refine FOk.walk (m:=23) (rs:=[.tmp 4]) follows Tryz.func129 (by kernel_rfl) rfl rfl rfl ?_
  conv in W _ _ _ _ _ _ _=>arg 4;whnf
  refine xs9 gy27 p1 p2 q1 q2 hM hE k1 @Ret.eq_1 ?_;try exact⟨⟩
  exact⟨by simp,(Agr.refl _ _).set (Nat.le_refl _) _,by omega⟩
end Go.Xs
namespace Go.Xs
open Go.Proofs
set_option maxRecDepth 100000
set_option maxHeartbeats 4000000
def RecC (r:Rec) (cs:List XV):Prop:=∃pk pa pb pv ve,cs=[.int .i64 r.kind,.int .u64 r.t,.int .u64 r.x,.int .u64 r.w,.int .u64 r.n,.int .u64 r.v,.int .i64 pk,.int .u64 pa,.int .u64 pb,pv,ve]/\(cellsOf pv=[pv]/\plain1 pv=true)/\cellsOf ve=[ve]/\plain1 ve=true
theorem RecAt.c {M:Hp} {b:Nat} {r:Rec} {cs:List XV} (h:RecAt M b r cs):RecC r cs:=by
 obtain⟨pk,pa,pb,pv,ve,h1,h2,h3,_,_⟩:=h.cells
 exact⟨pk,pa,pb,pv,ve,h1,h2,h3⟩
theorem f58 (ρ:Rho) {M:Hp} {nx lo hi h:Nat} {S:HS} {tag:Nat->Hg} {vrec vtxs vcom vmods vlook:XV} {nk vk ok cn cv co:Nat} {ptrs:List XV} {lnum:List (Nat×Int×Int)} {lver:List (Nat×List Int×Int)} {lobj:List (Nat×Int×Int)}
 (H:Hist M lo hi h S tag vrec vtxs vcom vmods vlook nk vk ok cn cv co ptrs lnum lver lobj) (hh:hi<=nx) {t:Int} {k:Nat} {v:XV} (hk:S.num t=some (k:Int)) (hv:ptrs[k]?=some v) (hkl:k<S.txs.length):FOk Tryz.prog ρ 58 [.mp h 0,.int .u64 t] M nx (Ret nx M v):=by
 have hr:=H.row
 have hnum:=H.num
 have hal:=H.numS t
 rw[hk]at hal
 obtain⟨n,o,hnb,hix,hld⟩:=H.txs.sl.fldG (P:=Tryz.prog) hkl (t:=86) ty86.2.2.2.1
 have hl:=hld 0 v (by omega) (by simp[hv]) 91 1 ty91.1 M (Agr.refl _ _)
 rw[Nat.add_zero]at hl
 refine FOk.walk (m:=17) (rs:=[.tmp 4]) follows Tryz.func58 (by kernel_rfl) rfl rfl rfl ?_
 conv in W _ _ _ _ _ _ _=>arg 4;whnf
 refine xs7 gy28 hr hnum hal hix hl @Ret.eq_1 ?_;try exact⟨⟩
 exact⟨Agr.refl _ _,by omega⟩
end Go.Xs
namespace Go.Xs
def HS.begin (S:HS) (i:Int) (r:Rec):HS:={ S with
 txs:=S.txs++[⟨r.t,i,0,3,-1⟩]
 num:=fun t=>if t=r.t then some (S.txs.length:Int) else S.num t
 places:=fun j x=>if j=S.txs.length then [] else S.places j x }
def HS.endTx (S:HS) (k:Nat) (a:TxS) (com:List Int):HS:={ S with txs:=S.txs.set k a,com:=com }
section
variable {M M':Hp} {lo hi hi' h:Nat} {S:HS} {tag tag':Nat->Hg} {vrec vtxs vcom vmods vlook:XV} {nk vk ok cn cv co:Nat} {ptrs:List XV} {lnum:List (Nat×Int×Int)} {lver:List (Nat×List Int×Int)} {lobj:List (Nat×Int×Int)}
def EndC (k:Nat) (g:Hg):Prop:=g = .hist\/g = .com\/g = .known k
theorem Hist.endTx {vcom':XV} {com:List Int} {k:Nat} {a:TxS} (H:Hist M lo hi h S tag vrec vtxs vcom vmods vlook nk vk ok cn cv co ptrs lnum lver lobj)
 (keep:∀q,q<hi->¬ EndC k (tag q)->tget M' q=tget M q) (htag:∀q,q<hi->tag' q=tag q) (hh:hi<=hi')
 (row:tget M' h=some (.row [vrec,vtxs,.mm nk,vcom',vmods,.mm vk,vlook,.mm ok])) (hcom:OwnSl M' lo hi' tag' .com vcom' 1 com.length (com.map (XV.int .u64)))
 (known:k<S.txs.length->∃v,ptrs[k]?=some v/\KnownAt M' lo hi' tag' k a (S.places k) v) :
 Hist M' lo hi' h (S.endTx k a com) tag' vrec vtxs vcom' vmods vlook nk vk ok cn cv co ptrs lnum lver lobj:=by
 have kk:=fun tg hc=>keepT (M:=M) (M':=M') (C:=EndC k) keep htag tg hc
 exact {
  lo_h:=H.lo_h,h_hi:=Nat.lt_of_lt_of_le H.h_hi hh,tg:=by rw[htag h H.h_hi];exact H.tg,row:=row
  recs:=H.recs.keep (kk _ (by simp[EndC])) hh
  txs:=by have e:(S.endTx k a com).txs.length=S.txs.length:=by simp[HS.endTx]
          rw[e];exact H.txs.keep (kk _ (by simp[EndC])) hh
  known:=fun j b hb=>by
   have hjl:j<S.txs.length:=by
    have:=(List.getElem?_eq_some_iff.1 hb).1
    simpa [HS.endTx] using this
   by_cases hj:j=k
   ·subst hj
    simp only[HS.endTx]at hb
    rw[List.getElem?_set_self hjl]at hb
    cases hb
    exact known hjl
   ·simp only[HS.endTx]at hb
    rw[List.getElem?_set_ne (fun e=>hj e.symm)]at hb
    obtain⟨v,h1,h2⟩:=H.known j b hb
    exact⟨v,h1,h2.keep (fun q hq hg=>⟨keep q hq (by rcases hg with g | g | ⟨x,g⟩<;>rw[g]<;>simp[EndC,hj]),htag q hq⟩) hh⟩
  nlo:=H.nlo,nhi:=Nat.lt_of_lt_of_le H.nhi hh,ntg:=by rw[htag nk H.nhi];exact H.ntg,num:=by rw[(kk _ (by simp[EndC]) nk H.nhi H.ntg).1];exact H.num,numS:=H.numS
  com:=hcom,mods:=H.mods.keep (kk _ (by simp[EndC])) hh
  vlo:=H.vlo,vhi:=Nat.lt_of_lt_of_le H.vhi hh,vtg:=by rw[htag vk H.vhi];exact H.vtg,ver:=by rw[(kk _ (by simp[EndC]) vk H.vhi H.vtg).1];exact H.ver,vrow:=H.vrow,verS:=H.verS
  looks:=H.looks.keep (kk _ (by simp[EndC])) hh
  olo:=H.olo,ohi:=Nat.lt_of_lt_of_le H.ohi hh,otg:=by rw[htag ok H.ohi];exact H.otg,obj:=by rw[(kk _ (by simp[EndC]) ok H.ohi H.otg).1];exact H.obj,objS:=H.objS }
def BegC (g:Hg):Prop:=g = .hist\/g = .txs\/g = .num
theorem Hist.begin {vtxs':XV} {cn':Nat} {ptr:XV} {lnum':List (Nat×Int×Int)} {r:Rec} {i:Int} (H:Hist M lo hi h S tag vrec vtxs vcom vmods vlook nk vk ok cn cv co ptrs lnum lver lobj)
 (keep:∀q,q<hi->¬ BegC (tag q)->tget M' q=tget M q) (htag:∀q,q<hi->tag' q=tag q) (hh:hi<=hi')
 (row:tget M' h=some (.row [vrec,vtxs',.mm nk,vcom,vmods,.mm vk,vlook,.mm ok])) (txs:OwnSl M' lo hi' tag' .txs vtxs' 1 (S.txs.length+1) (ptrs++[ptr]))
 (num:tget M' nk=some (.map (entU (vI .i64) lnum') cn')) (numS:∀t,alook lnum' t=(S.begin i r).num t)
 (known:KnownAt M' lo hi' tag' S.txs.length ⟨r.t,i,0,3,-1⟩ (fun _=>[]) ptr) :
 Hist M' lo hi' h (S.begin i r) tag' vrec vtxs' vcom vmods vlook nk vk ok cn' cv co (ptrs++[ptr]) lnum' lver lobj:=by
 have kk:=fun tg hc=>keepT (M:=M) (M':=M') (C:=BegC) keep htag tg hc
 have hpl:ptrs.length=S.txs.length:=by have:=H.txs.2.1;omega
 exact {
  lo_h:=H.lo_h,h_hi:=Nat.lt_of_lt_of_le H.h_hi hh,tg:=by rw[htag h H.h_hi];exact H.tg,row:=row
  recs:=H.recs.keep (kk _ (by simp[BegC])) hh
  txs:=by have e:(S.begin i r).txs.length=S.txs.length+1:=by simp[HS.begin]
          rw[e];exact txs
  known:=fun j b hb=>by
   simp only[HS.begin]at hb ⊢
   by_cases hj:j=S.txs.length
   ·subst hj
    simp only[List.getElem?_concat_length,Option.some.injEq]at hb
    subst hb
    refine⟨ptr,by rw[<-hpl,List.getElem?_concat_length],?_⟩
    have e:(fun x=>if S.txs.length=S.txs.length then [] else S.places S.txs.length x)=(fun _:Int=>([]:List Int)):=funext fun x=>if_pos rfl
    rw[e]
    exact known
   ·have hjl:j<S.txs.length:=by
     have:=(List.getElem?_eq_some_iff.1 hb).1
     simp only[List.length_append,List.length_cons,List.length_nil]at this
     omega
    rw[List.getElem?_append_left hjl]at hb
    obtain⟨v,h1,h2⟩:=H.known j b hb
    have e:(fun x=>if j=S.txs.length then [] else S.places j x)=S.places j:=funext fun x=>if_neg hj
    rw[e]
    exact⟨v,by rw[List.getElem?_append_left (by omega)];exact h1,h2.keep (fun q hq hg=>⟨keep q hq (by rcases hg with g | g | ⟨x,g⟩<;>rw[g]<;>simp[BegC]),htag q hq⟩) hh⟩
  nlo:=H.nlo,nhi:=Nat.lt_of_lt_of_le H.nhi hh,ntg:=by rw[htag nk H.nhi];exact H.ntg,num:=num,numS:=numS
  com:=H.com.keep (kk _ (by simp[BegC])) hh,mods:=H.mods.keep (kk _ (by simp[BegC])) hh
  vlo:=H.vlo,vhi:=Nat.lt_of_lt_of_le H.vhi hh,vtg:=by rw[htag vk H.vhi];exact H.vtg,ver:=by rw[(kk _ (by simp[BegC]) vk H.vhi H.vtg).1];exact H.ver,vrow:=H.vrow,verS:=H.verS
  looks:=H.looks.keep (kk _ (by simp[BegC])) hh
  olo:=H.olo,ohi:=Nat.lt_of_lt_of_le H.ohi hh,otg:=by rw[htag ok H.ohi];exact H.otg,obj:=by rw[(kk _ (by simp[BegC]) ok H.ohi H.otg).1];exact H.obj,objS:=H.objS }
end
end Go.Xs
namespace Go.Xs
open Go.Proofs
structure EndPost (M:Hp) (nx h rk nk mm vm om m:Nat) (ys:List XV) (c0 c1 c4 c6:XV) (T B N:Int) (i:Int) (old:List Nat) (o:Out):Prop where
 post:nx<=o.2.2/\tget o.2.1 rk=some (.row [.int .u64 T,.int .i64 B,.int .i64 i,.int .i64 1,.int .i64 (m:Int),.mm mm])/\(∃nc,nx<=nc/\nc<o.2.2/\tget o.2.1 h=some (.row [c0,c1,.mm nk,.sl nc 1 0 (m+1) (m+1),c4,.mm vm,c6,.mm om])/\tget o.2.1 nc=some (.row (ys++[.int .u64 T])))/\∀j,j<nx->j≠rk->j≠h->j ∉ old->tget o.2.1 j=tget M j
set_option maxRecDepth 100000
set_option maxHeartbeats 8000000
theorem f38w7 (ρ:Rho) (M:Hp) (nx h rk mm:Nat) (pp pe:XV) (T B E S N X VW VN V pk pa pb:Int) (i:Int)
 (hr:tget M rk=some (.row [.int .u64 T,.int .i64 B,.int .i64 E,.int .i64 S,.int .i64 N,.mm mm]))
 (hof:∀M' nx',Agr nx M M'->nx<=nx'->FOk Tryz.prog ρ 58 [.mp h 0,.int .u64 T] M' nx' (Ret nx' M' (.mp rk 0)))
 (b2:rk<nx) (p1:cellsOf pp=[pp]) (p2:plain1 pp=true) (p3:cellsOf pe=[pe]) (p4:plain1 pe=true) :
 FOk Tryz.prog ρ 38 [.mp h 0,.int .i64 i,.agg [.int .i64 7,.int .u64 T,.int .u64 X,.int .u64 VW,.int .u64 VN,.int .u64 V,.int .i64 pk,.int .u64 pa,.int .u64 pb,pp,pe]] M nx fun o =>
  o.1 = .tup []/\nx<=o.2.2/\tget o.2.1 rk=some (.row [.int .u64 T,.int .i64 B,.int .i64 i,.int .i64 2,.int .i64 N,.mm mm])/\∀j,j<nx->j≠rk->tget o.2.1 j=tget M j:=by
 refine FOk.walk (m:=134) (rs:=[]) follows Tryz.func38 (by kernel_rfl) rfl rfl rfl ?_
 conv in W _ _ _ _ _ _ _=>arg 4;whnf
 refine xs5 gy29 p1 p2 p3 p4 ?_;try exact⟨⟩
 generalize hM1:tset M nx _=M1
 have a1:Agr nx M M1:=by rw[<-hM1];exact(by(repeat (refine Agr.set ?_ (by omega) _));exact Agr.refl _ _)
 clear hM1
 refine CN_fok (hof _ _ a1 (by omega)) ?_
 rintro⟨v,M2,n2⟩ ⟨g1,g2,g3⟩
 simp only at g1 g2 g3
 subst g1
 have a2:=a1.trans (g2.le (by omega))
 have zr:=(a2 rk b2).trans hr
 clear g2 a1 hr hof
 refine xs2 gy29 zr ?_;try exact⟨⟩
 refine⟨by omega,fun j hj hne=>?_⟩
 have:=a2 j hj
 have k0:KEq rk j=False:=by simp only[KEq,eq_iff_iff,iff_false];exact fun e=>hne e.symm
 refine xs3 gy29 k0 this ?_;try exact⟨⟩
theorem f38w60 (ρ:Rho) (M:Hp) (nx h rk nk mm vm om cs m:Nat) (ys:List XV) (c0 c1 c4 c6 pp pe:XV) (T B E S N X VW VN V pk pa pb:Int) (i:Int)
 (hh:tget M h=some (.row [c0,c1,.mm nk,.nils,c4,.mm vm,c6,.mm om]))
 (hr:tget M rk=some (.row [.int .u64 T,.int .i64 B,.int .i64 E,.int .i64 S,.int .i64 N,.mm mm]))
 (hof:∀M' nx',Agr nx M M'->nx<=nx'->FOk Tryz.prog ρ 58 [.mp h 0,.int .u64 T] M' nx' (Ret nx' M' (.mp rk 0)))
 (b1:h<nx) (b2:rk<nx) (hd:KEq h rk=False/\KEq rk h=False) (p1:cellsOf pp=[pp]) (p2:plain1 pp=true) (p3:cellsOf pe=[pe]) (p4:plain1 pe=true) :
 FOk Tryz.prog ρ 38 [.mp h 0,.int .i64 i,.agg [.int .i64 6,.int .u64 T,.int .u64 X,.int .u64 VW,.int .u64 VN,.int .u64 V,.int .i64 pk,.int .u64 pa,.int .u64 pb,pp,pe]] M nx fun o =>
  o.1 = .tup []/\EndPost M nx h rk nk mm vm om 0 [] c0 c1 c4 c6 T B N i [] o:=by
 refine FOk.walk (m:=134) (rs:=[]) follows Tryz.func38 (by kernel_rfl) rfl rfl rfl ?_
 conv in W _ _ _ _ _ _ _=>arg 4;whnf
 refine xs5 gy29 p1 p2 p3 p4 ?_;try exact⟨⟩
 generalize hM1:tset M nx _=M1
 have a1:Agr nx M M1:=by rw[<-hM1];exact(by(repeat (refine Agr.set ?_ (by omega) _));exact Agr.refl _ _)
 have z0:tget M1 nx=some (.row [.int .i64 6,.int .u64 T,.int .u64 X,.int .u64 VW,.int .u64 VN,.int .u64 V,.int .i64 pk,.int .u64 pa,.int .u64 pb,pp,pe]):=by rw[<-hM1];exact(by(repeat (first | rw[tget_tset,if_pos rfl] | rw[tget_tset,if_neg (by omega)] | rw[tget_tdel,if_neg (by omega)]));try (first | rfl | assumption))
 clear hM1
 refine CN_fok (hof _ _ a1 (by omega)) ?_
 rintro⟨v,M2,n2⟩ ⟨g1,g2,g3⟩
 simp only at g1 g2 g3
 subst g1
 have a2:=a1.trans (g2.le (by omega))
 have zr:=(a2 rk b2).trans hr
 have zh:=(a2 h b1).trans hh
 replace z0:=(g2 nx (by omega)).trans z0
 clear g2 a1 hr hh hof
 refine xs5 gy29 zr zh z0 hd ?_;try exact⟨⟩
 have zz:=fun j hj=>a2 j hj
 refine⟨?_,⟨by simp only;omega,?_,⟨n2+30,by omega,by simp only;omega,?_,?_⟩,fun j hj f1 f2 f3=>?_⟩⟩
 ·(repeat' apply And.intro)<;>(refine okP2_ap _ _ _ _ _ _ ?_ ?_ ?_<;>(intro x hx hy;first | (simp only[List.mem_cons,List.not_mem_nil,or_false]at hx hy;done) | (simp only[List.mem_cons,List.not_mem_nil,or_false]at hx hy;omega)))
 rotate_right
 ·have zj:=zz j hj
  have k0:KEq rk j=False:=by simp only[KEq,eq_iff_iff,iff_false];exact fun e=>f1 e.symm
  have k1:KEq h j=False:=by simp only[KEq,eq_iff_iff,iff_false];exact fun e=>f2 e.symm
  refine xs4 gy29 k0 k1 zj ?_;try exact⟨⟩
 all_goals first
  | ((refine xs2 gy29 hd ?_;try exact⟨⟩);done)
  | ((refine xs2 gy29 hd ?_;try exact⟨⟩);first | rfl | (simp;done))
  | skip
theorem f38w61 (ρ:Rho) (M:Hp) (nx h rk nk mm vm om cs m:Nat) (ys:List XV) (c0 c1 c4 c6 pp pe:XV) (T B E S N X VW VN V pk pa pb:Int) (i:Int)
 (hh:tget M h=some (.row [c0,c1,.mm nk,.sl cs 1 0 m m,c4,.mm vm,c6,.mm om])) (hcs:tget M cs=some (.row ys)) (hcl:ys.length=m) (b3:cs<nx) (hm:1<=m) (bm:m<=100000)
 (hr:tget M rk=some (.row [.int .u64 T,.int .i64 B,.int .i64 E,.int .i64 S,.int .i64 N,.mm mm]))
 (hof:∀M' nx',Agr nx M M'->nx<=nx'->FOk Tryz.prog ρ 58 [.mp h 0,.int .u64 T] M' nx' (Ret nx' M' (.mp rk 0)))
 (b1:h<nx) (b2:rk<nx) (hd:KEq h rk=False/\KEq rk h=False/\KEq h cs=False/\KEq cs h=False/\KEq rk cs=False/\KEq cs rk=False) (p1:cellsOf pp=[pp]) (p2:plain1 pp=true) (p3:cellsOf pe=[pe]) (p4:plain1 pe=true) :
 FOk Tryz.prog ρ 38 [.mp h 0,.int .i64 i,.agg [.int .i64 6,.int .u64 T,.int .u64 X,.int .u64 VW,.int .u64 VN,.int .u64 V,.int .i64 pk,.int .u64 pa,.int .u64 pb,pp,pe]] M nx fun o =>
  o.1 = .tup []/\EndPost M nx h rk nk mm vm om m ys c0 c1 c4 c6 T B N i [cs] o:=by
 refine FOk.walk (m:=134) (rs:=[]) follows Tryz.func38 (by kernel_rfl) rfl rfl rfl ?_
 conv in W _ _ _ _ _ _ _=>arg 4;whnf
 refine xs5 gy29 p1 p2 p3 p4 ?_;try exact⟨⟩
 generalize hM1:tset M nx _=M1
 have a1:Agr nx M M1:=by rw[<-hM1];exact(by(repeat (refine Agr.set ?_ (by omega) _));exact Agr.refl _ _)
 have z0:tget M1 nx=some (.row [.int .i64 6,.int .u64 T,.int .u64 X,.int .u64 VW,.int .u64 VN,.int .u64 V,.int .i64 pk,.int .u64 pa,.int .u64 pb,pp,pe]):=by rw[<-hM1];exact(by(repeat (first | rw[tget_tset,if_pos rfl] | rw[tget_tset,if_neg (by omega)] | rw[tget_tdel,if_neg (by omega)]));try (first | rfl | assumption))
 clear hM1
 refine CN_fok (hof _ _ a1 (by omega)) ?_
 rintro⟨v,M2,n2⟩ ⟨g1,g2,g3⟩
 simp only at g1 g2 g3
 subst g1
 have a2:=a1.trans (g2.le (by omega))
 have zr:=(a2 rk b2).trans hr
 have zh:=(a2 h b1).trans hh
 replace z0:=(g2 nx (by omega)).trans z0
 have zc:=(a2 cs b3).trans hcs
 clear hcs
 clear g2 a1 hr hh hof
 refine xs7 gy29 zr zh z0 hd zc hcl ?_;try exact⟨⟩
 have htk:List.take m ys=ys:=List.take_of_length_le (by omega)
 have zz:=fun j hj=>a2 j hj
 refine⟨?_,⟨by simp only;omega,?_,⟨n2+30,by omega,by simp only;omega,?_,?_⟩,fun j hj f1 f2 f3=>?_⟩⟩
 ·(repeat' apply And.intro)<;>(refine okP2_ap _ _ _ _ _ _ ?_ ?_ ?_<;>(intro x hx hy;first | (simp only[List.mem_cons,List.not_mem_nil,or_false]at hx hy;done) | (simp only[List.mem_cons,List.not_mem_nil,or_false]at hx hy;omega)))
 rotate_right
 ·have zj:=zz j hj
  have k0:KEq rk j=False:=by simp only[KEq,eq_iff_iff,iff_false];exact fun e=>f1 e.symm
  have k1:KEq h j=False:=by simp only[KEq,eq_iff_iff,iff_false];exact fun e=>f2 e.symm
  have k2:KEq cs j=False:=by simp only[KEq,eq_iff_iff,iff_false];exact fun e=>f3 (by rw[<-e];simp)
  refine xs5 gy29 k0 k1 k2 zj ?_;try exact⟨⟩
 all_goals first
  | ((refine xs3 gy29 hd htk ?_;try exact⟨⟩);done)
  | ((refine xs3 gy29 hd htk ?_;try exact⟨⟩);first | rfl | (simp;done))
  | skip
end Go.Xs
namespace Go.Xs
open Go.Proofs
set_option maxRecDepth 100000
set_option maxHeartbeats 4000000
theorem f38abort (ρ:Rho) {M:Hp} {nx lo hi h:Nat} {S:HS} {r:Rec} {cs:List XV} (hr:RecC r cs) (H:HistAt M lo hi h S) (hh:hi<=nx) (k7:r.kind=7) {k:Nat} (hk:S.num r.t=some (k:Int)) {a:TxS} (ha:S.txs[k]?=some a) (hat:a.t=r.t) (i:Int) :
 FOk Tryz.prog ρ 38 [.mp h 0,.int .i64 i,.agg cs] M nx fun o=>o.1 = .tup []/\HistAt o.2.1 lo o.2.2 h (S.endTx k ⟨r.t,a.b,i,2,a.n⟩ S.com)/\Agr lo M o.2.1/\nx<=o.2.2:=by
 obtain⟨pk,pa,pb,pv,ve,rfl,⟨p1,p2⟩,⟨q1,q2⟩⟩:=hr
 rw[k7]
 obtain⟨tag,vrec,vtxs,vcom,vmods,vlook,nk,vk,ok,cn,cv,co,ptrs,lnum,lver,lobj,H⟩:=H
 have hkl:k<S.txs.length:=(List.getElem?_eq_some_iff.1 ha).1
 obtain⟨w,hv,rk,mk,cm,lm,rfl,r1,r2,r3,r4,m1,m2,m3,m4,l0,l1⟩:=H.known k a ha
 have hof:∀M' nx',Agr nx M M'->nx<=nx'->FOk Tryz.prog ρ 58 [.mp h 0,.int .u64 r.t] M' nx' (Ret nx' M' (.mp rk 0)):=fun M' nx' ha hn=>f58 ρ (H.agr (ha.le hh)) (by omega) hk hv hkl
 simp only[encTx,List.cons_append,List.nil_append,hat]at r4
 have hhi:=H.h_hi
 have hlo:=H.lo_h
 refine FOk.mono (f38w7 ρ M nx h rk mk pv ve r.t a.b a.e a.s a.n r.x r.w r.n r.v pk pa pb i r4 hof (by omega) p1 p2 q1 q2) fun o ⟨g1,g2,g3,g4⟩=>⟨g1,?_,fun j hj=>g4 j (by omega) (by omega),g2⟩
 have key:∀q,q<hi->¬ EndC k (tag q)->tget o.2.1 q=tget M q:=fun q hq hc=>g4 q (by omega) fun e=>hc (by rw[e];exact .inr (.inr r3))
 have d1:=tag_ne H.tg r3 (by simp)
 have kc:∀(tg:Hg),tg ≠ .known k->∀q,q<hi->tag q=tg->tget o.2.1 q=tget M q/\tag q=tg:=fun tg h1 q hq hg=>⟨g4 q (by omega) fun e=>h1 (by rw[<-hg,e];exact r3),hg⟩
 refine⟨tag,vrec,vtxs,vcom,vmods,vlook,nk,vk,ok,cn,cv,co,ptrs,lnum,lver,lobj,H.endTx key (fun _ _=>rfl) (by omega) ?_ (H.com.keep (kc _ (by simp)) (by omega)) fun _=>⟨_,hv,rk,mk,cm,lm,rfl,r1,by omega,r3,?_,m1,by omega,m3,?_,l0,fun x v hx=>?_⟩⟩
 ·rw[(kc _ (by simp) h H.h_hi H.tg).1];exact H.row
 ·rw[g3];rfl
 ·rw[(kc _ (by simp) mk m2 m3).1];exact m4
 ·obtain⟨e1,e2⟩:=l1 x v hx
  exact⟨e1,e2.keep (kc _ (by simp)) (by omega)⟩
theorem f38commit (ρ:Rho) {M:Hp} {nx lo hi h:Nat} {S:HS} {r:Rec} {cs:List XV} (hr:RecC r cs) (H:HistAt M lo hi h S) (hh:hi<=nx) (k6:r.kind=6) {k:Nat} (hk:S.num r.t=some (k:Int)) {a:TxS} (ha:S.txs[k]?=some a) (hat:a.t=r.t) (few:S.com.length<=100000) (i:Int) :
 FOk Tryz.prog ρ 38 [.mp h 0,.int .i64 i,.agg cs] M nx fun o=>o.1 = .tup []/\HistAt o.2.1 lo o.2.2 h (S.endTx k ⟨r.t,a.b,i,1,(S.com.length:Int)⟩ (S.com++[r.t]))/\Agr lo M o.2.1/\nx<=o.2.2:=by
 obtain⟨pk,pa,pb,pv,ve,rfl,⟨p1,p2⟩,⟨q1,q2⟩⟩:=hr
 rw[k6]
 obtain⟨tag,vrec,vtxs,vcom,vmods,vlook,nk,vk,ok,cn,cv,co,ptrs,lnum,lver,lobj,H⟩:=H
 have hkl:k<S.txs.length:=(List.getElem?_eq_some_iff.1 ha).1
 obtain⟨w,hv,rk,mk,cm,lm,rfl,r1,r2,r3,r4,m1,m2,m3,m4,l0,l1⟩:=H.known k a ha
 have hof:∀M' nx',Agr nx M M'->nx<=nx'->FOk Tryz.prog ρ 58 [.mp h 0,.int .u64 r.t] M' nx' (Ret nx' M' (.mp rk 0)):=fun M' nx' ha hn=>f58 ρ (H.agr (ha.le hh)) (by omega) hk hv hkl
 simp only[encTx,List.cons_append,List.nil_append,hat]at r4
 have hhi:=H.h_hi
 have hlo:=H.lo_h
 have d1:=tag_ne H.tg r3 (by simp)
 have fin:∀(old:List Nat) (o:Out),(∀j ∈ old,tag j = .com)->(∀j ∈ old,lo<=j)->EndPost M nx h rk nk mk vk ok S.com.length (S.com.map (XV.int .u64)) vrec vtxs vmods vlook r.t a.b a.n i old o ->
  HistAt o.2.1 lo o.2.2 h (S.endTx k ⟨r.t,a.b,i,1,(S.com.length:Int)⟩ (S.com++[r.t]))/\Agr lo M o.2.1/\nx<=o.2.2:=by
  intro old o h1 h2 P
  obtain⟨⟨g2,g3,⟨nc,c1,c2,c3,c4⟩,g4⟩⟩:=P
  have key:∀q,q<hi->¬ EndC k (tag q)->tget o.2.1 q=tget M q:=fun q hq hc=>g4 q (by omega) (fun e=>hc (by rw[e];exact .inr (.inr r3))) (fun e=>hc (by rw[e];exact .inl H.tg)) fun e=>hc (.inr (.inl (h1 q e)))
  have kc:∀(tg:Hg),¬ EndC k tg->∀q,q<hi->tag q=tg->tget o.2.1 q=tget M q/\(if q=nc then Hg.com else tag q)=tg:=fun tg h1 q hq hg=>⟨key q hq (by rw[hg];exact h1),by rw[if_neg (by omega)];exact hg⟩
  refine⟨⟨fun q=>if q=nc then .com else tag q,vrec,vtxs,_,vmods,vlook,nk,vk,ok,cn,cv,co,ptrs,lnum,lver,lobj,H.endTx (tag':=fun q=>if q=nc then .com else tag q) key (fun q hq=>if_neg (by omega)) (by omega) c3 ?_ fun _=>⟨_,hv,rk,mk,cm,lm,rfl,r1,by omega,by simp only;rw[if_neg (by omega)];exact r3,?_,m1,by omega,by simp only;rw[if_neg (by omega)];exact m3,?_,l0,fun x v hx=>?_⟩⟩,fun j hj=>g4 j (by omega) (by omega) (by omega) fun e=>by have:=h2 j e;omega,g2⟩
  ·have e:(S.com++[r.t]).length=S.com.length+1:=by simp
   rw[e]
   exact⟨by omega,by simp,.inr ⟨by omega,nc,rfl,by omega,c2,by simp,by rw[c4,List.map_append];rfl⟩⟩
  ·rw[g3];rfl
  ·rw[key mk m2 (by rw[m3];simp[EndC])];exact m4
  ·obtain⟨e1,e2⟩:=l1 x v hx
   exact⟨e1,e2.keep (kc _ (by simp[EndC])) (by omega)⟩
 have hrow:=H.row
 obtain⟨hz,hcl,⟨rfl,hl0⟩ | ⟨hl,ck,rfl,s1,s2,s3,s4⟩⟩:=H.com
 ·have hc0:S.com=[]:=List.length_eq_zero_iff.1 hl0
  have hd:KEq h rk=False/\KEq rk h=False:=by simp only[KEq,eq_iff_iff,iff_false];exact⟨d1,d1.symm⟩
  refine FOk.mono (f38w60 ρ M nx h rk nk mk vk ok 0 0 [] vrec vtxs vmods vlook pv ve r.t a.b a.e a.s a.n r.x r.w r.n r.v pk pa pb i hrow r4 hof (by omega) (by omega) hd p1 p2 q1 q2) fun o ho=>⟨ho.1,fin [] o (fun j hj=>by cases hj) (fun j hj=>by cases hj) ?_⟩
  rw[hc0]
  exact ho.2
 ·have d2:=tag_ne H.tg s3 (by simp)
  have d3:=tag_ne r3 s3 (by simp)
  have hd:KEq h rk=False/\KEq rk h=False/\KEq h ck=False/\KEq ck h=False/\KEq rk ck=False/\KEq ck rk=False:=by simp only[KEq,eq_iff_iff,iff_false];exact⟨d1,d1.symm,d2,d2.symm,d3,d3.symm⟩
  refine FOk.mono (f38w61 ρ M nx h rk nk mk vk ok ck S.com.length (S.com.map (XV.int .u64)) vrec vtxs vmods vlook pv ve r.t a.b a.e a.s a.n r.x r.w r.n r.v pk pa pb i hrow s4 (by simp) (by omega) hl few r4 hof (by omega) (by omega) hd p1 p2 q1 q2) fun o ho=>⟨ho.1,fin [ck] o (fun j hj=>?_) (fun j hj=>?_) ho.2⟩
  ·simp only[List.mem_cons,List.not_mem_nil,or_false]at hj;subst hj;exact s3
  ·simp only[List.mem_cons,List.not_mem_nil,or_false]at hj;subst hj;exact s1
end Go.Xs
namespace Go.Xs
structure ModPost (M:Hp) (nx h nk rk mm vm om:Nat) (old:List Nat) (cm cv co m q:Nat) (lm:List (Nat×Int×XV)) (lv:List (Nat×List Int×Int)) (lo:List (Nat×Int×Int)) (ys zs:List XV) (c0 c1 c3 c6:XV) (T B E S N K X V:Int) (i:Int) (o:Out):Prop where
 post:nx<=o.2.2/\∃ns nm cm' cv' co',nx<=ns/\nx<=nm/\ns<o.2.2/\nm<o.2.2/\ns≠nm/\cm'=acl lm cm X /\
  tget o.2.1 h=some (.row [c0,c1,.mm nk,c3,.sl nm 8 0 (m+1) (m+1),.mm vm,c6,.mm om])/\tget o.2.1 rk=some (.row [.int .u64 T,.int .i64 B,.int .i64 E,.int .i64 S,.int .i64 N,.mm mm]) /\
  tget o.2.1 mm=some (.map (entU vX (aput lm cm X (.sl ns 1 0 (q+1) (q+1)))) cm')/\tget o.2.1 vm=some (.map (entA (vI .i64) (aput lv cv [X,T,((q+1:Nat):Int)] (m:Int))) cv') /\
  tget o.2.1 om=some (.map (entU (vI .i64) (aput lo co X ((alook lo X).getD 0+1))) co')/\tget o.2.1 ns=some (.row (zs++[.int .i64 (m:Int)])) /\
  tget o.2.1 nm=some (.row (ys++[.int .i64 i,.int .u64 T,.int .u64 X,.int .u64 T,.int .u64 ((q+1:Nat):Int),.int .u64 V,.bool (decide (K=4)),.bool false])) /\
  ∀j,j<nx->j≠h->j≠mm->j≠vm->j≠om->j ∉ old->tget o.2.1 j=tget M j
end Go.Xs
namespace Go.Xs
open Go.Proofs
set_option maxRecDepth 100000
set_option maxHeartbeats 8000000
theorem f67w00 (ρ:Rho) (M:Hp) (nx h nk rk mm vm om ms s:Nat) (cm cv co m q:Nat) (lm:List (Nat×Int×XV)) (lv:List (Nat×List Int×Int)) (lo:List (Nat×Int×Int)) (ys zs:List XV) (c0 c1 c3 c6 pp pe:XV) (T B E S N K X VW VN V pk pa pb:Int) (i:Int)
 (hh:tget M h=some (.row [c0,c1,.mm nk,c3,.nils,.mm vm,c6,.mm om])) (hr:tget M rk=some (.row [.int .u64 T,.int .i64 B,.int .i64 E,.int .i64 S,.int .i64 N,.mm mm]))
 (hmm:tget M mm=some (.map (entU vX lm) cm)) (hvm:tget M vm=some (.map (entA (vI .i64) lv) cv)) (hom:tget M om=some (.map (entU (vI .i64) lo) co)) (hlv:rowsA 3 lv) (hlm:alook lm X=none)
 (hof:∀M' nx',Agr nx M M'->nx<=nx'->FOk Tryz.prog ρ 58 [.mp h 0,.int .u64 T] M' nx' (Ret nx' M' (.mp rk 0)))
 (b1:h<nx) (b2:rk<nx) (b3:mm<nx) (b4:vm<nx) (b5:om<nx) (hd:KEq h rk=False/\KEq rk h=False/\KEq h mm=False/\KEq mm h=False/\KEq h vm=False/\KEq vm h=False/\KEq h om=False/\KEq om h=False/\KEq rk mm=False/\KEq mm rk=False/\KEq rk vm=False/\KEq vm rk=False/\KEq rk om=False/\KEq om rk=False/\KEq mm vm=False/\KEq vm mm=False/\KEq mm om=False/\KEq om mm=False/\KEq vm om=False/\KEq om vm=False) (hw:IntKind.i64.wrap ((alook lo X).getD 0+1)=(alook lo X).getD 0+1)
 (p1:cellsOf pp=[pp]) (p2:plain1 pp=true) (p3:cellsOf pe=[pe]) (p4:plain1 pe=true) :
 FOk Tryz.prog ρ 67 [.mp h 0,.int .i64 i,.agg [.int .i64 K,.int .u64 T,.int .u64 X,.int .u64 VW,.int .u64 VN,.int .u64 V,.int .i64 pk,.int .u64 pa,.int .u64 pb,pp,pe]] M nx fun o =>
  o.1 = .tup []/\ModPost M nx h nk rk mm vm om [] cm cv co 0 0 lm lv lo [] [] c0 c1 c3 c6 T B E S N K X V i o:=by
 have hw2:IntKind.u64.wrap (IntKind.i64.wrap ((0:Nat)+1))=((0+1:Nat):Int):=by
  rw[wrap_i64 (by omega) (by omega),wrap_u64 (by omega) (by omega)];omega
 simp only[Int.cast_ofNat_Int]at hw2
 refine FOk.walk (m:=85) (rs:=[]) follows Tryz.func67 (by kernel_rfl) rfl rfl rfl ?_
 conv in W _ _ _ _ _ _ _=>arg 4;whnf
 refine xs7 gy30 hh p2 p4 hd p1 p3 ?_;try exact⟨⟩
 generalize hM1:tset M nx _=M1
 have a1:Agr nx M M1:=by rw[<-hM1];exact(by(repeat (refine Agr.set ?_ (by omega) _));exact Agr.refl _ _)
 have z0:tget M1 nx=some (.row [.int .i64 K,.int .u64 T,.int .u64 X,.int .u64 VW,.int .u64 VN,.int .u64 V,.int .i64 pk,.int .u64 pa,.int .u64 pb,pp,pe]):=by rw[<-hM1];exact(by(repeat (first | rw[tget_tset,if_pos rfl] | rw[tget_tset,if_neg (by omega)] | rw[tget_tdel,if_neg (by omega)]));try (first | rfl | assumption))
 clear hM1
 refine CN_fok (hof _ _ a1 (by omega)) ?_
 rintro⟨v,M2,n2⟩ ⟨g1,g2,g3⟩
 simp only at g1 g2 g3
 subst g1
 have a2:=a1.trans (g2.le (by omega))
 replace z0:=(g2 nx (by omega)).trans z0
 have zh:=(a2 h b1).trans hh
 have zr:=(a2 rk b2).trans hr
 have zm:=(a2 mm b3).trans hmm
 have zv:=(a2 vm b4).trans hvm
 have zo:=(a2 om b5).trans hom
 clear g2 a1 hh hr hmm hvm hom hof
 refine xs12 gy30 z0 zh zr zm zv zo hlm hlv hd hw hw2 ?_;try exact⟨⟩
 repeat' apply And.intro
 all_goals first
  | (refine okP2_ap _ _ _ _ _ _ ?_ ?_ ?_<;>(intro x hx hy;first | (simp only[List.mem_cons,List.not_mem_nil,or_false]at hx hy;done) | (simp only[List.mem_cons,List.not_mem_nil,or_false]at hx hy;omega));done)
  | skip
 have zz:=fun j hj=>a2 j hj
 refine⟨⟨by simp only;omega,n2+37,n2+67,acl lm cm X,acl lv cv [X,T,((0+1:Nat):Int)],acl lo co X,by omega,by omega,by simp only;omega,by simp only;omega,by omega,rfl,?_,?_,?_,?_,?_,?_,?_,fun j hj f1 f2 f3 f4 f5=>?_⟩⟩
 rotate_right
 ·have zj:=zz j hj
  have k0:KEq h j=False:=by simp only[KEq,eq_iff_iff,iff_false];exact fun e=>f1 e.symm
  have k1:KEq mm j=False:=by simp only[KEq,eq_iff_iff,iff_false];exact fun e=>f2 e.symm
  have k2:KEq vm j=False:=by simp only[KEq,eq_iff_iff,iff_false];exact fun e=>f3 e.symm
  have k3:KEq om j=False:=by simp only[KEq,eq_iff_iff,iff_false];exact fun e=>f4 e.symm
  refine xs6 gy30 k0 k1 k2 k3 zj ?_;try exact⟨⟩
 all_goals first
  | ((refine xs3 gy30 hd zr ?_;try exact⟨⟩);done)
  | ((refine xs3 gy30 hd zr ?_;try exact⟨⟩);first | rfl | (simp;done))
  | skip
end Go.Xs
namespace Go.Xs
open Go.Proofs
set_option maxRecDepth 100000
set_option maxHeartbeats 8000000
theorem f67w01 (ρ:Rho) (M:Hp) (nx h nk rk mm vm om ms s:Nat) (cm cv co m q:Nat) (lm:List (Nat×Int×XV)) (lv:List (Nat×List Int×Int)) (lo:List (Nat×Int×Int)) (ys zs:List XV) (c0 c1 c3 c6 pp pe:XV) (T B E S N K X VW VN V pk pa pb:Int) (i:Int)
 (hh:tget M h=some (.row [c0,c1,.mm nk,c3,.sl ms 8 0 m m,.mm vm,c6,.mm om])) (hr:tget M rk=some (.row [.int .u64 T,.int .i64 B,.int .i64 E,.int .i64 S,.int .i64 N,.mm mm]))
 (hmm:tget M mm=some (.map (entU vX lm) cm)) (hvm:tget M vm=some (.map (entA (vI .i64) lv) cv)) (hom:tget M om=some (.map (entU (vI .i64) lo) co)) (hlv:rowsA 3 lv) (hlm:alook lm X=none) (hms:tget M ms=some (.row ys)) (hy:ys.length=m*8) (b6:ms<nx) (bm:m<=100000)
 (hof:∀M' nx',Agr nx M M'->nx<=nx'->FOk Tryz.prog ρ 58 [.mp h 0,.int .u64 T] M' nx' (Ret nx' M' (.mp rk 0)))
 (b1:h<nx) (b2:rk<nx) (b3:mm<nx) (b4:vm<nx) (b5:om<nx) (hd:KEq h rk=False/\KEq rk h=False/\KEq h mm=False/\KEq mm h=False/\KEq h vm=False/\KEq vm h=False/\KEq h om=False/\KEq om h=False/\KEq h ms=False/\KEq ms h=False/\KEq rk mm=False/\KEq mm rk=False/\KEq rk vm=False/\KEq vm rk=False/\KEq rk om=False/\KEq om rk=False/\KEq rk ms=False/\KEq ms rk=False/\KEq mm vm=False/\KEq vm mm=False/\KEq mm om=False/\KEq om mm=False/\KEq mm ms=False/\KEq ms mm=False/\KEq vm om=False/\KEq om vm=False/\KEq vm ms=False/\KEq ms vm=False/\KEq om ms=False/\KEq ms om=False) (hw:IntKind.i64.wrap ((alook lo X).getD 0+1)=(alook lo X).getD 0+1)
 (p1:cellsOf pp=[pp]) (p2:plain1 pp=true) (p3:cellsOf pe=[pe]) (p4:plain1 pe=true) :
 FOk Tryz.prog ρ 67 [.mp h 0,.int .i64 i,.agg [.int .i64 K,.int .u64 T,.int .u64 X,.int .u64 VW,.int .u64 VN,.int .u64 V,.int .i64 pk,.int .u64 pa,.int .u64 pb,pp,pe]] M nx fun o =>
  o.1 = .tup []/\ModPost M nx h nk rk mm vm om [ms] cm cv co m 0 lm lv lo ys [] c0 c1 c3 c6 T B E S N K X V i o:=by
 have hw2:IntKind.u64.wrap (IntKind.i64.wrap ((0:Nat)+1))=((0+1:Nat):Int):=by
  rw[wrap_i64 (by omega) (by omega),wrap_u64 (by omega) (by omega)];omega
 simp only[Int.cast_ofNat_Int]at hw2
 refine FOk.walk (m:=85) (rs:=[]) follows Tryz.func67 (by kernel_rfl) rfl rfl rfl ?_
 conv in W _ _ _ _ _ _ _=>arg 4;whnf
 refine xs7 gy30 hh p2 p4 hd p1 p3 ?_;try exact⟨⟩
 generalize hM1:tset M nx _=M1
 have a1:Agr nx M M1:=by rw[<-hM1];exact(by(repeat (refine Agr.set ?_ (by omega) _));exact Agr.refl _ _)
 have z0:tget M1 nx=some (.row [.int .i64 K,.int .u64 T,.int .u64 X,.int .u64 VW,.int .u64 VN,.int .u64 V,.int .i64 pk,.int .u64 pa,.int .u64 pb,pp,pe]):=by rw[<-hM1];exact(by(repeat (first | rw[tget_tset,if_pos rfl] | rw[tget_tset,if_neg (by omega)] | rw[tget_tdel,if_neg (by omega)]));try (first | rfl | assumption))
 clear hM1
 refine CN_fok (hof _ _ a1 (by omega)) ?_
 rintro⟨v,M2,n2⟩ ⟨g1,g2,g3⟩
 simp only at g1 g2 g3
 subst g1
 have a2:=a1.trans (g2.le (by omega))
 replace z0:=(g2 nx (by omega)).trans z0
 have zh:=(a2 h b1).trans hh
 have zr:=(a2 rk b2).trans hr
 have zm:=(a2 mm b3).trans hmm
 have zv:=(a2 vm b4).trans hvm
 have zo:=(a2 om b5).trans hom
 have zms:=(a2 ms b6).trans hms
 clear g2 a1 hh hr hmm hvm hom hof
 refine xs14 gy30 z0 zh zr zm zv zo hlm hlv hd hw hw2 zms hy ?_;try exact⟨⟩
 repeat' apply And.intro
 all_goals first
  | (refine okP2_ap _ _ _ _ _ _ ?_ ?_ ?_<;>(intro x hx hy;first | (simp only[List.mem_cons,List.not_mem_nil,or_false]at hx hy;done) | (simp only[List.mem_cons,List.not_mem_nil,or_false]at hx hy;omega));done)
  | skip
 have hty:List.take (m*8) ys=ys:=List.take_of_length_le (by omega)
 have zz:=fun j hj=>a2 j hj
 refine⟨⟨by simp only;omega,n2+37,n2+67,acl lm cm X,acl lv cv [X,T,((0+1:Nat):Int)],acl lo co X,by omega,by omega,by simp only;omega,by simp only;omega,by omega,rfl,?_,?_,?_,?_,?_,?_,?_,fun j hj f1 f2 f3 f4 f5=>?_⟩⟩
 rotate_right
 ·have zj:=zz j hj
  have k0:KEq h j=False:=by simp only[KEq,eq_iff_iff,iff_false];exact fun e=>f1 e.symm
  have k1:KEq mm j=False:=by simp only[KEq,eq_iff_iff,iff_false];exact fun e=>f2 e.symm
  have k2:KEq vm j=False:=by simp only[KEq,eq_iff_iff,iff_false];exact fun e=>f3 e.symm
  have k3:KEq om j=False:=by simp only[KEq,eq_iff_iff,iff_false];exact fun e=>f4 e.symm
  have k4:KEq ms j=False:=by simp only[KEq,eq_iff_iff,iff_false];exact fun e=>f5 (by rw[<-e];simp)
  refine xs7 gy30 k0 k1 k2 k3 k4 zj ?_;try exact⟨⟩
 all_goals first
  | ((refine xs4 gy30 hd zr hty ?_;try exact⟨⟩);done)
  | ((refine xs4 gy30 hd zr hty ?_;try exact⟨⟩);first | rfl | (simp;done))
  | skip
end Go.Xs
namespace Go.Xs
open Go.Proofs
set_option maxRecDepth 100000
set_option maxHeartbeats 8000000
theorem f67w10 (ρ:Rho) (M:Hp) (nx h nk rk mm vm om ms s:Nat) (cm cv co m q:Nat) (lm:List (Nat×Int×XV)) (lv:List (Nat×List Int×Int)) (lo:List (Nat×Int×Int)) (ys zs:List XV) (c0 c1 c3 c6 pp pe:XV) (T B E S N K X VW VN V pk pa pb:Int) (i:Int)
 (hh:tget M h=some (.row [c0,c1,.mm nk,c3,.nils,.mm vm,c6,.mm om])) (hr:tget M rk=some (.row [.int .u64 T,.int .i64 B,.int .i64 E,.int .i64 S,.int .i64 N,.mm mm]))
 (hmm:tget M mm=some (.map (entU vX lm) cm)) (hvm:tget M vm=some (.map (entA (vI .i64) lv) cv)) (hom:tget M om=some (.map (entU (vI .i64) lo) co)) (hlv:rowsA 3 lv) (hlm:alook lm X=some (.sl s 1 0 q q)) (hs:tget M s=some (.row zs)) (hz:zs.length=q) (b7:s<nx) (bq:q<=100000)
 (hof:∀M' nx',Agr nx M M'->nx<=nx'->FOk Tryz.prog ρ 58 [.mp h 0,.int .u64 T] M' nx' (Ret nx' M' (.mp rk 0)))
 (b1:h<nx) (b2:rk<nx) (b3:mm<nx) (b4:vm<nx) (b5:om<nx) (hd:KEq h rk=False/\KEq rk h=False/\KEq h mm=False/\KEq mm h=False/\KEq h vm=False/\KEq vm h=False/\KEq h om=False/\KEq om h=False/\KEq h s=False/\KEq s h=False/\KEq rk mm=False/\KEq mm rk=False/\KEq rk vm=False/\KEq vm rk=False/\KEq rk om=False/\KEq om rk=False/\KEq rk s=False/\KEq s rk=False/\KEq mm vm=False/\KEq vm mm=False/\KEq mm om=False/\KEq om mm=False/\KEq mm s=False/\KEq s mm=False/\KEq vm om=False/\KEq om vm=False/\KEq vm s=False/\KEq s vm=False/\KEq om s=False/\KEq s om=False) (hw:IntKind.i64.wrap ((alook lo X).getD 0+1)=(alook lo X).getD 0+1)
 (p1:cellsOf pp=[pp]) (p2:plain1 pp=true) (p3:cellsOf pe=[pe]) (p4:plain1 pe=true) :
 FOk Tryz.prog ρ 67 [.mp h 0,.int .i64 i,.agg [.int .i64 K,.int .u64 T,.int .u64 X,.int .u64 VW,.int .u64 VN,.int .u64 V,.int .i64 pk,.int .u64 pa,.int .u64 pb,pp,pe]] M nx fun o =>
  o.1 = .tup []/\ModPost M nx h nk rk mm vm om [s] cm cv co 0 q lm lv lo [] zs c0 c1 c3 c6 T B E S N K X V i o:=by
 have hw2:IntKind.u64.wrap (IntKind.i64.wrap ((q:Nat)+1))=((q+1:Nat):Int):=by
  rw[wrap_i64 (by omega) (by omega),wrap_u64 (by omega) (by omega)];omega
 try simp only[Int.cast_ofNat_Int]at hw2
 refine FOk.walk (m:=85) (rs:=[]) follows Tryz.func67 (by kernel_rfl) rfl rfl rfl ?_
 conv in W _ _ _ _ _ _ _=>arg 4;whnf
 refine xs7 gy30 hh p2 p4 hd p1 p3 ?_;try exact⟨⟩
 generalize hM1:tset M nx _=M1
 have a1:Agr nx M M1:=by rw[<-hM1];exact(by(repeat (refine Agr.set ?_ (by omega) _));exact Agr.refl _ _)
 have z0:tget M1 nx=some (.row [.int .i64 K,.int .u64 T,.int .u64 X,.int .u64 VW,.int .u64 VN,.int .u64 V,.int .i64 pk,.int .u64 pa,.int .u64 pb,pp,pe]):=by rw[<-hM1];exact(by(repeat (first | rw[tget_tset,if_pos rfl] | rw[tget_tset,if_neg (by omega)] | rw[tget_tdel,if_neg (by omega)]));try (first | rfl | assumption))
 clear hM1
 refine CN_fok (hof _ _ a1 (by omega)) ?_
 rintro⟨v,M2,n2⟩ ⟨g1,g2,g3⟩
 simp only at g1 g2 g3
 subst g1
 have a2:=a1.trans (g2.le (by omega))
 replace z0:=(g2 nx (by omega)).trans z0
 have zh:=(a2 h b1).trans hh
 have zr:=(a2 rk b2).trans hr
 have zm:=(a2 mm b3).trans hmm
 have zv:=(a2 vm b4).trans hvm
 have zo:=(a2 om b5).trans hom
 have zs':=(a2 s b7).trans hs
 clear g2 a1 hh hr hmm hvm hom hof
 refine xs14 gy30 z0 zh zr zm zv zo hlm hlv hd hw hw2 zs' hz ?_;try exact⟨⟩
 have e1:s≠rk:=by intro e;subst e;simp[KEq]at hd
 repeat' apply And.intro
 all_goals first
  | (refine okP2_ap _ _ _ _ _ _ ?_ ?_ ?_<;>(intro x hx hy;first | (simp only[List.mem_cons,List.not_mem_nil,or_false]at hx hy;done) | (simp only[List.mem_cons,List.not_mem_nil,or_false]at hx hy;omega));done)
  | skip
 have htz:List.take q zs=zs:=List.take_of_length_le (by omega)
 have zz:=fun j hj=>a2 j hj
 refine⟨⟨by simp only;omega,n2+37,n2+67,acl lm cm X,acl lv cv [X,T,((q+1:Nat):Int)],acl lo co X,by omega,by omega,by simp only;omega,by simp only;omega,by omega,rfl,?_,?_,?_,?_,?_,?_,?_,fun j hj f1 f2 f3 f4 f5=>?_⟩⟩
 rotate_right
 ·have zj:=zz j hj
  have k0:KEq h j=False:=by simp only[KEq,eq_iff_iff,iff_false];exact fun e=>f1 e.symm
  have k1:KEq mm j=False:=by simp only[KEq,eq_iff_iff,iff_false];exact fun e=>f2 e.symm
  have k2:KEq vm j=False:=by simp only[KEq,eq_iff_iff,iff_false];exact fun e=>f3 e.symm
  have k3:KEq om j=False:=by simp only[KEq,eq_iff_iff,iff_false];exact fun e=>f4 e.symm
  have k4:KEq s j=False:=by simp only[KEq,eq_iff_iff,iff_false];exact fun e=>f5 (by rw[<-e];simp)
  refine xs7 gy30 k0 k1 k2 k3 k4 zj ?_;try exact⟨⟩
 all_goals first
  | ((refine xs4 gy30 hd zr htz ?_;try exact⟨⟩);done)
  | ((refine xs4 gy30 hd zr htz ?_;try exact⟨⟩);first | rfl | (simp;done))
  | skip
end Go.Xs
namespace Go.Xs
open Go.Proofs
set_option maxRecDepth 100000
set_option maxHeartbeats 8000000
theorem f67w11 (ρ:Rho) (M:Hp) (nx h nk rk mm vm om ms s:Nat) (cm cv co m q:Nat) (lm:List (Nat×Int×XV)) (lv:List (Nat×List Int×Int)) (lo:List (Nat×Int×Int)) (ys zs:List XV) (c0 c1 c3 c6 pp pe:XV) (T B E S N K X VW VN V pk pa pb:Int) (i:Int)
 (hh:tget M h=some (.row [c0,c1,.mm nk,c3,.sl ms 8 0 m m,.mm vm,c6,.mm om])) (hr:tget M rk=some (.row [.int .u64 T,.int .i64 B,.int .i64 E,.int .i64 S,.int .i64 N,.mm mm]))
 (hmm:tget M mm=some (.map (entU vX lm) cm)) (hvm:tget M vm=some (.map (entA (vI .i64) lv) cv)) (hom:tget M om=some (.map (entU (vI .i64) lo) co)) (hlv:rowsA 3 lv) (hlm:alook lm X=some (.sl s 1 0 q q)) (hs:tget M s=some (.row zs)) (hz:zs.length=q) (b7:s<nx) (bq:q<=100000) (hms:tget M ms=some (.row ys)) (hy:ys.length=m*8) (b6:ms<nx) (bm:m<=100000)
 (hof:∀M' nx',Agr nx M M'->nx<=nx'->FOk Tryz.prog ρ 58 [.mp h 0,.int .u64 T] M' nx' (Ret nx' M' (.mp rk 0)))
 (b1:h<nx) (b2:rk<nx) (b3:mm<nx) (b4:vm<nx) (b5:om<nx) (hd:KEq h rk=False/\KEq rk h=False/\KEq h mm=False/\KEq mm h=False/\KEq h vm=False/\KEq vm h=False/\KEq h om=False/\KEq om h=False/\KEq h s=False/\KEq s h=False/\KEq h ms=False/\KEq ms h=False/\KEq rk mm=False/\KEq mm rk=False/\KEq rk vm=False/\KEq vm rk=False/\KEq rk om=False/\KEq om rk=False/\KEq rk s=False/\KEq s rk=False/\KEq rk ms=False/\KEq ms rk=False/\KEq mm vm=False/\KEq vm mm=False/\KEq mm om=False/\KEq om mm=False/\KEq mm s=False/\KEq s mm=False/\KEq mm ms=False/\KEq ms mm=False/\KEq vm om=False/\KEq om vm=False/\KEq vm s=False/\KEq s vm=False/\KEq vm ms=False/\KEq ms vm=False/\KEq om s=False/\KEq s om=False/\KEq om ms=False/\KEq ms om=False/\KEq s ms=False/\KEq ms s=False) (hw:IntKind.i64.wrap ((alook lo X).getD 0+1)=(alook lo X).getD 0+1)
 (p1:cellsOf pp=[pp]) (p2:plain1 pp=true) (p3:cellsOf pe=[pe]) (p4:plain1 pe=true) :
 FOk Tryz.prog ρ 67 [.mp h 0,.int .i64 i,.agg [.int .i64 K,.int .u64 T,.int .u64 X,.int .u64 VW,.int .u64 VN,.int .u64 V,.int .i64 pk,.int .u64 pa,.int .u64 pb,pp,pe]] M nx fun o =>
  o.1 = .tup []/\ModPost M nx h nk rk mm vm om [s,ms] cm cv co m q lm lv lo ys zs c0 c1 c3 c6 T B E S N K X V i o:=by
 have hw2:IntKind.u64.wrap (IntKind.i64.wrap ((q:Nat)+1))=((q+1:Nat):Int):=by
  rw[wrap_i64 (by omega) (by omega),wrap_u64 (by omega) (by omega)];omega
 try simp only[Int.cast_ofNat_Int]at hw2
 refine FOk.walk (m:=85) (rs:=[]) follows Tryz.func67 (by kernel_rfl) rfl rfl rfl ?_
 conv in W _ _ _ _ _ _ _=>arg 4;whnf
 refine xs7 gy30 hh p2 p4 hd p1 p3 ?_;try exact⟨⟩
 generalize hM1:tset M nx _=M1
 have a1:Agr nx M M1:=by rw[<-hM1];exact(by(repeat (refine Agr.set ?_ (by omega) _));exact Agr.refl _ _)
 have z0:tget M1 nx=some (.row [.int .i64 K,.int .u64 T,.int .u64 X,.int .u64 VW,.int .u64 VN,.int .u64 V,.int .i64 pk,.int .u64 pa,.int .u64 pb,pp,pe]):=by rw[<-hM1];exact(by(repeat (first | rw[tget_tset,if_pos rfl] | rw[tget_tset,if_neg (by omega)] | rw[tget_tdel,if_neg (by omega)]));try (first | rfl | assumption))
 clear hM1
 refine CN_fok (hof _ _ a1 (by omega)) ?_
 rintro⟨v,M2,n2⟩ ⟨g1,g2,g3⟩
 simp only at g1 g2 g3
 subst g1
 have a2:=a1.trans (g2.le (by omega))
 replace z0:=(g2 nx (by omega)).trans z0
 have zh:=(a2 h b1).trans hh
 have zr:=(a2 rk b2).trans hr
 have zm:=(a2 mm b3).trans hmm
 have zv:=(a2 vm b4).trans hvm
 have zo:=(a2 om b5).trans hom
 have zs':=(a2 s b7).trans hs
 have zms:=(a2 ms b6).trans hms
 clear g2 a1 hh hr hmm hvm hom hof
 refine xs16 gy30 z0 zh zr zm zv zo hlm hlv hd hw hw2 zs' hz zms hy ?_;try exact⟨⟩
 have e1:s≠rk:=by intro e;subst e;simp[KEq]at hd
 repeat' apply And.intro
 all_goals first
  | (refine okP2_ap _ _ _ _ _ _ ?_ ?_ ?_<;>(intro x hx hy;first | (simp only[List.mem_cons,List.not_mem_nil,or_false]at hx hy;done) | (simp only[List.mem_cons,List.not_mem_nil,or_false]at hx hy;omega));done)
  | skip
 have htz:List.take q zs=zs:=List.take_of_length_le (by omega)
 have hty:List.take (m*8) ys=ys:=List.take_of_length_le (by omega)
 have zz:=fun j hj=>a2 j hj
 refine⟨⟨by simp only;omega,n2+37,n2+67,acl lm cm X,acl lv cv [X,T,((q+1:Nat):Int)],acl lo co X,by omega,by omega,by simp only;omega,by simp only;omega,by omega,rfl,?_,?_,?_,?_,?_,?_,?_,fun j hj f1 f2 f3 f4 f5=>?_⟩⟩
 rotate_right
 ·have zj:=zz j hj
  have k0:KEq h j=False:=by simp only[KEq,eq_iff_iff,iff_false];exact fun e=>f1 e.symm
  have k1:KEq mm j=False:=by simp only[KEq,eq_iff_iff,iff_false];exact fun e=>f2 e.symm
  have k2:KEq vm j=False:=by simp only[KEq,eq_iff_iff,iff_false];exact fun e=>f3 e.symm
  have k3:KEq om j=False:=by simp only[KEq,eq_iff_iff,iff_false];exact fun e=>f4 e.symm
  have k4:KEq s j=False:=by simp only[KEq,eq_iff_iff,iff_false];exact fun e=>f5 (by rw[<-e];simp)
  have k5:KEq ms j=False:=by simp only[KEq,eq_iff_iff,iff_false];exact fun e=>f5 (by rw[<-e];simp)
  refine xs8 gy30 k0 k1 k2 k3 k4 k5 zj ?_;try exact⟨⟩
 all_goals first
  | ((refine xs5 gy30 hd zr htz hty ?_;try exact⟨⟩);done)
  | ((refine xs5 gy30 hd zr htz hty ?_;try exact⟨⟩);first | rfl | (simp;done))
  | skip
end Go.Xs
namespace Go.Xs
open Go.Proofs
set_option maxRecDepth 100000
set_option maxHeartbeats 4000000
section
variable {M M':Hp} {lo hi h:Nat} {S:HS} {tag:Nat->Hg} {vrec vtxs vcom vmods vlook:XV} {nk vk ok cn cv co:Nat} {ptrs:List XV} {lnum:List (Nat×Int×Int)} {lver:List (Nat×List Int×Int)} {lobj:List (Nat×Int×Int)}
theorem Hist.modPost (H:Hist M lo hi h S tag vrec vtxs vcom vmods vlook nk vk ok cn cv co ptrs lnum lver lobj) {nx:Nat} (hh:hi<=nx) {r:Rec} {k rk mk cm:Nat} {a:TxS} {lm:List (Nat×Int×XV)} (ha:S.txs[k]?=some a) (hv:ptrs[k]?=some (.mp rk 0)) (r1:lo<=rk) (r2:rk<hi) (r3:tag rk = .known k) (m1:lo<=mk) (m2:mk<hi) (m3:tag mk = .kmap k)
 (hbo:BornOk lm cm) (l0:∀x,alook lm x=none->S.places k x=[]) (l1:∀x v,alook lm x=some v->S.places k x≠[]/\OwnSl M lo hi tag (.slot k x) v 1 (S.places k x).length ((S.places k x).map (XV.int .i64)))
 {i:Int} {old:List Nat} (hold:∀j ∈ old,tag j = .mods\/tag j = .slot k r.x) (holo:∀j ∈ old,lo<=j) (fm:S.mods.length<=100000) (fp:(S.places k r.x).length<=100000) {o:Out}
 (P:ModPost M nx h nk rk mk vk ok old cm cv co S.mods.length (S.places k r.x).length lm lver lobj (S.mods.flatMap encMod) ((S.places k r.x).map (XV.int .i64)) vrec vtxs vcom vlook a.t a.b a.e a.s a.n r.kind r.x r.v i o) (hat:a.t=r.t) :
 HistAt o.2.1 lo o.2.2 h (S.modify i r k)/\Agr lo M o.2.1/\nx<=o.2.2:=by
 obtain⟨hn,ns,nm,cm',cv',co',n1,n2,n3,n4,n5,ec,p1,p2,p3,p4,p5,p6,p7,p8⟩:=P
 have hhi:=H.h_hi
 have hlo:=H.lo_h
 rw[hat]at p4 p7
 have key:∀q,q<hi->¬ ModC k r.x (tag q)->tget o.2.1 q=tget M q:=fun q hq hc=>by
  refine p8 q (by omega) (fun e=>hc (by rw[e];exact .inl H.tg)) (fun e=>hc (by rw[e];exact .inr (.inr (.inr (.inr (.inl m3)))))) (fun e=>hc (by rw[e];exact .inr (.inr (.inl H.vtg)))) (fun e=>hc (by rw[e];exact .inr (.inr (.inr (.inl H.otg))))) fun hm=>?_
  rcases hold q hm with e | e
  ·exact hc (.inr (.inl e))
  ·exact hc (.inr (.inr (.inr (.inr (.inr e)))))
 refine⟨⟨fun q=>if q=ns then .slot k r.x else if q=nm then .mods else tag q,vrec,vtxs,vcom,.sl nm 8 0 (S.mods.length+1) (S.mods.length+1),vlook,nk,vk,ok,cn,cv',co',ptrs,lnum,aput lver cv [r.x,r.t,(((S.places k r.x).length+1:Nat):Int)] (S.mods.length:Int),aput lobj co r.x ((alook lobj r.x).getD 0+1),?_⟩,fun q hq=>?_,hn⟩
 ·refine H.modify key (fun q hq=>by rw[if_neg (by omega),if_neg (by omega)]) (by omega) p1 ?_ p4 (rowsA_put H.vrow rfl) (fun x w n=>?_) p5 (fun x=>?_) fun b hb=>?_
  ·refine⟨by omega,?_,.inr ⟨by omega,nm,rfl,by omega,n4,by simp only;rw[if_neg fun e=>n5 e.symm];simp,?_⟩⟩
   ·have:=H.mods.2.1
    simp only[HS.modify,List.flatMap_append,List.length_append,this]
    simp[encMod]
    omega
   ·rw[p7]
    simp only[HS.modify,List.flatMap_append]
    rfl
  ·rw[alook_put,H.verS]
   simp only[HS.modify]
   by_cases e:x=r.x/\w=r.t/\n=(((S.places k r.x).length+1:Nat):Int)
   ·obtain⟨rfl,rfl,rfl⟩:=e
    rw[if_pos rfl,if_pos ⟨rfl,rfl,rfl⟩]
   ·rw[if_neg e,if_neg fun q=>e (by cases q;exact⟨rfl,rfl,rfl⟩)]
  ·rw[alook_put,H.objS,H.objS]
   rfl
  ·rw[ha]at hb
   cases hb
   refine⟨_,hv,rk,mk,cm',_,rfl,r1,by omega,by simp only;rw[if_neg (by omega),if_neg (by omega)];exact r3,?_,m1,by omega,by simp only;rw[if_neg (by omega),if_neg (by omega)];exact m3,p3,⟨by rw[ec];exact born_put hbo,fun x hx=>?_⟩,fun x v hx=>?_⟩
   ·rw[p2];rfl
   ·rw[alook_put]at hx
    split at hx
    ·cases hx
    ·rename_i e
     simp only[HS.modify]
     rw[if_neg fun q=>e q.2]
     exact l0 x hx
   ·rw[alook_put]at hx
    split at hx
    ·rename_i e
     subst e
     cases hx
     have ep:(S.modify i r k).places k r.x=S.places k r.x++[(S.mods.length:Int)]:=if_pos ⟨rfl,rfl⟩
     rw[ep]
     refine⟨by simp,by simp;omega,by simp,.inr ⟨by simp,ns,by simp,by omega,n3,by simp,?_⟩⟩
     rw[p6,List.map_append]
     rfl
    ·rename_i e
     simp only[HS.modify]
     rw[if_neg fun q=>e q.2]
     obtain⟨g1,g2⟩:=l1 x v hx
     refine⟨g1,g2.keep (fun q hq hg=>⟨key q hq (by rw[hg];simp[ModC,e]),by rw[if_neg (by omega),if_neg (by omega)];exact hg⟩) (by omega)⟩
 ·exact p8 q (by omega) (by omega) (by omega) (by have:=H.vlo;omega) (by have:=H.olo;omega) fun hm=>by have:=holo q hm;omega
end
theorem f67 (ρ:Rho) {M:Hp} {nx lo hi h:Nat} {S:HS} {r:Rec} {cs:List XV} (hr:RecC r cs) (H:HistAt M lo hi h S) (hh:hi<=nx) (few:S.mods.length<=100000) {k:Nat} (hk:S.num r.t=some (k:Int)) {a:TxS} (ha:S.txs[k]?=some a) (hat:a.t=r.t) (fewp:(S.places k r.x).length<=100000) (i:Int)
 (cnt:0<=(S.obj r.x).getD 0/\(S.obj r.x).getD 0<=1000000000) :
 FOk Tryz.prog ρ 67 [.mp h 0,.int .i64 i,.agg cs] M nx fun o=>o.1 = .tup []/\HistAt o.2.1 lo o.2.2 h (S.modify i r k)/\Agr lo M o.2.1/\nx<=o.2.2:=by
 obtain⟨pk,pa,pb,pv,ve,rfl,⟨p1,p2⟩,⟨q1,q2⟩⟩:=hr
 obtain⟨tag,vrec,vtxs,vcom,vmods,vlook,nk,vk,ok,cn,cv,co,ptrs,lnum,lver,lobj,H⟩:=H
 have hal:=H.objS r.x
 rw[<-hal]at cnt
 have hw:IntKind.i64.wrap ((alook lobj r.x).getD 0+1)=(alook lobj r.x).getD 0+1:=wrap_i64 (by omega) (by omega)
 have hkl:k<S.txs.length:=(List.getElem?_eq_some_iff.1 ha).1
 obtain⟨w,hv,rk,mk,cm,lm,rfl,r1,r2,r3,r4,m1,m2,m3,m4,⟨hbo,l0⟩,l1⟩:=H.known k a ha
 have hof:∀M' nx',Agr nx M M'->nx<=nx'->FOk Tryz.prog ρ 58 [.mp h 0,.int .u64 r.t] M' nx' (Ret nx' M' (.mp rk 0)):=fun M' nx' ha hn=>f58 ρ (H.agr (ha.le hh)) (by omega) hk hv hkl
 simp only[encTx,List.cons_append,List.nil_append,hat]at r4
 have d1:=tag_ne H.tg r3 (by simp)
 have d2:=tag_ne H.tg m3 (by simp)
 have d3:=tag_ne H.tg H.vtg (by simp)
 have d4:=tag_ne H.tg H.otg (by simp)
 have d5:=tag_ne r3 m3 (by simp)
 have d6:=tag_ne r3 H.vtg (by simp)
 have d7:=tag_ne r3 H.otg (by simp)
 have d8:=tag_ne m3 H.vtg (by simp)
 have d9:=tag_ne m3 H.otg (by simp)
 have d10:=tag_ne H.vtg H.otg (by simp)
 have o1:h<nx:=Nat.lt_of_lt_of_le H.h_hi hh
 have o2:rk<nx:=Nat.lt_of_lt_of_le r2 hh
 have o3:mk<nx:=Nat.lt_of_lt_of_le m2 hh
 have o4:vk<nx:=Nat.lt_of_lt_of_le H.vhi hh
 have o5:ok<nx:=Nat.lt_of_lt_of_le H.ohi hh
 have fin:∀(old:List Nat) (o:Out),(∀j ∈ old,tag j = .mods\/tag j = .slot k r.x)->(∀j ∈ old,lo<=j) ->
  ModPost M nx h nk rk mk vk ok old cm cv co S.mods.length (S.places k r.x).length lm lver lobj (S.mods.flatMap encMod) ((S.places k r.x).map (XV.int .i64)) vrec vtxs vcom vlook r.t a.b a.e a.s a.n r.kind r.x r.v i o ->
  HistAt o.2.1 lo o.2.2 h (S.modify i r k)/\Agr lo M o.2.1/\nx<=o.2.2:=fun old o g1 g2 P=>by
  rw[<-hat]at P
  exact H.modPost hh ha hv r1 r2 r3 m1 m2 m3 hbo l0 l1 g1 g2 few fewp P hat
 have hrow:=H.row
 obtain⟨hz,hcl,⟨rfl,hl0⟩ | ⟨hl,ms,rfl,s1,s2,s3,s4⟩⟩:=H.mods
 ·have hS0:S.mods=[]:=List.length_eq_zero_iff.1 hl0
  cases hlm:alook lm r.x with
  | none =>
    have hp0:=l0 r.x hlm
    have hd:KEq h rk=False/\KEq rk h=False/\KEq h mk=False/\KEq mk h=False/\KEq h vk=False/\KEq vk h=False/\KEq h ok=False/\KEq ok h=False/\KEq rk mk=False/\KEq mk rk=False/\KEq rk vk=False/\KEq vk rk=False/\KEq rk ok=False/\KEq ok rk=False/\KEq mk vk=False/\KEq vk mk=False/\KEq mk ok=False/\KEq ok mk=False/\KEq vk ok=False/\KEq ok vk=False:=by simp only[KEq,eq_iff_iff,iff_false];exact⟨d1,d1.symm,d2,d2.symm,d3,d3.symm,d4,d4.symm,d5,d5.symm,d6,d6.symm,d7,d7.symm,d8,d8.symm,d9,d9.symm,d10,d10.symm⟩
    refine FOk.mono (f67w00 ρ M nx h nk rk mk vk ok 0 0 cm cv co 0 0 lm lver lobj [] [] vrec vtxs vcom vlook pv ve r.t a.b a.e a.s a.n r.kind r.x r.w r.n r.v pk pa pb i hrow r4 m4 H.ver H.obj H.vrow hlm hof o1 o2 o3 o4 o5 hd hw p1 p2 q1 q2) fun o ho=>⟨ho.1,fin [] o ?_ ?_ ?_⟩
    ·intro j hj;cases hj
    ·intro j hj;cases hj
    ·rw[hS0,hp0];exact ho.2
  | some sv =>
    obtain⟨hne,hzz,hcz,⟨_,e0⟩ | ⟨ht,s,rfl,t1,t2,t3,t4⟩⟩:=l1 r.x sv hlm
    ·exact(hne (List.length_eq_zero_iff.1 e0)).elim
    have g1:=tag_ne H.tg t3 (by simp)
    have g2:=tag_ne r3 t3 (by simp)
    have g3:=tag_ne m3 t3 (by simp)
    have g4:=tag_ne H.vtg t3 (by simp)
    have g5:=tag_ne H.otg t3 (by simp)
    have hd:KEq h rk=False/\KEq rk h=False/\KEq h mk=False/\KEq mk h=False/\KEq h vk=False/\KEq vk h=False/\KEq h ok=False/\KEq ok h=False/\KEq h s=False/\KEq s h=False/\KEq rk mk=False/\KEq mk rk=False/\KEq rk vk=False/\KEq vk rk=False/\KEq rk ok=False/\KEq ok rk=False/\KEq rk s=False/\KEq s rk=False/\KEq mk vk=False/\KEq vk mk=False/\KEq mk ok=False/\KEq ok mk=False/\KEq mk s=False/\KEq s mk=False/\KEq vk ok=False/\KEq ok vk=False/\KEq vk s=False/\KEq s vk=False/\KEq ok s=False/\KEq s ok=False:=by simp only[KEq,eq_iff_iff,iff_false];exact⟨d1,d1.symm,d2,d2.symm,d3,d3.symm,d4,d4.symm,g1,g1.symm,d5,d5.symm,d6,d6.symm,d7,d7.symm,g2,g2.symm,d8,d8.symm,d9,d9.symm,g3,g3.symm,d10,d10.symm,g4,g4.symm,g5,g5.symm⟩
    refine FOk.mono (f67w10 ρ M nx h nk rk mk vk ok 0 s cm cv co 0 (S.places k r.x).length lm lver lobj [] ((S.places k r.x).map (XV.int .i64)) vrec vtxs vcom vlook pv ve r.t a.b a.e a.s a.n r.kind r.x r.w r.n r.v pk pa pb i hrow r4 m4 H.ver H.obj H.vrow hlm t4 (by simp) (Nat.lt_of_lt_of_le t2 hh) fewp hof o1 o2 o3 o4 o5 hd hw p1 p2 q1 q2) fun o ho=>⟨ho.1,fin [s] o ?_ ?_ ?_⟩
    ·intro j hj;simp only[List.mem_cons,List.not_mem_nil,or_false]at hj;subst hj;exact .inr t3
    ·intro j hj;simp only[List.mem_cons,List.not_mem_nil,or_false]at hj;subst hj;exact t1
    ·rw[hS0];exact ho.2
 ·cases hlm:alook lm r.x with
  | none =>
    have hp0:=l0 r.x hlm
    have g1:=tag_ne H.tg s3 (by simp)
    have g2:=tag_ne r3 s3 (by simp)
    have g3:=tag_ne m3 s3 (by simp)
    have g4:=tag_ne H.vtg s3 (by simp)
    have g5:=tag_ne H.otg s3 (by simp)
    have hd:KEq h rk=False/\KEq rk h=False/\KEq h mk=False/\KEq mk h=False/\KEq h vk=False/\KEq vk h=False/\KEq h ok=False/\KEq ok h=False/\KEq h ms=False/\KEq ms h=False/\KEq rk mk=False/\KEq mk rk=False/\KEq rk vk=False/\KEq vk rk=False/\KEq rk ok=False/\KEq ok rk=False/\KEq rk ms=False/\KEq ms rk=False/\KEq mk vk=False/\KEq vk mk=False/\KEq mk ok=False/\KEq ok mk=False/\KEq mk ms=False/\KEq ms mk=False/\KEq vk ok=False/\KEq ok vk=False/\KEq vk ms=False/\KEq ms vk=False/\KEq ok ms=False/\KEq ms ok=False:=by simp only[KEq,eq_iff_iff,iff_false];exact⟨d1,d1.symm,d2,d2.symm,d3,d3.symm,d4,d4.symm,g1,g1.symm,d5,d5.symm,d6,d6.symm,d7,d7.symm,g2,g2.symm,d8,d8.symm,d9,d9.symm,g3,g3.symm,d10,d10.symm,g4,g4.symm,g5,g5.symm⟩
    refine FOk.mono (f67w01 ρ M nx h nk rk mk vk ok ms 0 cm cv co S.mods.length 0 lm lver lobj (S.mods.flatMap encMod) [] vrec vtxs vcom vlook pv ve r.t a.b a.e a.s a.n r.kind r.x r.w r.n r.v pk pa pb i hrow r4 m4 H.ver H.obj H.vrow hlm s4 hcl (Nat.lt_of_lt_of_le s2 hh) few hof o1 o2 o3 o4 o5 hd hw p1 p2 q1 q2) fun o ho=>⟨ho.1,fin [ms] o ?_ ?_ ?_⟩
    ·intro j hj;simp only[List.mem_cons,List.not_mem_nil,or_false]at hj;subst hj;exact .inl s3
    ·intro j hj;simp only[List.mem_cons,List.not_mem_nil,or_false]at hj;subst hj;exact s1
    ·rw[hp0];exact ho.2
  | some sv =>
    obtain⟨hne,hzz,hcz,⟨_,e0⟩ | ⟨ht,s,rfl,t1,t2,t3,t4⟩⟩:=l1 r.x sv hlm
    ·exact(hne (List.length_eq_zero_iff.1 e0)).elim
    have g1:=tag_ne H.tg t3 (by simp)
    have g2:=tag_ne H.tg s3 (by simp)
    have g3:=tag_ne r3 t3 (by simp)
    have g4:=tag_ne r3 s3 (by simp)
    have g5:=tag_ne m3 t3 (by simp)
    have g6:=tag_ne m3 s3 (by simp)
    have g7:=tag_ne H.vtg t3 (by simp)
    have g8:=tag_ne H.vtg s3 (by simp)
    have g9:=tag_ne H.otg t3 (by simp)
    have g10:=tag_ne H.otg s3 (by simp)
    have g11:=tag_ne t3 s3 (by simp)
    have hd:KEq h rk=False/\KEq rk h=False/\KEq h mk=False/\KEq mk h=False/\KEq h vk=False/\KEq vk h=False/\KEq h ok=False/\KEq ok h=False/\KEq h s=False/\KEq s h=False/\KEq h ms=False/\KEq ms h=False/\KEq rk mk=False/\KEq mk rk=False/\KEq rk vk=False/\KEq vk rk=False/\KEq rk ok=False/\KEq ok rk=False/\KEq rk s=False/\KEq s rk=False/\KEq rk ms=False/\KEq ms rk=False/\KEq mk vk=False/\KEq vk mk=False/\KEq mk ok=False/\KEq ok mk=False/\KEq mk s=False/\KEq s mk=False/\KEq mk ms=False/\KEq ms mk=False/\KEq vk ok=False/\KEq ok vk=False/\KEq vk s=False/\KEq s vk=False/\KEq vk ms=False/\KEq ms vk=False/\KEq ok s=False/\KEq s ok=False/\KEq ok ms=False/\KEq ms ok=False/\KEq s ms=False/\KEq ms s=False:=by simp only[KEq,eq_iff_iff,iff_false];exact⟨d1,d1.symm,d2,d2.symm,d3,d3.symm,d4,d4.symm,g1,g1.symm,g2,g2.symm,d5,d5.symm,d6,d6.symm,d7,d7.symm,g3,g3.symm,g4,g4.symm,d8,d8.symm,d9,d9.symm,g5,g5.symm,g6,g6.symm,d10,d10.symm,g7,g7.symm,g8,g8.symm,g9,g9.symm,g10,g10.symm,g11,g11.symm⟩
    refine FOk.mono (f67w11 ρ M nx h nk rk mk vk ok ms s cm cv co S.mods.length (S.places k r.x).length lm lver lobj (S.mods.flatMap encMod) ((S.places k r.x).map (XV.int .i64)) vrec vtxs vcom vlook pv ve r.t a.b a.e a.s a.n r.kind r.x r.w r.n r.v pk pa pb i hrow r4 m4 H.ver H.obj H.vrow hlm t4 (by simp) (Nat.lt_of_lt_of_le t2 hh) fewp s4 hcl (Nat.lt_of_lt_of_le s2 hh) few hof o1 o2 o3 o4 o5 hd hw p1 p2 q1 q2) fun o ho=>⟨ho.1,fin [s,ms] o ?_ ?_ ?_⟩
    ·intro j hj;simp only[List.mem_cons,List.not_mem_nil,or_false]at hj;rcases hj with rfl | rfl;exact .inr t3;exact .inl s3
    ·intro j hj;simp only[List.mem_cons,List.not_mem_nil,or_false]at hj;rcases hj with rfl | rfl;exact t1;exact s1
    ·exact ho.2
end Go.Xs
namespace Go.Xs
open Go.Proofs
set_option maxRecDepth 100000
set_option maxHeartbeats 4000000
theorem HistAt.agr {M M':Hp} {lo hi h:Nat} {S:HS} (H:HistAt M lo hi h S) (ha:Agr hi M M'):HistAt M' lo hi h S:=by
 obtain⟨tag,vrec,vtxs,vcom,vmods,vlook,nk,vk,ok,cn,cv,co,ptrs,lnum,lver,lobj,H⟩:=H
 exact⟨tag,vrec,vtxs,vcom,vmods,vlook,nk,vk,ok,cn,cv,co,ptrs,lnum,lver,lobj,H.agr ha⟩
theorem HistAt.lo_le {M:Hp} {lo hi h:Nat} {S:HS} (H:HistAt M lo hi h S):lo<=h/\h<hi:=by
 obtain⟨tag,vrec,vtxs,vcom,vmods,vlook,nk,vk,ok,cn,cv,co,ptrs,lnum,lver,lobj,H⟩:=H
 exact⟨H.lo_h,H.h_hi⟩
theorem f38read (ρ:Rho) {M:Hp} {nx lo hi h:Nat} {S:HS} {r:Rec} {cs:List XV} (hr:RecC r cs) (H:HistAt M lo hi h S) (hh:hi<=nx) (k2:r.kind=2) (few:S.looks.length<=100000) (cnt:0<=(S.obj r.x).getD 0/\(S.obj r.x).getD 0<=1000000000) (i:Int) :
 FOk Tryz.prog ρ 38 [.mp h 0,.int .i64 i,.agg cs] M nx fun o=>o.1 = .tup []/\HistAt o.2.1 lo o.2.2 h (S.look ⟨i,0,r.t,r.x,r.w,r.n,false,false⟩)/\Agr lo M o.2.1/\nx<=o.2.2:=by
 obtain⟨pk,pa,pb,pv,ve,rfl,⟨p1,p2⟩,⟨q1,q2⟩⟩:=hr
 have hlo:=H.lo_le
 have hlook:=fun(M1:Hp) (n1:Nat) (ha:Agr nx M M1) (hn:nx<=n1)=>f66 ρ (H.agr (ha.le hh)) (show hi<=n1 by omega) few ⟨i,0,r.t,r.x,r.w,r.n,false,false⟩ cnt
 simp only[encLook]at hlook
 clear H
 rw[k2]
 refine FOk.walk (m:=134) (rs:=[]) follows Tryz.func38 (by kernel_rfl) rfl rfl rfl ?_
 conv in W _ _ _ _ _ _ _=>arg 4;whnf
 refine xs5 gy29 p1 p2 q1 q2 ?_;try exact⟨⟩
 generalize hM1:tset M nx _=M1
 have a1:Agr nx M M1:=by rw[<-hM1];exact(by(repeat (refine Agr.set ?_ (by omega) _));exact Agr.refl _ _)
 clear hM1
 refine CN_fok (hlook M1 _ a1 (by omega)) ?_
 rintro⟨u,M2,n2⟩ ⟨g1,g2,g3,g4⟩
 simp only at g1 g2 g3 g4
 subst g1
 refine xs1 gy29 ?_;try exact⟨⟩
 exact⟨g2,(a1.le (by omega)).trans g3,by omega⟩
theorem f38mod (ρ:Rho) {M:Hp} {nx lo hi h:Nat} {S:HS} {r:Rec} {cs:List XV} (hr:RecC r cs) (H:HistAt M lo hi h S) (hh:hi<=nx) (k34:r.kind=3\/r.kind=4) (few:S.mods.length<=100000) {k:Nat} (hk:S.num r.t=some (k:Int)) {a:TxS} (ha:S.txs[k]?=some a) (hat:a.t=r.t) (fewp:(S.places k r.x).length<=100000) (i:Int)
 (cnt:0<=(S.obj r.x).getD 0/\(S.obj r.x).getD 0<=1000000000) :
 FOk Tryz.prog ρ 38 [.mp h 0,.int .i64 i,.agg cs] M nx fun o=>o.1 = .tup []/\HistAt o.2.1 lo o.2.2 h (S.modify i r k)/\Agr lo M o.2.1/\nx<=o.2.2:=by
 have hlo:=H.lo_le
 have hmod:=fun(M1:Hp) (n1:Nat) (ha1:Agr nx M M1) (hn:nx<=n1)=>f67 ρ hr (H.agr (ha1.le hh)) (show hi<=n1 by omega) few hk ha hat fewp i cnt
 obtain⟨pk,pa,pb,pv,ve,rfl,⟨p1,p2⟩,⟨q1,q2⟩⟩:=hr
 clear H hk ha hat
 rcases k34 with e | e
 all_goals
  rw[e]at hmod ⊢
 all_goals
  refine FOk.walk (m:=134) (rs:=[]) follows Tryz.func38 (by kernel_rfl) rfl rfl rfl ?_
  conv in W _ _ _ _ _ _ _=>arg 4;whnf
 all_goals
  refine xs5 gy29 p1 p2 q1 q2 ?_;try exact⟨⟩
 all_goals
  generalize hM1:tset M nx _=M1
  have a1:Agr nx M M1:=by rw[<-hM1];exact(by(repeat (refine Agr.set ?_ (by omega) _));exact Agr.refl _ _)
  clear hM1
  refine CN_fok (hmod M1 _ a1 (by omega)) ?_
  rintro⟨u,M2,n2⟩ ⟨g1,g2,g3,g4⟩
  simp only at g1 g2 g3 g4
  subst g1
 all_goals
  refine xs1 gy29 ?_;try exact⟨⟩
 all_goals
  exact⟨g2,(a1.le (by omega)).trans g3,by omega⟩
end Go.Xs
namespace Go.Xs
open Go.Proofs
set_option maxRecDepth 100000
set_option maxHeartbeats 8000000
structure BegPost (M:Hp) (nx h nk vm om m cn:Nat) (ln:List (Nat×Int×Int)) (ys:List XV) (c0 c3 c4 c6:XV) (T:Int) (i:Int) (old:List Nat) (o:Out):Prop where
 post:nx<=o.2.2/\(∃ts R mk cn',nx<=ts/\ts<o.2.2/\nx<=R/\R<o.2.2/\nx<=mk/\mk<o.2.2/\ts≠R/\ts≠mk/\R≠mk/\tget o.2.1 h=some (.row [c0,.sl ts 1 0 (m+1) (m+1),.mm nk,c3,c4,.mm vm,c6,.mm om])/\tget o.2.1 nk=some (.map (entU (vI .i64) (aput ln cn T (m:Int))) cn') /\
  tget o.2.1 ts=some (.row (ys++[.mp R 0]))/\tget o.2.1 R=some (.row [.int .u64 T,.int .i64 i,.int .i64 0,.int .i64 3,.int .i64 (-1),.mm mk])/\tget o.2.1 mk=some (.map [] 0))/\∀j,j<nx->j≠h->j≠nk->j ∉ old->tget o.2.1 j=tget M j
theorem f38w10 (ρ:Rho) (M:Hp) (nx h nk vm om cs m cn:Nat) (ln:List (Nat×Int×Int)) (ys:List XV) (c0 c3 c4 c6 pp pe:XV) (T X VW VN V pk pa pb:Int) (i:Int)
 (hh:tget M h=some (.row [c0,.nils,.mm nk,c3,c4,.mm vm,c6,.mm om])) (hn:tget M nk=some (.map (entU (vI .i64) ln) cn))
 (b1:h<nx) (b2:nk<nx) (hd:KEq h nk=False/\KEq nk h=False) (p1:cellsOf pp=[pp]) (p2:plain1 pp=true) (p3:cellsOf pe=[pe]) (p4:plain1 pe=true) :
 FOk Tryz.prog ρ 38 [.mp h 0,.int .i64 i,.agg [.int .i64 1,.int .u64 T,.int .u64 X,.int .u64 VW,.int .u64 VN,.int .u64 V,.int .i64 pk,.int .u64 pa,.int .u64 pb,pp,pe]] M nx fun o =>
  o.1 = .tup []/\BegPost M nx h nk vm om 0 cn ln [] c0 c3 c4 c6 T i [] o:=by
 refine FOk.walk (m:=134) (rs:=[]) follows Tryz.func38 (by kernel_rfl) rfl rfl rfl ?_
 conv in W _ _ _ _ _ _ _=>arg 4;whnf
 refine xs8 gy29 p1 p2 p3 p4 hh hn hd ?_;try exact⟨⟩
 repeat' apply And.intro
 all_goals first
  | (refine okP2_ap _ _ _ _ _ _ ?_ ?_ ?_<;>(intro x hx hy;first | (simp only[List.mem_cons,List.not_mem_nil,or_false]at hx hy;done) | (simp only[List.mem_cons,List.not_mem_nil,or_false]at hx hy;omega));done)
  | skip
 refine⟨by simp only;omega,⟨nx+30,nx+28,nx+26,acl ln cn T,by omega,by simp only;omega,by omega,by simp only;omega,by omega,by simp only;omega,by omega,by omega,by omega,?_,?_,?_,?_,?_⟩,fun j hj f1 f2 f3=>?_⟩
 rotate_right
 ·have k0:KEq h j=False:=by simp only[KEq,eq_iff_iff,iff_false];exact fun e=>f1 e.symm
  have k1:KEq nk j=False:=by simp only[KEq,eq_iff_iff,iff_false];exact fun e=>f2 e.symm
  refine xs3 gy29 k0 k1 ?_;try exact⟨⟩
 all_goals first
  | ((refine xs2 gy29 hd ?_;try exact⟨⟩);done)
  | ((refine xs2 gy29 hd ?_;try exact⟨⟩);first | rfl | (simp;done))
  | skip
theorem f38w11 (ρ:Rho) (M:Hp) (nx h nk vm om cs m cn:Nat) (ln:List (Nat×Int×Int)) (ys:List XV) (c0 c3 c4 c6 pp pe:XV) (T X VW VN V pk pa pb:Int) (i:Int)
 (hh:tget M h=some (.row [c0,.sl cs 1 0 m m,.mm nk,c3,c4,.mm vm,c6,.mm om])) (hn:tget M nk=some (.map (entU (vI .i64) ln) cn)) (hcs:tget M cs=some (.row ys)) (hcl:ys.length=m) (b3:cs<nx) (hm:1<=m) (bm:m<=100000)
 (b1:h<nx) (b2:nk<nx) (hd:KEq h nk=False/\KEq nk h=False/\KEq h cs=False/\KEq cs h=False/\KEq nk cs=False/\KEq cs nk=False) (p1:cellsOf pp=[pp]) (p2:plain1 pp=true) (p3:cellsOf pe=[pe]) (p4:plain1 pe=true) :
 FOk Tryz.prog ρ 38 [.mp h 0,.int .i64 i,.agg [.int .i64 1,.int .u64 T,.int .u64 X,.int .u64 VW,.int .u64 VN,.int .u64 V,.int .i64 pk,.int .u64 pa,.int .u64 pb,pp,pe]] M nx fun o =>
  o.1 = .tup []/\BegPost M nx h nk vm om m cn ln ys c0 c3 c4 c6 T i [cs] o:=by
 refine FOk.walk (m:=134) (rs:=[]) follows Tryz.func38 (by kernel_rfl) rfl rfl rfl ?_
 conv in W _ _ _ _ _ _ _=>arg 4;whnf
 refine xs10 gy29 p1 p2 p3 p4 hh hn hd hcs hcl ?_;try exact⟨⟩
 have htk:List.take m ys=ys:=List.take_of_length_le (by omega)
 repeat' apply And.intro
 all_goals first
  | (refine okP2_ap _ _ _ _ _ _ ?_ ?_ ?_<;>(intro x hx hy;first | (simp only[List.mem_cons,List.not_mem_nil,or_false]at hx hy;done) | (simp only[List.mem_cons,List.not_mem_nil,or_false]at hx hy;omega));done)
  | skip
 refine⟨by simp only;omega,⟨nx+30,nx+28,nx+26,acl ln cn T,by omega,by simp only;omega,by omega,by simp only;omega,by omega,by simp only;omega,by omega,by omega,by omega,?_,?_,?_,?_,?_⟩,fun j hj f1 f2 f3=>?_⟩
 rotate_right
 ·have k0:KEq h j=False:=by simp only[KEq,eq_iff_iff,iff_false];exact fun e=>f1 e.symm
  have k1:KEq nk j=False:=by simp only[KEq,eq_iff_iff,iff_false];exact fun e=>f2 e.symm
  have k2:KEq cs j=False:=by simp only[KEq,eq_iff_iff,iff_false];exact fun e=>f3 (by rw[<-e];simp)
  refine xs4 gy29 k0 k1 k2 ?_;try exact⟨⟩
 all_goals first
  | ((refine xs3 gy29 hd htk ?_;try exact⟨⟩);done)
  | ((refine xs3 gy29 hd htk ?_;try exact⟨⟩);first | rfl | (simp;done))
  | skip
end Go.Xs
namespace Go.Xs
open Go.Proofs
set_option maxRecDepth 100000
set_option maxHeartbeats 4000000
theorem f38begin (ρ:Rho) {M:Hp} {nx lo hi h:Nat} {S:HS} {r:Rec} {cs:List XV} (hr:RecC r cs) (H:HistAt M lo hi h S) (hh:hi<=nx) (k1:r.kind=1) (few:S.txs.length<=100000) (i:Int) :
 FOk Tryz.prog ρ 38 [.mp h 0,.int .i64 i,.agg cs] M nx fun o=>o.1 = .tup []/\HistAt o.2.1 lo o.2.2 h (S.begin i r)/\Agr lo M o.2.1/\nx<=o.2.2:=by
 obtain⟨pk,pa,pb,pv,ve,rfl,⟨p1,p2⟩,⟨q1,q2⟩⟩:=hr
 rw[k1]
 obtain⟨tag,vrec,vtxs,vcom,vmods,vlook,nk,vk,ok,cn,cv,co,ptrs,lnum,lver,lobj,H⟩:=H
 have hhi:=H.h_hi
 have hlo:=H.lo_h
 have hnhi:=H.nhi
 have hnlo:=H.nlo
 have d1:=tag_ne H.tg H.ntg (by simp)
 have fin:∀(old:List Nat) (o:Out),(∀j ∈ old,tag j = .txs)->(∀j ∈ old,lo<=j)->BegPost M nx h nk vk ok S.txs.length cn lnum ptrs vrec vcom vmods vlook r.t i old o ->
  HistAt o.2.1 lo o.2.2 h (S.begin i r)/\Agr lo M o.2.1/\nx<=o.2.2:=by
  intro old o h1 h2 P
  obtain⟨⟨g2,⟨ts,R,mk,cn',c1,c2,c3,c4,c5,c6,c7,c8,c9,e1,e2,e3,e4,e5⟩,g4⟩⟩:=P
  have key:∀q,q<hi->¬ BegC (tag q)->tget o.2.1 q=tget M q:=fun q hq hc=>g4 q (by omega) (fun e=>hc (by rw[e];exact .inl H.tg)) (fun e=>hc (by rw[e];exact .inr (.inr H.ntg))) fun e=>hc (.inr (.inl (h1 q e)))
  refine⟨⟨fun q=>if q=ts then .txs else if q=R then .known S.txs.length else if q=mk then .kmap S.txs.length else tag q,vrec,_,vcom,vmods,vlook,nk,vk,ok,cn',cv,co,ptrs++[.mp R 0],_,lver,lobj,
   H.begin (tag':=fun q=>if q=ts then .txs else if q=R then .known S.txs.length else if q=mk then .kmap S.txs.length else tag q) key (fun q hq=>by rw[if_neg (by omega),if_neg (by omega),if_neg (by omega)]) (by omega) e1 ?_ e2 (fun t=>?_) ⟨R,mk,0,[],rfl,by omega,c4,?_,e4,by omega,c6,?_,e5,⟨born_nil _,fun _ _=>rfl⟩,fun x v hx=>by simp[alook]at hx⟩⟩,fun j hj=>g4 j (by omega) (by omega) (by omega) fun e=>by have:=h2 j e;omega,g2⟩
  ·have:=H.txs.2.1
   exact⟨by omega,by simp;omega,.inr ⟨by omega,ts,rfl,by omega,c2,by simp,e3⟩⟩
  ·rw[alook_put,H.numS]
   rfl
  ·simp only;rw[if_neg (fun e=>c7 e.symm)];simp
  ·simp only;rw[if_neg (fun e=>c8 e.symm),if_neg (fun e=>c9 e.symm)];simp
 have hrow:=H.row
 obtain⟨hz,hcl,⟨rfl,hl0⟩ | ⟨hl,ck,rfl,s1,s2,s3,s4⟩⟩:=H.txs
 ·have hp0:ptrs=[]:=List.length_eq_zero_iff.1 (by omega)
  have hd:KEq h nk=False/\KEq nk h=False:=by simp only[KEq,eq_iff_iff,iff_false];exact⟨d1,d1.symm⟩
  refine FOk.mono (f38w10 ρ M nx h nk vk ok 0 0 cn lnum [] vrec vcom vmods vlook pv ve r.t r.x r.w r.n r.v pk pa pb i hrow H.num (by omega) (by omega) hd p1 p2 q1 q2) fun o ho=>⟨ho.1,fin [] o (fun j hj=>by cases hj) (fun j hj=>by cases hj) ?_⟩
  rw[hl0,hp0]
  exact ho.2
 ·have d2:=tag_ne H.tg s3 (by simp)
  have d3:=tag_ne H.ntg s3 (by simp)
  have hd:KEq h nk=False/\KEq nk h=False/\KEq h ck=False/\KEq ck h=False/\KEq nk ck=False/\KEq ck nk=False:=by simp only[KEq,eq_iff_iff,iff_false];exact⟨d1,d1.symm,d2,d2.symm,d3,d3.symm⟩
  refine FOk.mono (f38w11 ρ M nx h nk vk ok ck S.txs.length cn lnum ptrs vrec vcom vmods vlook pv ve r.t r.x r.w r.n r.v pk pa pb i hrow H.num s4 (by omega) (by omega) hl few (by omega) (by omega) hd p1 p2 q1 q2) fun o ho=>⟨ho.1,fin [ck] o (fun j hj=>?_) (fun j hj=>?_) ho.2⟩
  ·simp only[List.mem_cons,List.not_mem_nil,or_false]at hj;subst hj;exact s3
  ·simp only[List.mem_cons,List.not_mem_nil,or_false]at hj;subst hj;exact s1
end Go.Xs
namespace Go.Xs
open Go.Proofs
set_option maxRecDepth 100000
set_option maxHeartbeats 4000000
def enEq (a c:En):Bool:=decide (a.x=c.x)&&(decide (a.w=c.w)&&(decide (a.n=c.n)&&decide (a.m=c.m)))
def ensEq:List En->List En->Bool
 | [],[]=>true
 | a::l,c::l'=>enEq a c&&ensEq l l'
 | _,_=>false
theorem ens_row:∀(es:List En) (i:Nat) (e:En),es[i]?=some e->((es.flatMap encEn).drop (i*4)).take 4=encEn e
 | [],_,_,h=>by simp at h
 | a::es,0,e,h=>by
   simp only[List.getElem?_cons_zero,Option.some.injEq]at h
   subst h
   simp[encEn]
 | a::es,i+1,e,h=>by
   simp only[List.getElem?_cons_succ]at h
   have:=ens_row es i e h
   rw[<-this,List.flatMap_cons,show (i+1)*4=(encEn a).length+i*4 by simp[encEn];omega,<-List.drop_drop]
   simp
theorem ensEq_len:∀{l l':List En},ensEq l l'=true->l.length=l'.length
 | [],[],_=>rfl
 | [],_::_,h=>by simp[ensEq]at h
 | _::_,[],h=>by simp[ensEq]at h
 | a::l,c::l',h=>by simp only[ensEq,Bool.and_eq_true]at h;simp[ensEq_len h.2]
theorem ensEq_step {l l':List En} {i:Nat} {a c:En} (h:l[i]?=some a) (h':l'[i]?=some c):ensEq (l.drop i) (l'.drop i)=(enEq a c&&ensEq (l.drop (i+1)) (l'.drop (i+1))):=by
 obtain⟨h1,rfl⟩:=List.getElem?_eq_some_iff.1 h
 obtain⟨h2,rfl⟩:=List.getElem?_eq_some_iff.1 h'
 rw[List.drop_eq_getElem_cons h1,List.drop_eq_getElem_cons h2]
 rfl
theorem f294 (ρ:Rho) {l l':List En} {M:Hp} {nx b:Nat} {v v':XV} (h:EnsAt M b v l) (h':EnsAt M b v' l') (hb:b<=nx):FOk Tryz.prog ρ 294 [v,v'] M nx (Ret nx M (.bool (ensEq l l'))):=by
 unfold EnsAt at h h'
 have hlen:=fun N=>h.len (P:=Tryz.prog) (t:=41) ty41.2.2.2.2.2 N
 have hlen':=fun N=>h'.len (P:=Tryz.prog) (t:=41) ty41.2.2.2.2.2 N
 have hz:=h.1
 refine FOk.walk (m:=26) (rs:=[.tmp 4]) follows Tryz.func294 (by kernel_rfl) rfl rfl rfl ?_
 conv in W _ _ _ _ _ _ _=>arg 4;whnf
 by_cases hl:(l.length:Int)=l'.length
 ·refine xs4 gy31 hlen hlen' hl ?_;try exact⟨⟩
  refine W_loop (fun m s=>∃i:Nat,i<=l.length/\m=l.length - i/\ensEq (l.drop i) (l'.drop i)=ensEq l l'/\tget s.env 0=some v/\tget s.env 1=some v'/\tget s.env 12=some (.int .i64 l'.length)/\tget s.env 13=some (.int .i64 i)/\Agr nx M s.M/\nx<=s.nx)
   l.length ⟨0,by omega,by omega,by simp,?_⟩ ?_
  ·refine xs1 gy31 ?_;try exact⟨⟩
   exact⟨Agr.refl _ _,by omega⟩
  ·rintro m ⟨env,M',nx'⟩ ⟨i,hi,hm,hid,e0,e1,e12,e13,ha,hn⟩
   simp only at e0 e1 e12 e13 ha hn
   by_cases hlt:(i:Int)<l'.length
   ·have hlt':i<l.length:=by omega
    have hlt2:i<l'.length:=by omega
    obtain⟨a,hea⟩:∃e,l[i]?=some e:=⟨l[i],by simp[hlt']⟩
    obtain⟨c,hec⟩:∃e,l'[i]?=some e:=⟨l'[i],by simp[hlt2]⟩
    obtain⟨n,o,hnb,hix,hld⟩:=h.elem (P:=Tryz.prog) hlt' (t:=41) (t':=120) ty41.2.2.2.1 ty120.1
    obtain⟨n2,o2,hnb2,hix2,hld2⟩:=h'.elem (P:=Tryz.prog) hlt2 (t:=41) (t':=120) ty41.2.2.2.1 ty120.1
    have hld:=hld M' (ha.le hb)
    have hld2:=hld2 M' (ha.le hb)
    rw[ens_row l i a hea]at hld
    rw[ens_row l' i c hec]at hld2
    simp only[encEn]at hld hld2
    have hw2:IntKind.i64.wrap ((i:Int)+1)=((i+1:Nat):Int):=by rw[wrap_i64 (by omega) (by omega)];omega
    have hst:=ensEq_step hea hec
    have he:(decide (a.x=c.x)&&(decide (a.w=c.w)&&(decide (a.n=c.n)&&decide (a.m=c.m))))=enEq a c:=rfl
    cases hq:enEq a c with
    | false =>
      refine xs13 gy31 e0 e1 e12 e13 hlt hix hix2 hld hld2 he hq @Ret.eq_1 ?_;try exact⟨⟩
      exact⟨by rw[<-hid,hst,hq];rfl,ha,by omega⟩
    | true =>
      refine xs13 gy31 e0 e1 e12 e13 hlt hix hix2 hld hld2 he hq hw2 ?_;try exact⟨⟩
      exact⟨l.length - (i+1),by omega,i+1,by omega,rfl,by rw[<-hid,hst,hq];rfl,rfl,ha,by omega⟩
   ·have hd:l.drop i=[]:=List.drop_eq_nil_of_le (by omega)
    have hd2:l'.drop i=[]:=List.drop_eq_nil_of_le (by omega)
    refine xs7 gy31 e0 e1 e12 e13 hlt @Ret.eq_1 ?_;try exact⟨⟩
    exact⟨by rw[<-hid,hd,hd2];rfl,ha,by omega⟩
 ·refine xs5 gy31 hlen hlen' hl @Ret.eq_1 ?_;try exact⟨⟩
  refine⟨?_,Agr.refl _ _,by omega⟩
  congr 1
  cases hq:ensEq l l' with
  | false=>rfl
  | true=>have:=ensEq_len hq;omega
end Go.Xs
namespace Go.Xs
noncomputable section
variable {P:Program} {ρ:Rho} {w w':World} {σ σ':Sig} {M N M' N':Hp} {nx n g:Nat} {args:List XV} {R:Out->Prop}
theorem tr_of {α:Type} (f:Nat->Option α):∀(n:Nat),∃t:Tr α,∀k,tget t k=if k<n then f k else none
 | 0=>⟨.nil,fun k=>by rw[if_neg (by omega)];rfl⟩
 | n+1=>by
   obtain⟨t,ht⟩:=tr_of f n
   cases hf:f n with
   | none =>
     refine⟨t,fun k=>?_⟩
     rw[ht]
     by_cases hk:k=n
     ·subst hk;rw[if_neg (by omega),if_pos (by omega),hf]
     ·by_cases h:k<n
      ·rw[if_pos h,if_pos (by omega)]
      ·rw[if_neg h,if_neg (by omega)]
   | some v =>
     refine⟨tset t n v,fun k=>?_⟩
     rw[tget_tset,ht]
     by_cases hk:k=n
     ·subst hk;rw[if_pos rfl,if_pos (by omega),hf]
     ·rw[if_neg (fun e=>hk e.symm)]
      by_cases h:k<n
      ·rw[if_pos h,if_pos (by omega)]
      ·rw[if_neg h,if_neg (by omega)]
theorem tr_bound {α:Type}:∀(t:Tr α),∃n,∀k,n<=k->tget t k=none
 | .nil=>⟨0,fun _ _=>rfl⟩
 | .node v l r=>by
   obtain⟨a,ha⟩:=tr_bound l
   obtain⟨b,hb⟩:=tr_bound r
   refine⟨2*a+2*b+3,fun k hk=>?_⟩
   rcases parity k with rfl | ⟨q,rfl⟩ | ⟨q,rfl⟩
   ·omega
   ·rw[tget_left];exact ha q (by omega)
   ·rw[tget_right];exact hb q (by omega)
theorem mrg_ex (nx:Nat) (N M N':Hp):∃t:Hp,∀k,tget t k=if k<nx/\tget N k=none/\(tget M k).isSome=true then tget M k else tget N' k:=by
 obtain⟨b,hb⟩:=tr_bound N'
 obtain⟨t,ht⟩:=tr_of (fun k=>if k<nx/\tget N k=none/\(tget M k).isSome=true then tget M k else tget N' k) (nx+b)
 refine⟨t,fun k=>?_⟩
 rw[ht]
 by_cases h:k<nx+b
 ·rw[if_pos h]
 ·rw[if_neg h,if_neg (by omega),hb k (by omega)]
def mrg (nx:Nat) (N M N':Hp):Hp:=Classical.choose (mrg_ex nx N M N')
theorem mrg_get (nx:Nat) (N M N':Hp) (k:Nat):tget (mrg nx N M N') k=if k<nx/\tget N k=none/\(tget M k).isSome=true then tget M k else tget N' k:=Classical.choose_spec (mrg_ex nx N M N') k
def Sub (N M:Hp):Prop:=∀k o,tget N k=some o->tget M k=some o
structure Frm (nx:Nat) (N M N' M':Hp):Prop where
 sub:∀k y,tget N' k=some y->muts y=true->tget M' k=some y
 new:(∀k o,tget M k=some o->k<nx)->∀k,nx<=k->tget M' k=tget N' k
 own:∀k x,tget N k=some x->tget M' k=tget N' k
 old:∀k x,k<nx->tget N k=none->tget M k=some x->tget M' k=some x
 apart:∀k x,k<nx->tget N k=none->tget M k=some x->∀y,tget N' k=some y->muts y=false
 mid:∀k,k<nx->tget N k=none->tget N' k=none->tget M' k=tget M k
theorem CPost.frame (hok:Ok ρ w σ M) (hfree:∀k,nx<=k->σ k=none) (hN:Sub N M) {r:Out} {v:Value} (h:CPost ρ w σ N nx r v w') :
 CPost ρ w σ M nx (r.1,mrg nx N M r.2.1,r.2.2) v w'/\Frm nx N M r.2.1 (mrg nx N M r.2.1):=by
 obtain⟨σ',h1,h2,h3,h4,h5⟩:=h
 have get:∀k o,tget (mrg nx N M r.2.1) k=some o->(tget r.2.1 k=some o)\/(k<nx/\tget N k=none/\tget M k=some o):=fun k o hk=>by
  rw[mrg_get]at hk
  split at hk
  ·rename_i hc;exact .inr ⟨hc.1,hc.2.1,hk⟩
  ·exact .inl hk
 have apart:∀k o p b,tget N k=none->tget M k=some o->σ k=some p->p.1=b->¬ Owned σ N b:=by
  rintro k o p b hk hm hp hb ⟨j,x,q,hj,hq,he,hmu⟩
  have:=hok.inj j k x o q p (hN _ _ hj) hm hmu hq hp (by rw[hb,he])
  subst this
  rw[hk]at hj
  cases hj
 have side:∀k o,tget N k=none->tget M k=some o->∃p,σ k=some p/\OR ρ w σ p o/\w'.heap[p.1]?=w.heap[p.1]?:=fun k o hk hm=>by
  obtain⟨p,hp,ho⟩:=hok.obj k o hm
  exact⟨p,hp,ho,h3.blk p.1 ho.lt (apart k o p p.1 hk hm hp rfl)⟩
 have mm:∀k x,tget N k=none->tget M k=some x->∀y,tget r.2.1 k=some y->muts y=false:=fun k x hk hm y hy=>by
  cases hmu:muts y with
  | false=>rfl
  | true =>
    exfalso
    obtain⟨q,hq,ho,_⟩:=side k x hk hm
    rcases h3.own q.1 ⟨k,y,q,hy,h3.sig _ _ hq,rfl,hmu⟩ with g | g
    ·exact apart k x q q.1 hk hm hq rfl g
    ·have:=ho.lt;omega
 have ext:Ext w σ M w' σ' (mrg nx N M r.2.1):=by
  refine⟨h3.os,h3.tape,h3.output,h3.size,fun b hb hn=>h3.blk b hb fun ho=>hn (ho.sub hN),fun b hb=>?_,h3.sig,fun b hb=>?_⟩
  ·obtain⟨k,o,p,hk,hp,rfl,hmu⟩:=hb
   rcases get k o hk with hk | ⟨_,hn,hk⟩
   ·exact(h3.own p.1 ⟨k,o,p,hk,hp,rfl,hmu⟩).imp (fun g=>g.sub hN) id
   ·obtain⟨q,hq,_⟩:=side k o hn hk
    rw[h3.sig _ _ hq]at hp
    cases hp
    exact .inl ⟨k,o,p,hk,hq,rfl,hmu⟩
  ·obtain⟨k,o,p,hk,hp,rfl⟩:=hb
   rcases get k o hk with hk | ⟨_,hn,hk⟩
   ·exact(h3.held p.1 ⟨k,o,p,hk,hp,rfl⟩).imp (fun⟨j,x,q,g1,g2⟩=>⟨j,x,q,hN _ _ g1,g2⟩) id
   ·obtain⟨q,hq,_⟩:=side k o hn hk
    rw[h3.sig _ _ hq]at hp
    cases hp
    exact .inl ⟨k,o,p,hk,hq,rfl⟩
 refine⟨⟨σ',h1,⟨fun k o hk=>?_,fun k k' o o' p p' hk hk' hmu hp hp' he=>?_,ext.fix hok⟩,ext,h4,h5⟩,⟨fun k y hy hmu=>?_,fun hM k hk=>?_,fun k x hx=>?_,fun k x hk hn hm=>?_,fun k x _ hn hm=>mm k x hn hm,fun k hk hn hn'=>?_⟩⟩
 ·rcases get k o hk with hk | ⟨_,hn,hk⟩
  ·exact h2.obj k o hk
  ·obtain⟨p,hp,ho,hb⟩:=side k o hn hk
   exact⟨p,h3.sig _ _ hp,OR.mono h3.sig hb ho⟩
 ·rcases get k o hk with hk | ⟨_,hn,hk⟩<;>rcases get k' o' hk' with hk' | ⟨_,hn',hk'⟩
  ·exact h2.inj k k' o o' p p' hk hk' hmu hp hp' he
  ·exfalso
   obtain⟨q,hq,ho,_⟩:=side k' o' hn' hk'
   rw[h3.sig _ _ hq]at hp'
   cases hp'
   rcases h3.own p.1 ⟨k,o,p,hk,hp,rfl,hmu⟩ with g | g
   ·exact apart k' o' p' p.1 hn' hk' hq he.symm g
   ·have:=ho.lt;omega
  ·exfalso
   obtain⟨q,hq,ho,_⟩:=side k o hn hk
   rw[h3.sig _ _ hq]at hp
   cases hp
   rcases h3.held p'.1 ⟨k',o',p',hk',hp',rfl⟩ with ⟨j,x,q',hj,hq',he'⟩ | g
   ·have hj':=hN _ _ hj
    have:=hok.inj k j o x p q' hk hj' hmu hq hq' (he.trans he'.symm)
    subst this
    rw[hn]at hj
    cases hj
   ·have:=ho.lt;omega
  ·obtain⟨q,hq,_⟩:=side k o hn hk
   obtain⟨q',hq',_⟩:=side k' o' hn' hk'
   rw[h3.sig _ _ hq]at hp
   rw[h3.sig _ _ hq']at hp'
   cases hp
   cases hp'
   exact hok.inj k k' o o' p p' hk hk' hmu hq hq' he
 ·rw[mrg_get]
  split
  ·rename_i hc
   obtain⟨x,hx⟩:=Option.isSome_iff_exists.1 hc.2.2
   rw[mm k x hc.2.1 hx y hy]at hmu
   cases hmu
  ·exact hy
 ·rw[mrg_get,if_neg (by omega)]
 ·rw[mrg_get,if_neg (fun h=>by rw[hx]at h;cases h.2.1)]
 ·rw[mrg_get,if_pos ⟨hk,hn,by rw[hm];rfl⟩,hm]
 ·rw[mrg_get]
  split
  ·rfl
  ·rename_i hc
   rw[hn']
   cases hm:tget M k with
   | none=>rfl
   | some x=>exact(hc ⟨hk,hn,by rw[hm];rfl⟩).elim
theorem FOk0.frame (hN:Sub N M) (h:FOk0 P ρ g args N nx R):FOk0 P ρ g args M nx fun o=>∃N',R (o.1,N',o.2.2)/\o.2.1=mrg nx N M N'/\Frm nx N M N' o.2.1:=by
 intro w σ vs hok hfree hargs o a K Q hK
 refine h w σ vs (hok.sub hN) hfree hargs o a K Q fun v w' ⟨r,hr,hp⟩=>?_
 obtain⟨q1,q2⟩:=hp.frame hok hfree hN
 exact hK v w' ⟨(r.1,mrg nx N M r.2.1,r.2.2),⟨r.2.1,hr,rfl,q2⟩,q1⟩
theorem FOk.frame (hN:Sub N M) (h:FOk P ρ g args N nx R):FOk P ρ g args M nx fun o=>∃N',R (o.1,N',o.2.2)/\Frm nx N M N' o.2.1:=by
 refine⟨(h.1.frame hN).mono fun o ⟨N',h1,h2,h3⟩=>⟨N',h1,h3⟩,fun hd ⟨r0,hr0⟩=>?_⟩
 obtain⟨N0,q1,q2⟩:=hr0
 obtain⟨r,g1,g2⟩:=h.2 hd ⟨_,q1⟩
 by_cases hc:Frm nx N M r.2.1 (mrg nx N M r.2.1)
 ·refine⟨(r.1,mrg nx N M r.2.1,r.2.2),⟨r.2.1,g1,hc⟩,(g2.frame hN).mono fun o ⟨N',h1,h2,h3⟩=>?_⟩
  obtain⟨o1,o2,o3⟩:=o
  simp only at h1 h2
  rw[<-h1]
  simp only
  rw[h2]
 ·exact⟨r0,⟨N0,q1,q2⟩,(g2.frame hN).mono fun o ⟨N',h1,h2,h3⟩=>by
   obtain⟨o1,o2,o3⟩:=o
   simp only at h1 h2 h3
   refine(hc ?_).elim
   rw[<-h1]
   simp only
   rw[<-h2];exact h3⟩
def Mu (N M:Hp):Prop:=∀k o,tget N k=some o->tget M k=some o/\muts o=true
theorem mu_ex (N:Hp):∃t:Hp,∀k,tget t k=(tget N k).filter muts:=by
 obtain⟨b,hb⟩:=tr_bound N
 obtain⟨t,ht⟩:=tr_of (fun k=>(tget N k).filter muts) b
 refine⟨t,fun k=>?_⟩
 rw[ht]
 by_cases h:k<b
 ·rw[if_pos h]
 ·rw[if_neg h,hb k (by omega)];rfl
def muo (N:Hp):Hp:=Classical.choose (mu_ex N)
theorem muo_get (N:Hp) (k:Nat):tget (muo N) k=(tget N k).filter muts:=Classical.choose_spec (mu_ex N) k
theorem muo_some {k:Nat} {o:XObj}:tget (muo N) k=some o ↔ tget N k=some o/\muts o=true:=by
 rw[muo_get]
 cases h:tget N k with
 | none=>simp
 | some x =>
   simp only[Option.filter_some,Option.some.injEq]
   constructor
   ·intro h
    split at h
    ·rename_i hm
     cases h
     exact⟨rfl,hm⟩
    ·cases h
   ·rintro⟨rfl,hm⟩
    rw[if_pos hm]
def Aside (nx:Nat) (N M N' M':Hp):Prop:=∀k x,k<nx->tget N k=none->tget M k=some x->tget M' k=some x/\tget N' k=none
theorem Aside.trans {nx1:Nat} {N1 M1 N2 M2:Hp} (h:Aside nx N M N1 M1) (h':Aside nx1 N1 M1 N2 M2) (hn:nx<=nx1):Aside nx N M N2 M2:=fun k x h1 h2 h3 =>
 let ⟨a,b⟩:=h k x h1 h2 h3;h' k x (by omega) b a
theorem Frm.mu (h:Frm nx N M N' M'):Mu (muo N') M'/\Aside nx N M (muo N') M':=by
 refine⟨fun k o hk=>?_,fun k x h1 h2 h3=>⟨h.old k x h1 h2 h3,?_⟩⟩
 ·obtain⟨q1,q2⟩:=muo_some.1 hk
  exact⟨h.sub k o q1 q2,q2⟩
 ·cases hk:tget (muo N') k with
  | none=>rfl
  | some y =>
    obtain⟨q1,q2⟩:=muo_some.1 hk
    rw[h.apart k x h1 h2 h3 y q1]at q2
    cases q2
theorem Mu.sub (h:Mu N M):Sub N M:=fun k o hk=>(h k o hk).1
end
end Go.Xs
namespace Go.Xs
noncomputable section
variable {P:Program} {ρ:Rho} {M M' N N':Hp} {nx nx' g lo hi h:Nat} {S S':HS} {args:List XV}
def MSub (M M':Hp):Prop:=∀k x,tget M k=some x->muts x=true->tget M' k=some x
theorem MSub.row (h:MSub M M') {k:Nat} {cs:List XV} (hk:tget M k=some (.row cs)):tget M' k=some (.row cs):=h k _ hk rfl
theorem MSub.map (h:MSub M M') {k c:Nat} {es:List (Nat×XV×XV)} (hk:tget M k=some (.map es c)):tget M' k=some (.map es c):=h k _ hk rfl
theorem OwnSl.sub {τ:Type} {tag:Nat->τ} {tg:τ} {v:XV} {sz len:Nat} {cs:List XV} (hs:MSub M M') (h:OwnSl M lo hi tag tg v sz len cs):OwnSl M' lo hi tag tg v sz len cs:=by
 obtain⟨h1,h2,h3 | ⟨h0,k,e,h4,h5,h6,h7⟩⟩:=h
 ·exact⟨h1,h2,.inl h3⟩
 ·exact⟨h1,h2,.inr ⟨h0,k,e,h4,h5,h6,hs.row h7⟩⟩
theorem KnownAt.sub {tag:Nat->Hg} {i:Nat} {a:TxS} {pl:Int->List Int} {v:XV} (hs:MSub M M') (h:KnownAt M lo hi tag i a pl v):KnownAt M' lo hi tag i a pl v:=by
 obtain⟨rk,mk,c,lm,h1,h2,h3,h4,h5,h6,h7,h8,h9,h10,h11⟩:=h
 exact⟨rk,mk,c,lm,h1,h2,h3,h4,hs.row h5,h6,h7,h8,hs.map h9,h10,fun x v hx=>⟨(h11 x v hx).1,(h11 x v hx).2.sub hs⟩⟩
theorem HistAt.sub (hs:MSub M M') (H:HistAt M lo hi h S):HistAt M' lo hi h S:=by
 obtain⟨tag,vrec,vtxs,vcom,vmods,vlook,nk,vk,ok,cn,cv,co,ptrs,lnum,lver,lobj,H⟩:=H
 exact⟨tag,vrec,vtxs,vcom,vmods,vlook,nk,vk,ok,cn,cv,co,ptrs,lnum,lver,lobj,
  { lo_h:=H.lo_h,h_hi:=H.h_hi,tg:=H.tg,row:=hs.row H.row,recs:=H.recs.sub hs,txs:=H.txs.sub hs
    known:=fun i a ha=>let ⟨v,h1,h2⟩:=H.known i a ha;⟨v,h1,h2.sub hs⟩
    nlo:=H.nlo,nhi:=H.nhi,ntg:=H.ntg,num:=hs.map H.num,numS:=H.numS,com:=H.com.sub hs,mods:=H.mods.sub hs
    vlo:=H.vlo,vhi:=H.vhi,vtg:=H.vtg,ver:=hs.map H.ver,vrow:=H.vrow,verS:=H.verS,looks:=H.looks.sub hs
    olo:=H.olo,ohi:=H.ohi,otg:=H.otg,obj:=hs.map H.obj,objS:=H.objS }⟩
theorem HistAt.lo_lt (H:HistAt M lo hi h S):lo<hi:=by
 obtain⟨tag,vrec,vtxs,vcom,vmods,vlook,nk,vk,ok,cn,cv,co,ptrs,lnum,lver,lobj,H⟩:=H
 have h1:=H.lo_h
 have h2:=H.h_hi
 omega
structure HF (M:Hp) (nx:Nat) (N:Hp) (lo h:Nat) (S:HS):Prop where
 mu:Mu N M
 lt:∀k x,tget N k=some x->k<nx
 ge:∀k x,tget N k=some x->lo<=k
 at':∃hi,hi<=nx/\HistAt N lo hi h S
theorem HF.keep (H:HF M nx N lo h S) (hk:∀k x,tget N k=some x->tget M' k=tget M k) (hn:nx<=nx'):HF M' nx' N lo h S :=
 ⟨fun k o ho=>⟨by rw[hk k o ho];exact(H.mu k o ho).1,(H.mu k o ho).2⟩,fun k x hx=>Nat.lt_of_lt_of_le (H.lt k x hx) hn,H.ge,let ⟨hi,h1,h2⟩:=H.at';⟨hi,Nat.le_trans h1 hn,h2⟩⟩
theorem HF.agr (H:HF M nx N lo h S) (ha:Agr nx M M') (hn:nx<=nx'):HF M' nx' N lo h S:=H.keep (fun k x hx=>ha k (H.lt k x hx)) hn
theorem HF.msub (H:HF M nx N lo h S):MSub N M:=fun k x hk _=>(H.mu k x hk).1
theorem HF.hist (H:HF M nx N lo h S):∃hi,hi<=nx/\HistAt M lo hi h S:=let ⟨hi,h1,h2⟩:=H.at';⟨hi,h1,h2.sub H.msub⟩
theorem HF.out (H:HF M nx N lo h S) {k:Nat} (hk:nx<=k):tget N k=none:=by
 cases hn:tget N k with
 | none=>rfl
 | some x=>have:=H.lt k x hn;omega
def HStep (M:Hp) (nx:Nat) (N:Hp) (lo h:Nat) (S':HS) (v:XV) (o:Out):Prop:=o.1=v/\nx<=o.2.2/\∃N',HF o.2.1 o.2.2 N' lo h S'/\Aside nx N M N' o.2.1/\Agr lo M o.2.1
theorem FOk.hist {v:XV} (H:HF M nx N lo h S) (hc:∀hi,hi<=nx->HistAt N lo hi h S->FOk P ρ g args N nx fun o=>o.1=v/\HistAt o.2.1 lo o.2.2 h S'/\Agr lo N o.2.1/\nx<=o.2.2):FOk P ρ g args M nx (HStep M nx N lo h S' v):=by
 obtain⟨hi,h1,h2⟩:=H.at'
 refine((hc hi h1 h2).frame H.mu.sub).out.mono fun o ⟨⟨N',⟨q1,q2,q3,q4⟩,q5⟩,q6,_⟩=>?_
 simp only at q1 q2 q3 q4
 have hN:∀k,k<lo->tget N k=none:=fun k hk=>by
  cases hn:tget N k with
  | none=>rfl
  | some x=>have:=H.ge k x hn;omega
 have hN':∀k,k<lo->tget N' k=none:=fun k hk=>by rw[q3 k hk];exact hN k hk
 have hlo:lo<=nx:=by have:=h2.lo_lt;omega
 refine⟨q1,q4,muo N',⟨q5.mu.1,fun k x hx=>(q6 k x (q5.mu.1 k x hx).1).1,fun k x hx=>?_,o.2.2,Nat.le_refl _,q2.sub fun k x hx hm=>muo_some.2 ⟨hx,hm⟩⟩,q5.mu.2,fun k hk=>q5.mid k (by omega) (hN k hk) (hN' k hk)⟩
 refine Nat.le_of_not_lt fun hk=>?_
 have:=(muo_some.1 hx).1
 rw[hN' k hk]at this
 cases this
def endN (R:Out->Prop):AExit->XS->Prop
 | .exit _,_=>False
 | _,s=>R (.tup [],s.M,s.nx)
theorem endK_nil (R:Out->Prop):endK P [] R=endN R:=by
 funext e s
 cases e<;>simp[endK,endN,resXs,oneOr]
theorem oneOr_0:oneOr [] = .tup []:=rfl
theorem oneOr_1 (v:XV):oneOr [v]=v:=rfl
theorem oneOr_2 (v w:XV) (l:List XV):oneOr (v::w::l) = .tup (v::w::l):=rfl
theorem endN_n (R:Out->Prop) (s:XS):endN R .normal s=R (.tup [],s.M,s.nx):=rfl
end
end Go.Xs
