/- OrderNone, run on known data: whether the version's parts are zero is all that is asked of them. -/
import Derived.Test.YtcibleglaghhfaaGreatDoorXmPartB
import Derived.Test.YtcibleglaghhfaaGreatDoorRows
namespace Go.Proofs.YtcibleglaghhfaaGreatDoor.orderNone
set_option linter.all false
set_option linter.deprecated false
open Go.Xm Go.RowKit
def rho (x w n m : Int) : Nat → Int
  | 0 => x
  | 1 => w
  | 2 => n
  | _ => m
def fact (p q : Bool) : Nat → Option Bool
  | 1 => some p
  | 2 => some q
  | _ => none
theorem follows : Tryz.prog.follows .mixedOrders = true := by kernel_rfl
theorem names : (Tryz.prog.funcs.toList.all fun fn => !(fn.name == "runtime.NumGoroutine")) = true := by kernel_rfl
theorem cnt : Extern.findNext Tryz.f223 = none ∧ Extern.find Tryz.f223 = some Extern.BytealgCount.count := ⟨by kernel_rfl, by kernel_rfl⟩
theorem idx : Extern.findNext Tryz.f299 = none ∧ Extern.find Tryz.f299 = some Extern.BytealgIndexByte.indexByte := ⟨by kernel_rfl, by kernel_rfl⟩
theorem ext (ρ : Nat → Int) : ExtOk Tryz.prog ρ (extB 223 299) :=
  extB_ok (fun fn hf _ => by
    obtain rfl := Option.some.inj (hf.symm.trans Tryz.func223)
    exact ⟨names_ok names _ _ hf, cnt⟩) fun fn hf _ => by
    obtain rfl := Option.some.inj (hf.symm.trans Tryz.func299)
    exact ⟨names_ok names _ _ hf, idx⟩
theorem run_tt : okB (runF Tryz.prog (zeroΓ (fact true true)) (extB 223 299) 100000 60 4 [.si .u64 0, .agg [.si .u64 1, .si .u64 2], .si .i64 3] .nil 0) = true := by kernel_rfl
theorem run_tf : okB (runF Tryz.prog (zeroΓ (fact true false)) (extB 223 299) 100000 60 4 [.si .u64 0, .agg [.si .u64 1, .si .u64 2], .si .i64 3] .nil 0) = true := by kernel_rfl
theorem run_ft : okB (runF Tryz.prog (zeroΓ (fact false true)) (extB 223 299) 100000 60 4 [.si .u64 0, .agg [.si .u64 1, .si .u64 2], .si .i64 3] .nil 0) = true := by kernel_rfl
theorem run_ff : okB (runF Tryz.prog (zeroΓ (fact false false)) (extB 223 299) 100000 60 4 [.si .u64 0, .agg [.si .u64 1, .si .u64 2], .si .i64 3] .nil 0) = true := by kernel_rfl
end Go.Proofs.YtcibleglaghhfaaGreatDoor.orderNone
