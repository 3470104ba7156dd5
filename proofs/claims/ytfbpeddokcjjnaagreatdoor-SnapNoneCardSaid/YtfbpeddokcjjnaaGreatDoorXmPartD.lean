/- SnapNone, run: the examples once, the law itself about them. -/
import Derived.Test.YtfbpeddokcjjnaaGreatDoorXmPartC
import Derived.Test.YtfbpeddokcjjnaaGreatDoorRows
namespace Go.Proofs.YtfbpeddokcjjnaaGreatDoor.snapNone
set_option linter.all false
set_option linter.deprecated false
open Go.Xm Go.RowKit
theorem follows : Tryz.prog.follows .mixedOrders = true := by kernel_rfl
theorem names : (Tryz.prog.funcs.toList.all fun fn => !(fn.name == "runtime.NumGoroutine")) = true := by kernel_rfl
theorem cnt : Extern.findNext Tryz.f175 = none ∧ Extern.find Tryz.f175 = some Extern.BytealgCount.count := ⟨by kernel_rfl, by kernel_rfl⟩
theorem idx : Extern.findNext Tryz.f264 = none ∧ Extern.find Tryz.f264 = some Extern.BytealgIndexByte.indexByte := ⟨by kernel_rfl, by kernel_rfl⟩
set_option maxRecDepth 100000 in
theorem join_ext (ρ : Nat → Int) : ExtOk Tryz.prog ρ (extJoin 18) :=
  extJoin_ok Tryz.func18 (names_ok names _ _ Tryz.func18) (by kernel_rfl) fun bk o c xs sep w h1 h2 h3 h4 h5 => Go.Proofs.Tryz.strings_Join bk o c xs sep w h1 h2 h3 h4 h5
set_option maxRecDepth 100000 in
theorem byte_ext (ρ : Nat → Int) : ExtOk Tryz.prog ρ (extB 175 264) :=
  extB_ok ⟨_, Tryz.func175, by kernel_rfl, names_ok names _ _ Tryz.func175, cnt⟩ ⟨_, Tryz.func264, by kernel_rfl, names_ok names _ _ Tryz.func264, idx⟩
noncomputable def ext1 : ExtF := fun g args M => match extB 175 264 g args M with | some v => some v | none => extJoin 18 g args M
set_option maxRecDepth 100000 in
theorem ext1_ok (ρ : Nat → Int) : ExtOk Tryz.prog ρ ext1 := (byte_ext ρ).or (join_ext ρ)
theorem run_works : okB (runF Tryz.prog (fun _ _ _ => none) ext1 100000 60 8 [] .nil 0) = true := by kernel_rfl
set_option maxRecDepth 100000 in
theorem works (w : World) : Calls Tryz.prog 8 #[] w fun e w' => e = .returned (.bool true) ∧ Below w.heap.size w w' :=
  law_calls (args := []) (vs := []) (ρ := fun _ => 0) (runF_ok follows (names_ok names) (fun _ _ _ _ _ h => by cases h) (ext1_ok _) (fuel := 100000) 60) (nx := 0) run_works (by simp only [VRs]) Tryz.func8 (names_ok names _ _ Tryz.func8) (by kernel_rfl)
noncomputable def ext2 : ExtF := fun g args M => match ext1 g args M with | some v => some v | none => extTrue 8 g args M
set_option maxRecDepth 100000 in
theorem ext2_ok (ρ : Nat → Int) : ExtOk Tryz.prog ρ ext2 := (ext1_ok ρ).or (extTrue_ok Tryz.func8 (names_ok names _ _ Tryz.func8) (by kernel_rfl) works)
def fact (p : Bool) : Nat → Option Bool
  | 0 => some p
  | _ => none
theorem run_t : okB (runF Tryz.prog (signΓ (fact true)) ext2 100000 60 4 [.si .i64 0, .si .u64 1] .nil 0) = true := by kernel_rfl
theorem run_f : okB (runF Tryz.prog (signΓ (fact false)) ext2 100000 60 4 [.si .i64 0, .si .u64 1] .nil 0) = true := by kernel_rfl
end Go.Proofs.YtfbpeddokcjjnaaGreatDoor.snapNone
