/- SnapTexts, run: the examples once, the law itself about them, for each kind of a fault. -/
import Derived.Test.YtfbpeddokcjjnaaGreatDoorXmPartD
import Derived.Test.YtfbpeddokcjjnaaGreatDoorRows
namespace Go.Proofs.YtfbpeddokcjjnaaGreatDoor.snapTexts
set_option linter.all false
set_option linter.deprecated false
open Go.Xn Go.RowKit
theorem follows : Tryz.prog.follows .mixedOrders = true := by kernel_rfl
theorem names : (Tryz.prog.funcs.toList.all fun fn => !(fn.name == "runtime.NumGoroutine")) = true := by kernel_rfl
theorem cnt : Extern.findNext Tryz.f175 = none ∧ Extern.find Tryz.f175 = some Extern.BytealgCount.count := ⟨by kernel_rfl, by kernel_rfl⟩
theorem idx : Extern.findNext Tryz.f264 = none ∧ Extern.find Tryz.f264 = some Extern.BytealgIndexByte.indexByte := ⟨by kernel_rfl, by kernel_rfl⟩
set_option maxRecDepth 100000 in
theorem join_ext (ρ : Rho) : ExtOk Tryz.prog ρ (extJoin 18) :=
  extJoin_ok Tryz.func18 (names_ok names _ _ Tryz.func18) (by kernel_rfl) fun bk o c xs sep w h1 h2 h3 h4 h5 => Go.Proofs.Tryz.strings_Join bk o c xs sep w h1 h2 h3 h4 h5
set_option maxRecDepth 100000 in
theorem joinT_ext (ρ : Rho) : ExtOk Tryz.prog ρ (extJoinT 18) :=
  extJoinT_ok Tryz.func18 (names_ok names _ _ Tryz.func18) (by kernel_rfl) fun bk o c xs sep w h1 h2 h3 h4 h5 => Go.Proofs.Tryz.strings_Join bk o c xs sep w h1 h2 h3 h4 h5
set_option maxRecDepth 100000 in
theorem byte_ext (ρ : Rho) : ExtOk Tryz.prog ρ (extB 175 264) :=
  extB_ok ⟨_, Tryz.func175, by kernel_rfl, names_ok names _ _ Tryz.func175, cnt⟩ ⟨_, Tryz.func264, by kernel_rfl, names_ok names _ _ Tryz.func264, idx⟩
noncomputable def ext1 : ExtF := fun g args M => match extB 175 264 g args M with | some v => some v | none => extJoin 18 g args M
set_option maxRecDepth 100000 in
theorem ext1_ok (ρ : Rho) : ExtOk Tryz.prog ρ ext1 := (byte_ext ρ).or (join_ext ρ)
theorem run_works : okB (runF Tryz.prog (fun _ _ _ => none) ext1 100000 60 8 [] .nil 0) = true := by kernel_rfl
def rho0 : Rho := ⟨fun _ => 0, fun _ => none⟩
set_option maxRecDepth 100000 in
theorem works (w : World) : Calls Tryz.prog 8 #[] w fun e w' => e = .returned (.bool true) ∧ Below w.heap.size w w' :=
  law_calls (args := []) (vs := []) (ρ := rho0) (runF_ok follows (names_ok names) (fun _ _ _ _ _ h => by cases h) (ext1_ok _) (fuel := 100000) 60) (nx := 0) (ok_nil fun _ _ h => by cases h) owned_nil (fun _ _ => rfl) run_works (by simp only [VRs]) Tryz.func8 (names_ok names _ _ Tryz.func8) (by kernel_rfl)
/-- the law: the examples are known, and each number's numeral -/
noncomputable def ext2 : ExtF := fun g args M => match extTrue 8 g args M with
  | some v => some v
  | none => match extZ 15 .u64 [2, 3, 4, 5, 6] (some 10) g args M with
    | some v => some v
    | none => match extZ 16 .i64 [1, 7, 8] none g args M with
      | some v => some v
      | none => match extZ 20 .u64 [2, 3, 4, 5, 6] none g args M with
        | some v => some v
        | none => match extZ 19 .i64 [1, 7, 8] none g args M with
          | some v => some v
          | none => extJoinT 18 g args M
def args0 : List XV := [.agg [.si .i64 0, .si .i64 1, .si .u64 2, .si .u64 3, .si .u64 4, .si .u64 5, .si .u64 6, .si .i64 7, .si .i64 8]]
/-- of the kind: which it is -/
def kindΓ (k : Nat) : Facts := fun i op c => match i, op, c with
  | 0, .eql, .ofNat 1 => some (Nat.beq k 1)
  | 0, .eql, .ofNat 2 => some (Nat.beq k 2)
  | _, _, _ => none
theorem run_1 : okB (runF Tryz.prog (kindΓ 1) ext2 100000 60 3 args0 .nil 0) = true := by kernel_rfl
theorem run_2 : okB (runF Tryz.prog (kindΓ 2) ext2 100000 60 3 args0 .nil 0) = true := by kernel_rfl
theorem run_0 : okB (runF Tryz.prog (kindΓ 0) ext2 100000 60 3 args0 .nil 0) = true := by kernel_rfl
theorem kindΓ_ok {ρ : Rho} {k : Nat} (h1 : decide (ρ 0 = 1) = Nat.beq k 1) (h2 : decide (ρ 0 = 2) = Nat.beq k 2) : ∀ i op c b kd, kindΓ k i op c = some b → binInt op kd (ρ i) kd c = some (.bool b) := by
  intro i op c b kd h
  unfold kindΓ at h
  split at h <;> (try (cases h; done)) <;> cases h
  · rw [← h1]; simp [binInt]; rfl
  · rw [← h2]; simp [binInt]; rfl
end Go.Proofs.YtfbpeddokcjjnaaGreatDoor.snapTexts
