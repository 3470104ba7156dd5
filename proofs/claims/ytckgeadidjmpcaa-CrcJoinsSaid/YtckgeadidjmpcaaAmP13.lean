/- alibilaw02.works keeps its contract: it returns true. -/
import Derived.Test.YtckgeadidjmpcaaAmP12
namespace Go.Am
set_option linter.all false
set_option linter.deprecated false
open Go.Proofs
set_option maxRecDepth 100000
set_option maxHeartbeats 4000000
def Lc6 : List (Nat × Contract) := [(28, openC), (33, sumC), (31, cputC), (22, sameC)]
def Gc6 : Ctx := fun f => gget Lc6 f
theorem Gc6_ok : ∀ f C, Gc6 f = some C → CSound Try.prog f C := gget_cons open_ok (gget_cons sum_ok (gget_cons cput_ok (gget_cons same_ok (gget_nil _))))
theorem works2_ok : CSound Try.prog 27 trueC := by
  refine fsound' (G := Gc6) (c := codeOf Try.f27) mixed tyT Gc6_ok Try.func27 (by rfl) (by kernel_rfl) (by kernel_rfl) fun args M r hr hvc hw hm => ?_
  unfold trueC at hr
  simp only at hr
  split at hr <;> cases hr
  clear hvc hm hw
  conv => cbv
  repeat (first | refine ⟨⟨by decide +kernel⟩, ?_⟩ | (refine .ofT (by decide +kernel) ?_; conv => cbv))
  exact ⟨by decide +kernel⟩
end Go.Am
