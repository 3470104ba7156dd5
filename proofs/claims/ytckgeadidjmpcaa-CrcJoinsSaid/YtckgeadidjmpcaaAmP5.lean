/- alibilaw01.works keeps its contract: it returns true. -/
import Derived.Test.YtckgeadidjmpcaaAmP4
namespace Go.Am
set_option linter.all false
set_option linter.deprecated false
open Go.Proofs
set_option maxRecDepth 100000
set_option maxHeartbeats 4000000
def trueC : Contract := { modes := [], fn := fun args M => match args, M with
  | [], [] => some ⟨[], .bool (fun _ => true), []⟩
  | _, _ => none }
def L3 : List (Nat × Contract) := [(19, putC), (21, getC), (22, sameC)]
def G3 : Ctx := fun f => gget L3 f
theorem G3_ok : ∀ f C, G3 f = some C → CSound Try.prog f C := gget_cons put_ok (gget_cons get_ok (gget_cons same_ok (gget_nil _)))
theorem works_ok : CSound Try.prog 18 trueC := by
  refine fsound' (G := G3) (c := codeOf Try.f18) mixed tyT G3_ok Try.func18 (by rfl) (by kernel_rfl) (by kernel_rfl) fun args M r hr hvc hw hm => ?_
  unfold trueC at hr
  simp only at hr
  split at hr <;> cases hr
  clear hvc hm
  cbv
  refine ⟨⟨by decide +kernel⟩, ⟨by decide +kernel⟩, ⟨by decide +kernel⟩, ⟨by decide +kernel⟩, ⟨by decide +kernel⟩, ⟨by decide +kernel⟩, ⟨by decide +kernel⟩, ?_⟩
  refine .ofT (by decide +kernel) ?_
  cbv
  refine .ofT (by decide +kernel) ?_
  cbv
  refine .ofT (by decide +kernel) ?_
  cbv
  refine .ofT (by decide +kernel) ?_
  cbv
  refine .ofT (by decide +kernel) ?_
  cbv
  refine .ofT (by decide +kernel) ?_
  cbv
  refine .ofT (by decide +kernel) ?_
  cbv
  refine .ofT (by decide +kernel) ?_
  cbv
  refine .ofT (by decide +kernel) ?_
  cbv
  exact ⟨by decide +kernel⟩
end Go.Am
