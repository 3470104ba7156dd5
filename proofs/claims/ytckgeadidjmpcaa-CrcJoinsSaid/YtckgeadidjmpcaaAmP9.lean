/- alibilaw01.VarintGets keeps its contract: it returns true. -/
import Derived.Test.YtckgeadidjmpcaaAmP6
import Derived.Test.YtckgeadidjmpcaaAmP8
namespace Go.Am
set_option linter.all false
set_option linter.deprecated false
open Go.Proofs
set_option maxRecDepth 100000
set_option maxHeartbeats 4000000
def getsC : Contract := { modes := [], fn := fun args M => match args, M with
  | [.int .u64 _, .sl _ [.int .u8] _, .int .i64 _], [] => some ⟨[], .bool (fun _ => true), []⟩
  | _, _ => none }
def L6 : List (Nat × Contract) := [(18, trueC), (19, putC), (20, ownC), (21, getC), (22, sameC), (23, rputC'), (24, sizeC), (25, spoilC), (26, getC)]
def G6 : Ctx := fun f => gget L6 f
theorem G6_ok : ∀ f C, G6 f = some C → CSound Try.prog f C := gget_cons works_ok (gget_cons put_ok (gget_cons own_ok (gget_cons get_ok (gget_cons same_ok (gget_cons rput_ok (gget_cons size_ok (gget_cons spoil_ok (gget_cons rget_ok (gget_nil _)))))))))
theorem gets_ok : CSound Try.prog 4 getsC := by
  refine fsound' (G := G6) (c := codeOf Try.f4) mixed tyT G6_ok Try.func4 (by rfl) (by kernel_rfl) (by kernel_rfl) fun args M r hr hvc hw hm => ?_
  unfold getsC at hr
  simp only at hr
  split at hr <;> cases hr
  rename_i v nn b a
  obtain ⟨b, rfl⟩ : ∃ x, b = fun _ => x := ⟨b (), rfl⟩
  obtain ⟨v, rfl⟩ : ∃ x, v = fun _ => x := ⟨v (), rfl⟩
  obtain ⟨a, rfl⟩ : ∃ x, a = fun _ => x := ⟨a (), rfl⟩
  clear hvc hm
  simp only [WfVs, WfV, and_true, u64_iff] at hw
  obtain ⟨hv, hb, ha⟩ := hw
  obtain ⟨v, rfl⟩ := Int.eq_ofNat_of_zero_le hv.1
  have lv := put1_len 9 v
  rw [← putB] at lv
  have hT : List.take b.length (List.drop 0 b) = b := by simp
  have hP : List.take (putB v).length (List.drop 0 (rowB (putB v))) = rowB (putB v) := by simp
  conv => cbv
  refine Split.mk (fun h => ?_) (fun h => ?_)
  · conv => cbv
    exact ⟨rfl⟩
  · have h : ¬ (200 : Int) < b.length := of_decide_eq_false h
    have h1 : b.length ≤ big := by simp only [big]; omega
    conv => cbv
    refine ⟨⟨h1⟩, LoopP.mk Nat (fun s => ⟨finit 79 [.int .u64 fun _ => v, .sl false U8 fun _ => b, .int .i64 fun _ => a, .un, .un, .un, .bool fun _ => false, .ms 0 (fun _ => 0) (fun _ => b.length), .ms 1 (fun _ => 0) (fun _ => (putB v).length), .int .i64 fun _ => (s : Int)], [(0, .row false U8 fun _ => b), (1, .row false U8 fun _ => rowB (putB v))], 8⟩) (fun s => 2 - s) 0 ?_ ?_⟩
    · conv => cbv
      exact ⟨⟨rfl⟩, ⟨rfl⟩, ⟨rfl⟩, ⟨rfl⟩, ⟨rfl, rfl⟩, ⟨rfl, rfl⟩, ⟨rfl⟩, ⟨rfl⟩, ⟨rfl⟩⟩
    · intro n
      conv => cbv
      refine Split.mk (fun h => ?_) (fun h => ?_)
      · have h : (n : Int) < 2 := of_decide_eq_true h
        have hw1 : IntKind.i64.wrap ((n : Int) + 1) = ((n + 1 : Nat) : Int) := by rw [wrap_i64 (by omega)]; omega
        have hlt : 2 - (n + 1) < 2 - n := by omega
        have hB : 0 + (putB v).length ≤ (rowB (putB v)).length := by simp
        conv => cbv
        refine ⟨⟨by simp⟩, ⟨by simp⟩, .ofF (by simp) ?_⟩
        conv => cbv
        refine .ofF (by simp) ?_
        conv => cbv
        refine ⟨⟨by simp⟩, n + 1, hlt, ?_⟩
        conv => cbv
        exact ⟨⟨rfl⟩, ⟨rfl⟩, ⟨rfl⟩, ⟨rfl⟩, ⟨rfl, rfl⟩, ⟨rfl, rfl⟩, ⟨hw1⟩, ⟨rfl⟩, ⟨rfl⟩⟩
      · have h : ¬ (n : Int) < 2 := of_decide_eq_false h
        conv => cbv
        refine ⟨⟨by simp⟩, .ofT (by simp) ?_⟩
        conv => cbv
        refine .ofT (by simp) ?_
        conv => cbv
        refine .ofT (by simp) ?_
        conv => cbv
        refine ⟨⟨by simp⟩, .ofT (by simp) ?_⟩
        conv => cbv
        exact ⟨rfl⟩
end Go.Am
