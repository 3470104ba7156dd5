/- alibilaw01.VarintBack keeps its contract: it returns true. -/
import Derived.Test.YtckgeadidjmpcaaAmP5
import Derived.Test.YtckgeadidjmpcaaAmM1
namespace Go.Am
set_option linter.all false
set_option linter.deprecated false
open Go.Proofs
set_option maxRecDepth 100000
set_option maxHeartbeats 4000000
def backC : Contract := { modes := [], fn := fun args M => match args, M with
  | [.int .u64 _, .int .u64 _, .sl _ [.int .u8] _, .sl _ [.int .u8] _], [] => some ⟨[], .bool (fun _ => true), []⟩
  | _, _ => none }
def L4 : List (Nat × Contract) := [(18, trueC), (19, putC), (20, ownC), (21, getC), (22, sameC)]
def G4 : Ctx := fun f => gget L4 f
theorem G4_ok : ∀ f C, G4 f = some C → CSound Try.prog f C := gget_cons works_ok (gget_cons put_ok (gget_cons own_ok (gget_cons get_ok (gget_cons same_ok (gget_nil _)))))
theorem back_ok : CSound Try.prog 3 backC := by
  refine fsound' (G := G4) (c := codeOf Try.f3) mixed tyT G4_ok Try.func3 (by rfl) (by kernel_rfl) (by kernel_rfl) fun args M r hr hvc hw hm => ?_
  unfold backC at hr
  simp only at hr
  split at hr <;> cases hr
  rename_i v u _ b _ c
  obtain ⟨b, rfl⟩ : ∃ x, b = fun _ => x := ⟨b (), rfl⟩
  obtain ⟨c, rfl⟩ : ∃ x, c = fun _ => x := ⟨c (), rfl⟩
  obtain ⟨v, rfl⟩ : ∃ x, v = fun _ => x := ⟨v (), rfl⟩
  obtain ⟨u, rfl⟩ : ∃ x, u = fun _ => x := ⟨u (), rfl⟩
  clear hvc hm
  simp only [WfVs, WfV, and_true, u64_iff] at hw
  obtain ⟨hv, hu, hb, hc⟩ := hw
  obtain ⟨v, rfl⟩ := Int.eq_ofNat_of_zero_le hv.1
  obtain ⟨u, rfl⟩ := Int.eq_ofNat_of_zero_le hu.1
  have lv := put1_len 9 v
  have lu := put1_len 9 u
  rw [← putB] at lv lu
  have hG : getS (bn b ++ (putB v ++ bn c)) (b.length : Int) = (v, (b.length : Int) + (putB v).length, 0) := by
    have := getS_put (v := v) (by omega) (bn b) (bn c)
    simpa using this
  have hmin : (min ((putB v).length : Int) ((putB u).length : Int)).toNat = min (putB v).length (putB u).length := by omega
  have hB1 : (0 : Int) ≤ 0 ∧ (0 : Int) ≤ min ((putB v).length : Int) ((putB u).length : Int) ∧ min ((putB v).length : Int) ((putB u).length : Int) ≤ min ((putB v).length : Int) ((putB u).length : Int) ∧ min ((putB v).length : Int) ((putB u).length : Int) ≤ ((putB v).length : Int) := by omega
  have hB2 : (0 : Int) ≤ 0 ∧ (0 : Int) ≤ min ((putB v).length : Int) ((putB u).length : Int) ∧ min ((putB v).length : Int) ((putB u).length : Int) ≤ min ((putB v).length : Int) ((putB u).length : Int) ∧ min ((putB v).length : Int) ((putB u).length : Int) ≤ ((putB u).length : Int) := by omega
  have hB3 : 0 + Int.toNat 0 + ((min ((putB v).length : Int) ((putB u).length : Int)).toNat - Int.toNat 0) ≤ (rowB (putB v)).length := by rw [hmin]; simp; omega
  have hB4 : 0 + Int.toNat 0 + ((min ((putB v).length : Int) ((putB u).length : Int)).toNat - Int.toNat 0) ≤ (rowB (putB u)).length := by rw [hmin]; simp; omega
  have hsame := same_pre (v := v) (u := u) (by omega) (by omega)
  have hvu : ((v : Int) == (u : Int)) = (v == u) := by rw [Bool.eq_iff_iff]; simp; omega
  have hmono : (v : Int) ≤ (u : Int) → ¬ ((putB v).length : Int) > ((putB u).length : Int) := fun h => by
    have := put1_mono 9 v u (by omega)
    simp only [putB]
    omega
  have hk1 : (getS (bn c) 0).2.2 = 0 → ¬ ((c.length : Int) < (getS (bn c) 0).2.1) := fun h => by
    obtain ⟨_, n, k1, k2, _⟩ := getS_ok (C := bn c) (a := 0) h
    simp at k1
    omega
  have hk2 : (getS (bn c) 0).2.2 = 0 → ((0 : Int) ≤ 0 ∧ (0 : Int) ≤ (getS (bn c) 0).2.1 ∧ (getS (bn c) 0).2.1 ≤ (getS (bn c) 0).2.1 ∧ (getS (bn c) 0).2.1 ≤ (c.length : Int)) := fun h => by
    obtain ⟨_, n, k1, k2, _⟩ := getS_ok (C := bn c) (a := 0) h
    simp at k1
    omega
  have hk5 : ∀ m, List.take (min m c.length) (List.take m (bn c)) = List.take m (bn c) := fun m => List.take_of_length_le (by simp)
  have hk4 : (getS (bn c) 0).2.2 = 0 → putB (getS (bn c) 0).1 = (bn c).take ((getS (bn c) 0).2.1).toNat := fun h => by
    obtain ⟨_, n, k1, k2, k3⟩ := getS_ok (C := bn c) (a := 0) h
    rw [k3, k2]
    simp
  cbv
  refine Split.mk (fun h => ?_) (fun h => ?_)
  · cbv
    refine .yes ?_
    cbv
    exact ⟨rfl⟩
  · have h1 : ¬ (100 : Int) < b.length := of_decide_eq_false h
    have h1 : b.length ≤ 100 := by omega
    cbv
    refine Split.mk (fun h => ?_) (fun h => ?_)
    · cbv
      exact ⟨rfl⟩
    · have h2 : ¬ (100 : Int) < c.length := of_decide_eq_false h
      have h2 : c.length ≤ 100 := by omega
      cbv
      have hw1 : IntKind.i64.wrap ((b.length : Int) + ((putB v).length : Int)) = (b.length : Int) + ((putB v).length : Int) := wrap_i64 (by omega)
      clear hb
      have f1 : b.length + (putB v).length ≤ 1099511627776 := by omega
      have f2 : b.length + (putB v).length + c.length ≤ 1099511627776 := by omega
      have f3 : (1 : Int) ≤ ((putB v).length : Int) := by omega
      have f4 : ((putB v).length : Int) ≤ 10 := by omega
      have hT1 : List.take (b.length + (putB v).length) (b ++ rowB (putB v)) = b ++ rowB (putB v) := List.take_of_length_le (by simp)
      have hT2 : List.take (b.length + (putB v).length + c.length) (b ++ (rowB (putB v) ++ c)) = b ++ (rowB (putB v) ++ c) := List.take_of_length_le (by simp; omega)
      refine ⟨⟨by simp [big]; omega⟩, ⟨rfl⟩, ⟨by simp⟩, ⟨by simp [big]; exact f1⟩, ⟨by simp⟩, ⟨rfl⟩, ⟨by simp⟩, ⟨by simp [big]; exact f2⟩, ⟨by simp⟩, ?_⟩
      refine .ofF (by simp [bn_append, hG, hT1, hT2]) ?_
      cbv
      refine .ofF (by simp [bn_append, hG, hT1, hT2, hw1]) ?_
      cbv
      refine .ofF (by simp [bn_append, hG, hT1, hT2]) ?_
      cbv
      refine .ofF (by simp; exact f3) ?_
      cbv
      refine .ofF (by simp; exact f4) ?_
      cbv
      refine ⟨⟨hB1⟩, ⟨hB2⟩, ⟨hB3⟩, ⟨hB4⟩, ?_⟩
      refine .ofF (by simp [hmin, bn_take, hsame, hvu]) ?_
      cbv
      refine Split.mk (fun h => ?_) (fun h => ?_)
      · have h := hmono (of_decide_eq_true h)
        cbv
        refine .ofF (decide_eq_false h) ?_
        cbv
        refine Split.mk (fun h => ?_) (fun h => ?_)
        · have h := eq_t h
          cbv
          refine .ofF (decide_eq_false (hk1 h)) ?_
          cbv
          refine ⟨⟨hk2 h⟩, ⟨by simp⟩, ?_⟩
          refine .ofF (by simp [bn_take, hk4 h, hk5]) ?_
          cbv
          exact ⟨rfl⟩
        · cbv
          refine .no ?_
          cbv
          exact ⟨rfl⟩
      · cbv
        refine .no ?_
        cbv
        refine Split.mk (fun h => ?_) (fun h => ?_)
        · have h := eq_t h
          cbv
          refine .ofF (decide_eq_false (hk1 h)) ?_
          cbv
          refine ⟨⟨hk2 h⟩, ⟨by simp⟩, ?_⟩
          refine .ofF (by simp [bn_take, hk4 h, hk5]) ?_
          cbv
          exact ⟨rfl⟩
        · cbv
          refine .no ?_
          cbv
          exact ⟨rfl⟩
end Go.Am
