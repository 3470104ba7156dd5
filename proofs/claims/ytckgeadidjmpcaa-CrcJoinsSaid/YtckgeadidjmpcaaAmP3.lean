/- alibi/varint.Size, the search for the last byte: they keep their contracts. -/
import Derived.Test.YtckgeadidjmpcaaAmP2
namespace Go.Am
set_option linter.all false
set_option linter.deprecated false
open Go.Proofs
set_option maxRecDepth 100000
def lowC : Contract := { modes := [.ro], fn := fun args M => match args, M with
  | [.int .u8 n], [] => some ⟨[], .bool (fun _ => decide (n () < 128)), []⟩
  | _, _ => none }
theorem low_ok : CSound Try.prog 72 lowC := by
  refine fsound' (G := G0) (c := codeOf Try.f72) mixed tyT (gget_nil _) Try.func72 (by rfl) (by kernel_rfl) (by kernel_rfl) fun args M r hr hvc hw hm => ?_
  unfold lowC at hr
  simp only at hr
  split at hr <;> cases hr
  cbv
  exact ⟨rfl⟩
def idx (b : List Nat) : Option Nat := b.findIdx? fun x => decide (x < 128)
def oi : Option Nat → Int
  | some i => i
  | none => -1
def idxC : Contract := { modes := [.ro, .ro], fn := fun args M => match args, M with
  | [.sl _ [.int .u8] xs, .fn 72 []], [] => some ⟨[], .int .i64 (fun _ => oi (idx (bn (xs ())))), []⟩
  | _, _ => none }
def L1 : List (Nat × Contract) := [(72, lowC)]
def G1 : Ctx := fun f => gget L1 f
theorem G1_ok : ∀ f C, G1 f = some C → CSound Try.prog f C := gget_cons low_ok (gget_nil _)
structure IdxI (b : List Nat) where
  i : Nat
  hi : i ≤ b.length
  h : ∀ j, j < i → 128 ≤ b.getD j 0
theorem idx_none {b : List Nat} (h : ∀ j, j < b.length → 128 ≤ b.getD j 0) : idx b = none := by
  rw [idx, List.findIdx?_eq_none_iff]
  intro x hx
  obtain ⟨i, hi, rfl⟩ := List.getElem_of_mem hx
  have := h i hi
  simp [List.getD, hi] at this ⊢
  omega
theorem idx_some {b : List Nat} {i : Nat} (hi : i < b.length) (h : ∀ j, j < i → 128 ≤ b.getD j 0) (hl : b.getD i 0 < 128) : idx b = some i := by
  rw [idx, List.findIdx?_eq_some_iff_getElem]
  refine ⟨hi, ?_, fun j hj => ?_⟩
  · simp [List.getD, hi] at hl ⊢
    exact hl
  · have := h j hj
    have hjl : j < b.length := by omega
    simp [List.getD, hjl] at this ⊢
    omega
theorem idx_ok : CSound Try.prog 71 idxC := by
  refine fsound' (G := G1) (c := codeOf Try.f71) mixed tyT G1_ok Try.func71 (by rfl) (by kernel_rfl) (by kernel_rfl) fun args M r hr hvc hw hm => ?_
  unfold idxC at hr
  simp only at hr
  split at hr <;> cases hr
  rename_i xs
  obtain ⟨x, rfl⟩ : ∃ x, xs = fun _ => x := ⟨xs (), rfl⟩
  clear hvc hm
  simp only [WfVs, WfV, and_true] at hw
  have hx := hw.1
  cbv
  refine LoopP.mk (IdxI (bn x)) (fun s => ⟨finit 19 [.sl false U8 fun _ => x, .fn 72 [], .un, .un, .int .i64 fun _ => 0, .un, .un, .int .i64 fun _ => x.length, .int .i64 fun _ => s.i], [], 16⟩) (fun s => x.length - s.i) ⟨0, by omega, fun _ h => by omega⟩ ?_ ?_
  · cbv
    exact ⟨⟨rfl⟩, ⟨rfl⟩, ⟨rfl⟩, ⟨rfl⟩⟩
  · intro ⟨i, hi, he⟩
    rw [bn_len] at hi
    cbv
    refine Split.mk (fun h => ?_) (fun h => ?_)
    · cbv
      have h : (i : Int) < x.length := of_decide_eq_true h
      have h : i < x.length := by omega
      refine ⟨⟨by simp; omega⟩, Split.mk (fun h2 => ?_) (fun h2 => ?_)⟩
      · cbv
        simp only [Int.toNat_natCast, bn_at hw h] at h2
        have h2 : (((bn x).getD i 0 : Nat) : Int) < 128 := of_decide_eq_true h2
        refine ⟨?_⟩
        show (i : Int) = oi (idx (bn x))
        rw [idx_some (by simpa using h) he (by omega)]
        rfl
      · cbv
        simp only [Int.toNat_natCast, bn_at hw h] at h2
        have h2 : ¬ (((bn x).getD i 0 : Nat) : Int) < 128 := of_decide_eq_false h2
        refine ⟨⟨i + 1, by simp; omega, fun j hj => ?_⟩, by simp only; omega, ?_⟩
        · by_cases hji : j = i
          · subst hji; omega
          · exact he j (by omega)
        · cbv
          refine ⟨⟨rfl⟩, ⟨rfl⟩, ⟨rfl⟩, ⟨?_⟩⟩
          exact wrap_i64 (n := (i : Int) + 1) (by omega)
    · cbv
      have h : ¬ (i : Int) < x.length := of_decide_eq_false h
      refine ⟨?_⟩
      show (-1 : Int) = oi (idx (bn x))
      rw [idx_none fun j hj => he j (by simp at hj; omega)]
      rfl
def sizeC : Contract := { modes := [.ro], fn := fun args M => match args, M with
  | [.int .u64 v], [] => some ⟨[], .int .i64 (fun _ => ((putB (v ()).toNat).length : Int)), []⟩
  | _, _ => none }
structure SzI (v : Nat) where
  n : Nat
  u : Nat
  f : Nat
  h : n + (put1 f u).length = (put1 9 v).length + 1
  hu : u < 128 ^ (f + 1)
  hf : n + f = 10
theorem size_ok : CSound Try.prog 24 sizeC := by
  refine fsound' (G := G0) (c := codeOf Try.f24) mixed tyT (gget_nil _) Try.func24 (by rfl) (by kernel_rfl) (by kernel_rfl) fun args M r hr hvc hw hm => ?_
  unfold sizeC at hr
  simp only at hr
  split at hr <;> cases hr
  rename_i v
  obtain ⟨n, rfl⟩ : ∃ n, v = fun _ => n := ⟨v (), rfl⟩
  clear hvc hm
  simp only [WfVs, WfV, and_true, u64_iff] at hw
  obtain ⟨n, rfl⟩ := Int.eq_ofNat_of_zero_le hw.1
  have hn : n < 18446744073709551616 := by omega
  cbv
  refine LoopP.mk (SzI n) (fun x => ⟨finit 11 [.int .u64 fun _ => x.u, .un, .un, .int .i64 fun _ => x.n], [], 16⟩) (fun x => x.u) ⟨1, n, 9, Nat.add_comm _ _, by omega, rfl⟩ ?_ ?_
  · cbv
    exact ⟨⟨rfl⟩, ⟨rfl⟩⟩
  · intro ⟨k, u, f, h1, hu, hf⟩
    cbv
    refine Split.mk (fun h => ?_) (fun h => ?_)
    · cbv
      have h : (128 : Int) ≤ u := of_decide_eq_true h
      cases f with
      | zero => omega
      | succ f =>
      rw [put1, if_neg (by omega)] at h1
      rw [Nat.pow_succ] at hu
      refine ⟨⟨by decide⟩, ⟨k + 1, u / 128, f, ?_, by omega, by omega⟩, by simp only; omega, ?_⟩
      · simp at h1 ⊢; omega
      · cbv
        refine ⟨⟨shr7 u⟩, ⟨?_⟩⟩
        exact wrap_i64 (n := (k : Int) + 1) (by omega)
    · cbv
      have h : ¬ (128 : Int) ≤ u := of_decide_eq_false h
      have e : (put1 f u).length = 1 := by
        cases f with
        | zero => rfl
        | succ f => rw [put1, if_pos (by omega)]; rfl
      refine ⟨?_⟩
      show (k : Int) = ((putB n).length : Int)
      rw [putB]; omega
end Go.Am
