/- alibikit.Own, alibikit.SameBytes, slices.Equal keep their contracts. -/
import Derived.Test.YtckgeadidjmpcaaAmP1
namespace Go.Am
set_option linter.all false
set_option linter.deprecated false
open Go.Proofs
set_option maxRecDepth 100000
def ownC : Contract := { modes := [.ro], fn := fun args M => match args, M with
  | [.sl _ [.int .u8] xs], [] => some ⟨[fun _ => (xs ()).length ≤ big], .ms 0 (fun _ => 0) (fun _ => (xs ()).length), [(0, some (.row false U8 fun _ => xs ()))]⟩
  | _, _ => none }
theorem own_ok : CSound Try.prog 20 ownC := by
  refine fsound' (G := G0) (c := codeOf Try.f20) mixed tyT (gget_nil _) Try.func20 (by rfl) (by kernel_rfl) (by kernel_rfl) fun args M r hr hvc hw hm => ?_
  unfold ownC at hr
  simp only at hr
  split at hr <;> cases hr
  rename_i nn xs
  obtain ⟨x, rfl⟩ : ∃ x, xs = fun _ => x := ⟨xs (), rfl⟩
  have hb := hvc _ (List.mem_singleton.2 rfl)
  clear hvc hm
  cbv
  exact ⟨⟨hb⟩, ⟨rfl, rfl⟩, ⟨rfl⟩⟩
def sameC : Contract := { modes := [.ro, .ro], fn := fun args M => match args, M with
  | [.sl _ [.int .u8] xs, .sl _ [.int .u8] ys], [] => some ⟨[], .bool (fun _ => bn (xs ()) == bn (ys ())), []⟩
  | _, _ => none }
structure SameI (a b : List Nat) where
  i : Nat
  hi : i ≤ a.length
  h : a.take i = b.take i
theorem ne_len {x y : List (List D)} (h : x.length ≠ y.length) : (bn x == bn y) = false := by
  rw [beq_eq_false_iff_ne]
  intro e
  have := congrArg List.length e
  simp at this
  exact h this
theorem take_next {a b : List Nat} {i : Nat} (ha : i < a.length) (hb : i < b.length) (h : a.take i = b.take i) (he : a.getD i 0 = b.getD i 0) : a.take (i + 1) = b.take (i + 1) := by
  rw [List.take_add_one, List.take_add_one, h]
  simp only [List.getD, List.getElem?_eq_getElem ha, List.getElem?_eq_getElem hb, Option.getD_some] at he
  rw [List.getElem?_eq_getElem ha, List.getElem?_eq_getElem hb, he]
theorem take_all {a b : List Nat} {i : Nat} (h : a.take i = b.take i) (ha : a.length ≤ i) (hb : b.length ≤ i) : a = b := by
  rwa [List.take_of_length_le ha, List.take_of_length_le hb] at h
theorem take_ne {a b : List Nat} {i : Nat} (he : a.getD i 0 ≠ b.getD i 0) : a ≠ b := fun e => he (by rw [e])
theorem same_ok : CSound Try.prog 22 sameC := by
  refine fsound' (G := G0) (c := codeOf Try.f22) mixed tyT (gget_nil _) Try.func22 (by rfl) (by kernel_rfl) (by kernel_rfl) fun args M r hr hvc hw hm => ?_
  unfold sameC at hr
  simp only at hr
  split at hr <;> cases hr
  rename_i xs _ ys
  obtain ⟨x, rfl⟩ : ∃ x, xs = fun _ => x := ⟨xs (), rfl⟩
  obtain ⟨y, rfl⟩ : ∃ x, ys = fun _ => x := ⟨ys (), rfl⟩
  clear hvc hm
  simp only [WfVs, WfV, and_true] at hw
  have hx := hw.1.1
  cbv
  refine Split.mk (fun h => ?_) (fun h => ?_)
  · cbv
    refine ⟨(ne_len fun e => ?_).symm⟩
    simp [e] at h
  · cbv
    have h : (x.length : Int) = y.length := ne_f h
    have hl : x.length = y.length := by omega
    refine LoopP.mk (SameI (bn x) (bn y)) (fun s => ⟨finit 26 [.sl false U8 fun _ => x, .sl false U8 fun _ => y, .un, .un, .bool fun _ => false, .int .i64 fun _ => s.i], [], 16⟩) (fun s => x.length - s.i) ⟨0, by omega, rfl⟩ ?_ ?_
    · cbv
      exact ⟨⟨rfl⟩, ⟨rfl⟩, ⟨rfl⟩, ⟨rfl⟩⟩
    · intro ⟨i, hi, he⟩
      rw [bn_len] at hi
      cbv
      refine Split.mk (fun h => ?_) (fun h => ?_)
      · cbv
        have h : i < x.length := by simp at h; omega
        refine ⟨⟨by simp; omega⟩, ⟨by simp; omega⟩, Split.mk (fun h2 => ?_) (fun h2 => ?_)⟩
        · cbv
          simp only [Int.toNat_natCast, bn_at hw.1 h, bn_at hw.2 (hl ▸ h)] at h2
          refine ⟨?_⟩
          symm
          rw [beq_eq_false_iff_ne]
          show bn x ≠ bn y
          have h2 : (((bn x).getD i 0 : Nat) : Int) ≠ ((bn y).getD i 0 : Nat) := ne_t h2
          exact take_ne (i := i) (by omega)
        · cbv
          simp only [Int.toNat_natCast, bn_at hw.1 h, bn_at hw.2 (hl ▸ h)] at h2
          have h2 : (((bn x).getD i 0 : Nat) : Int) = ((bn y).getD i 0 : Nat) := ne_f h2
          refine ⟨⟨i + 1, by simp; omega, take_next (by simp; omega) (by simp; omega) he (by omega)⟩, by simp only; omega, ?_⟩
          cbv
          refine ⟨⟨rfl⟩, ⟨rfl⟩, ⟨rfl⟩, ⟨?_⟩⟩
          exact wrap_i64 (n := (i : Int) + 1) (by omega)
      · cbv
        have h : ¬ i < x.length := by simp at h; omega
        refine ⟨?_⟩
        symm
        rw [beq_iff_eq]
        exact take_all he (by simp; omega) (by simp; omega)
theorem equal_ok : CSound Try.prog 73 sameC := by
  refine fsound' (G := G0) (c := codeOf Try.f73) mixed tyT (gget_nil _) Try.func73 (by rfl) (by kernel_rfl) (by kernel_rfl) fun args M r hr hvc hw hm => ?_
  unfold sameC at hr
  simp only at hr
  split at hr <;> cases hr
  rename_i xs _ ys
  obtain ⟨x, rfl⟩ : ∃ x, xs = fun _ => x := ⟨xs (), rfl⟩
  obtain ⟨y, rfl⟩ : ∃ x, ys = fun _ => x := ⟨ys (), rfl⟩
  clear hvc hm
  simp only [WfVs, WfV, and_true] at hw
  have hx := hw.1.1
  cbv
  refine Split.mk (fun h => ?_) (fun h => ?_)
  · cbv
    refine ⟨(ne_len fun e => ?_).symm⟩
    simp [e] at h
  · cbv
    have h : (x.length : Int) = y.length := ne_f h
    have hl : x.length = y.length := by omega
    refine LoopP.mk (SameI (bn x) (bn y)) (fun s => ⟨finit 26 [.sl false U8 fun _ => x, .sl false U8 fun _ => y, .un, .un, .bool fun _ => false, .un, .un, .un, .un, .un, .un, .un, .int .i64 fun _ => x.length, .int .i64 fun _ => s.i], [], 16⟩) (fun s => x.length - s.i) ⟨0, by omega, rfl⟩ ?_ ?_
    · cbv
      exact ⟨⟨rfl⟩, ⟨rfl⟩, ⟨rfl⟩, ⟨rfl⟩, ⟨rfl⟩⟩
    · intro ⟨i, hi, he⟩
      rw [bn_len] at hi
      cbv
      refine Split.mk (fun h => ?_) (fun h => ?_)
      · cbv
        have h : i < x.length := by simp at h; omega
        refine ⟨⟨by simp; omega⟩, ⟨by simp; omega⟩, Split.mk (fun h2 => ?_) (fun h2 => ?_)⟩
        · cbv
          simp only [Int.toNat_natCast, bn_at hw.1 h, bn_at hw.2 (hl ▸ h)] at h2
          refine ⟨?_⟩
          symm
          rw [beq_eq_false_iff_ne]
          show bn x ≠ bn y
          have h2 : (((bn x).getD i 0 : Nat) : Int) ≠ ((bn y).getD i 0 : Nat) := ne_t h2
          exact take_ne (i := i) (by omega)
        · cbv
          simp only [Int.toNat_natCast, bn_at hw.1 h, bn_at hw.2 (hl ▸ h)] at h2
          have h2 : (((bn x).getD i 0 : Nat) : Int) = ((bn y).getD i 0 : Nat) := ne_f h2
          refine ⟨⟨i + 1, by simp; omega, take_next (by simp; omega) (by simp; omega) he (by omega)⟩, by simp only; omega, ?_⟩
          cbv
          refine ⟨⟨rfl⟩, ⟨rfl⟩, ⟨rfl⟩, ⟨rfl⟩, ⟨?_⟩⟩
          exact wrap_i64 (n := (i : Int) + 1) (by omega)
      · cbv
        have h : ¬ i < x.length := by simp at h; omega
        refine ⟨?_⟩
        symm
        rw [beq_iff_eq]
        exact take_all he (by simp; omega) (by simp; omega)
end Go.Am
