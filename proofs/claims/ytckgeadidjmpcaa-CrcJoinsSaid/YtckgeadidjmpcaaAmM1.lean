/- The numbers in few bytes: plain laws. -/
import Derived.Test.YtckgeadidjmpcaaAmP4
namespace Go.Am
set_option linter.all false
set_option linter.deprecated false
theorem put1_len : ∀ (f v : Nat), 1 ≤ (put1 f v).length ∧ (put1 f v).length ≤ f + 1
  | 0, _ => by simp [put1]
  | f + 1, v => by
    rw [put1]
    split
    · simp
    · have := put1_len f (v / 128)
      simp; omega
theorem put1_val : ∀ (f v : Nat), v < 18446744073709551616 → v < 128 ^ (f + 1) → valN (put1 f v) = v
  | 0, v, h, h2 => by simp [put1, valN]; omega
  | f + 1, v, h, h2 => by
    rw [put1]
    split
    · simp [valN]; omega
    · rw [Nat.pow_succ] at h2
      rw [valN, put1_val f (v / 128) (by omega) (by omega)]
      omega
theorem put1_idx : ∀ (f v : Nat) (C : List Nat), v < 128 ^ (f + 1) → idx (put1 f v ++ C) = some ((put1 f v).length - 1)
  | 0, v, C, h => by
    have h : v < 128 := by omega
    simp [put1, idx, List.findIdx?_cons, h]
  | f + 1, v, C, h => by
    rw [put1]
    split
    · rename_i hv
      simp [idx, List.findIdx?_cons, hv]
    · rw [Nat.pow_succ] at h
      have ih := put1_idx f (v / 128) C (by omega)
      have hl := (put1_len f (v / 128)).1
      simp only [idx] at ih
      rename_i hv
      simp only [idx, List.cons_append, List.findIdx?_cons, ih]
      rw [if_neg (by simp)]
      simp only [Option.map_some, List.length_cons, Option.some.injEq]
      omega
theorem put1_pre : ∀ (f v u : Nat), v < 128 ^ (f + 1) → u < 128 ^ (f + 1) → (put1 f v).take (min (put1 f v).length (put1 f u).length) = (put1 f u).take (min (put1 f v).length (put1 f u).length) → v = u
  | 0, v, u, _, _, h => by simpa [put1] using h
  | f + 1, v, u, h1, h2, h => by
    have lv := put1_len f (v / 128)
    have lu := put1_len f (u / 128)
    rw [Nat.pow_succ] at h1 h2
    simp only [put1] at h
    split at h <;> split at h
    · simpa using h
    · rename_i a b
      simp [Nat.min_eq_left (show 1 ≤ (put1 f (u / 128)).length + 1 by omega)] at h
      omega
    · rename_i a b
      simp [Nat.min_eq_right (show 1 ≤ (put1 f (v / 128)).length + 1 by omega)] at h
      omega
    · simp only [List.length_cons, Nat.add_min_add_right, List.take_succ_cons, List.cons.injEq] at h
      have := put1_pre f (v / 128) (u / 128) (by omega) (by omega) h.2
      omega
theorem put1_mono : ∀ (f v u : Nat), v ≤ u → (put1 f v).length ≤ (put1 f u).length
  | 0, _, _, _ => by simp [put1]
  | f + 1, v, u, h => by
    have lu := put1_len f (u / 128)
    simp only [put1]
    split <;> split
    · simp
    · simp
    · omega
    · have := put1_mono f (v / 128) (u / 128) (by omega)
      simpa using this
theorem getS_put {v : Nat} (hv : v < 18446744073709551616) (B C : List Nat) : getS (B ++ putB v ++ C) (B.length : Int) = (v, (B.length : Int) + (putB v).length, 0) := by
  have hl := put1_len 9 v
  have hp : v < 128 ^ (9 + 1) := by omega
  have hd : ((B ++ putB v ++ C).drop B.length).take 10 = putB v ++ C.take (10 - (putB v).length) := by
    rw [List.append_assoc, List.drop_left, List.take_append, List.take_of_length_le (by simpa [putB] using hl.2)]
  rw [getS, if_neg (by simp; omega)]
  simp only [Int.toNat_natCast, hd]
  have hi : idx (putB v ++ C.take (10 - (putB v).length)) = some ((putB v).length - 1) := put1_idx 9 v _ hp
  rw [hi]
  have e1 : (putB v).length - 1 + 1 = (putB v).length := by simp only [putB]; omega
  simp only [e1, List.take_left]
  have e2 : valN (putB v) = v := put1_val 9 v hv hp
  rw [e2, if_pos rfl]
  have e3 : (B.length : Int) + ((putB v).length - 1 : Nat) + 1 = (B.length : Int) + (putB v).length := by omega
  rw [e3]
theorem getS_ok {C : List Nat} {a : Int} (h : (getS C a).2.2 = 0) : 0 ≤ a ∧ ∃ n : Nat, a.toNat + n ≤ C.length ∧ (getS C a).2.1 = a + n ∧ putB (getS C a).1 = (C.drop a.toNat).take n := by
  rw [getS] at h ⊢
  split at h
  · simp at h
  · rename_i hc
    simp only [hc, if_false]
    simp only at h ⊢
    split at h
    · split at h <;> simp at h
    · rename_i n hn
      split at h
      · rename_i hp
        have hlt := idx_lt hn
        simp only [List.length_take, List.length_drop] at hlt
        rw [if_pos hp]
        refine ⟨by omega, n + 1, by omega, by simp; omega, ?_⟩
        simp only
        rw [hp, List.take_take, Nat.min_eq_left (by omega)]
      · simp at h
theorem getS_lt (C : List Nat) (a : Int) : (getS C a).1 < 18446744073709551616 := by
  rw [getS]
  split
  · simp
  · simp only
    split
    · split <;> simp
    · split
      · exact valN_lt _
      · simp
theorem same_pre {v u : Nat} (hv : v < 18446744073709551616) (hu : u < 18446744073709551616) :
    ((putB v).take (min (putB v).length (putB u).length) == (putB u).take (min (putB v).length (putB u).length)) = (v == u) := by
  by_cases h : v = u
  · subst h; simp
  · rw [(beq_eq_false_iff_ne).2 h, beq_eq_false_iff_ne]
    exact fun e => h (put1_pre 9 v u (by omega) (by omega) e)
end Go.Am
