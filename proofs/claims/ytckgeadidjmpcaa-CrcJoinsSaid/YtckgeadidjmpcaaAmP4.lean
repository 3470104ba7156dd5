/- alibi/varint.Get keeps its contract. -/
import Derived.Test.YtckgeadidjmpcaaAmP3
namespace Go.Am
set_option linter.all false
set_option linter.deprecated false
open Go.Proofs
set_option maxRecDepth 100000
set_option maxHeartbeats 4000000
/-- the number that seven bits a byte make, the last byte the highest -/
def valN : List Nat → Nat
  | [] => 0
  | x :: xs => valN xs * 128 % 18446744073709551616 + x % 128
def getS (b : List Nat) (at_ : Int) : Nat × Int × Int :=
  if at_ < 0 ∨ (b.length : Int) < at_ then (0, 0, 2) else
  let c := (b.drop at_.toNat).take 10
  match idx c with
  | none => if c.length = 10 then (0, 0, 10) else (0, 0, 4)
  | some n =>
    let v := valN (c.take (n + 1))
    if putB v = c.take (n + 1) then (v, at_ + n + 1, 0) else (0, 0, 10)
def getC : Contract := { modes := [.ro, .ro], fn := fun args M => match args, M with
  | [.sl _ [.int .u8] xs, .int .i64 a], [] => some ⟨[], .tup [.int .u64 (fun _ => ((getS (bn (xs ())) (a ())).1 : Int)), .int .i64 (fun _ => (getS (bn (xs ())) (a ())).2.1), .int .i64 (fun _ => (getS (bn (xs ())) (a ())).2.2)], []⟩
  | _, _ => none }
def L2 : List (Nat × Contract) := [(19, putC), (71, idxC), (73, sameC)]
def G2 : Ctx := fun f => gget L2 f
theorem G2_ok : ∀ f C, G2 f = some C → CSound Try.prog f C := gget_cons put_ok (gget_cons idx_ok (gget_cons equal_ok (gget_nil _)))
theorem valN_lt : ∀ (b : List Nat), valN b < 18446744073709551616
  | [] => by simp [valN]
  | x :: xs => by simp only [valN]; omega
theorem idx_lt {b : List Nat} {n : Nat} (h : idx b = some n) : n < b.length := by
  rw [idx, List.findIdx?_eq_some_iff_getElem] at h
  exact h.1
theorem and127 (b : Nat) (h : b < 256) : ibits .and .u8 (b : Int) 127 = ((b % 128 : Nat) : Int) := by
  simp only [ibits, wrap_u8_mod, IntKind.bits]
  have : ∀ x : Nat, x < 256 → ((BitVec.ofInt 8 (x : Int) &&& BitVec.ofInt 8 127).toNat : Int) % 256 = ((x % 128 : Nat) : Int) := by decide
  exact this b h
theorem or64 (q r : Nat) (h : 128 * q < 18446744073709551616) (hr : r < 128) : ibits .or .u64 ((128 * q : Nat) : Int) (r : Int) = ((128 * q + r : Nat) : Int) := by
  simp only [ibits, wrap_u64_mod, IntKind.bits]
  have e : (BitVec.ofInt 64 ((128 * q : Nat) : Int) ||| BitVec.ofInt 64 (r : Int)).toNat = 128 * q + r := by
    rw [BitVec.toNat_or, BitVec.toNat_ofInt, BitVec.toNat_ofInt]
    have e1 : (((128 * q : Nat) : Int) % (2 ^ 64 : Nat)).toNat = 128 * q := by omega
    have e2 : ((r : Int) % (2 ^ 64 : Nat)).toNat = r := by omega
    rw [e1, e2]
    exact (Nat.two_pow_add_eq_or_of_lt (i := 7) hr q).symm
  show ((BitVec.ofInt 64 ((128 * q : Nat) : Int) ||| BitVec.ofInt 64 (r : Int)).toNat : Int) % _ = _
  rw [e]
  omega
theorem step7 (v b : Nat) (hv : v < 18446744073709551616) (hb : b < 256) :
    ibits .or .u64 (ishl .u64 (v : Int) 7) (IntKind.u64.wrap (ibits .and .u8 (b : Int) 127)) = ((v * 128 % 18446744073709551616 + b % 128 : Nat) : Int) := by
  rw [and127 b hb]
  have e1 : ishl .u64 (v : Int) 7 = ((128 * (v % 144115188075855872) : Nat) : Int) := by
    simp only [ishl, wrap_u64_mod, IntKind.bits]
    have : min (Int.toNat 7) 64 = 7 := by decide
    rw [this]
    omega
  rw [e1, wrap_u64 (by omega), or64 _ _ (by omega) (by omega)]
  omega
structure GetI (c : List Nat) (n : Nat) where
  i : Nat      -- one more than the index
  v : Nat
  hi : i ≤ n + 1
  h : v = valN ((c.take (n + 1)).drop i)
theorem get_ok : CSound Try.prog 21 getC := by
  refine fsound' (G := G2) (c := codeOf Try.f21) mixed tyT G2_ok Try.func21 (by rfl) (by kernel_rfl) (by kernel_rfl) fun args M r hr hvc hw hm => ?_
  unfold getC at hr
  simp only at hr
  split at hr <;> cases hr
  rename_i xs a
  obtain ⟨x, rfl⟩ : ∃ x, xs = fun _ => x := ⟨xs (), rfl⟩
  obtain ⟨a, rfl⟩ : ∃ x, a = fun _ => x := ⟨a (), rfl⟩
  clear hvc hm
  simp only [WfVs, WfV, and_true, i64_iff] at hw
  have hx := hw.1.1
  obtain ⟨c, hc⟩ : ∃ c, c = (x.drop a.toNat).take 10 := ⟨_, rfl⟩
  cbv
  refine Split.mk (fun h => ?_) (fun h => ?_)
  · have h : a < 0 := of_decide_eq_true h
    cbv
    refine .yes ?_
    cbv
    have e : getS (bn x) a = (0, 0, 2) := by rw [getS, if_pos (.inl h)]
    simp only [Hold.iff, e]
    decide
  · have h : ¬ a < 0 := of_decide_eq_false h
    cbv
    refine Split.mk (fun h2 => ?_) (fun h2 => ?_)
    · have h2 : (x.length : Int) < a := of_decide_eq_true h2
      cbv
      have e : getS (bn x) a = (0, 0, 2) := by rw [getS, if_pos (.inr (by simpa using h2))]
      simp only [Hold.iff, e]
      decide
    · have h2 : ¬ (x.length : Int) < a := of_decide_eq_false h2
      have hH : min (x.length : Int) (IntKind.i64.wrap (a + min 10 (IntKind.i64.wrap (x.length - a)))) = a + min 10 (x.length - a) := by
        rw [wrap_i64 (n := (x.length : Int) - a) (by omega), wrap_i64 (by omega)]
        omega
      have hE : List.take ((min (x.length : Int) (IntKind.i64.wrap (a + min 10 (IntKind.i64.wrap (x.length - a))))).toNat - a.toNat) (List.drop a.toNat x) = (x.drop a.toNat).take 10 := by
        rw [hH, List.take_eq_take_iff]
        simp
        omega
      rw [← hc] at hE
      have hwc : WfR U8 c := by rw [hc]; exact (hw.1.drop _).take _
      have hcl : c.length = min 10 (x.length - a.toNat) := by rw [hc]; simp
      have hS : getS (bn x) a = (match idx (bn c) with
        | none => if c.length = 10 then (0, 0, 10) else (0, 0, 4)
        | some n => if putB (valN ((bn c).take (n + 1))) = (bn c).take (n + 1) then (valN ((bn c).take (n + 1)), a + n + 1, 0) else (0, 0, 10)) := by
        rw [getS, if_neg (by simp; omega), hc, bn_take, bn_drop]
        simp
      clear hc
      have hB : 0 ≤ a ∧ a ≤ min (x.length : Int) (IntKind.i64.wrap (a + min 10 (IntKind.i64.wrap (x.length - a)))) ∧ min (x.length : Int) (IntKind.i64.wrap (a + min 10 (IntKind.i64.wrap (x.length - a)))) ≤ min (x.length : Int) (IntKind.i64.wrap (a + min 10 (IntKind.i64.wrap (x.length - a)))) ∧ min (x.length : Int) (IntKind.i64.wrap (a + min 10 (IntKind.i64.wrap (x.length - a)))) ≤ x.length := by
        rw [hH]
        omega
      cbv
      refine ⟨⟨hB⟩, ?_⟩
      · cases hid : idx (bn c) with
        | none =>
          rw [hid] at hS
          refine Split.mk (fun h3 => ?_) (fun h3 => ?_)
          · cbv
            refine Split.mk (fun h4 => ?_) (fun h4 => ?_)
            · have h4 := eq_t h4
              simp only [hE] at h4
              have h4 : (c.length : Int) = 10 := h4
              simp only [if_pos (show c.length = 10 by omega)] at hS
              cbv
              simp only [Hold.iff, hS]
              decide
            · have h4 := eq_f h4
              simp only [hE] at h4
              have h4 : (c.length : Int) ≠ 10 := h4
              simp only [if_neg (show c.length ≠ 10 by omega)] at hS
              cbv
              refine Split.mk (fun h5 => ?_) (fun h5 => ?_)
              · cbv
                simp only [Hold.iff, hS]
                decide
              · have h5 := of_decide_eq_false h5
                simp only [hE, hid, oi] at h5
                exfalso
                omega
          · have h3 := of_decide_eq_false h3
            simp only [hE, hid, oi] at h3
            exfalso
            omega
        | some n =>
          rw [hid] at hS
          refine Split.mk (fun h3 => ?_) (fun h3 => ?_)
          · have h3 := of_decide_eq_true h3
            simp only [hE, hid, oi] at h3
            exfalso
            omega
          · cbv
            refine .no ?_
            cbv
            refine Split.mk (fun h5 => ?_) (fun h5 => ?_)
            · have h5 := of_decide_eq_true h5
              simp only [hE, hid, oi] at h5
              exfalso
              omega
            · cbv
              refine LoopP.mk (GetI (bn c) n) (fun s => ⟨finit 70 [.sl false U8 fun _ => c, .int .i64 fun _ => a, .un, .un, .int .u64 fun _ => s.v, .int .i64 fun _ => 0, .int .i64 fun _ => 0, .int .i64 fun _ => n, .int .i64 fun _ => (s.i : Int) - 1], [], 80⟩) (fun s => s.i) ⟨n + 1, 0, Nat.le_refl _, ?_⟩ ?_ ?_
              · simp [valN]
              · cbv
                simp only [Hold.iff, hE, hid, oi]
                exact ⟨trivial, trivial, rfl, trivial, trivial, trivial, by simp⟩
              · intro ⟨i, v, hi, hv⟩
                have hnl : n < (bn c).length := (idx_lt hid)
                have hv64 : v < 18446744073709551616 := by rw [hv]; exact valN_lt _
                cbv
                refine Split.mk (fun h6 => ?_) (fun h6 => ?_)
                · have h6 : (0 : Int) ≤ (i : Int) - 1 := of_decide_eq_true h6
                  obtain ⟨j, rfl⟩ : ∃ j, i = j + 1 := ⟨i - 1, by omega⟩
                  have hjc : j < c.length := by simp at hnl; omega
                  have hb256 : (bn c).getD j 0 < 256 := bn_lt hwc _ (by simp [List.getD, hjc])
                  have hidx : 0 ≤ ((j + 1 : Nat) : Int) - 1 ∧ ((j + 1 : Nat) : Int) - 1 < (c.length : Int) := by omega
                  have hj1 : (((j + 1 : Nat) : Int) - 1).toNat = j := by omega
                  have hval : valN (((bn c).take (n + 1)).drop j) = v * 128 % 18446744073709551616 + (bn c).getD j 0 % 128 := by
                    have hlt : j < ((bn c).take (n + 1)).length := by simp; omega
                    rw [List.drop_eq_getElem_cons hlt, valN, ← hv]
                    simp [List.getD, hjc]
                  have hw1 : IntKind.i64.wrap (((j + 1 : Nat) : Int) - 1 - 1) = (j : Int) - 1 := by rw [wrap_i64 (by omega)]; omega
                  have hstep := step7 v _ hv64 hb256
                  have hn1 : j ≤ n + 1 := by omega
                  have hlt : j < j + 1 := by omega
                  have h7 : (0 : Int) ≤ 7 := by decide
                  cbv
                  refine ⟨⟨h7⟩, ⟨hidx⟩, ⟨j, _, hn1, hval.symm⟩, hlt, ?_⟩
                  cbv
                  refine ⟨⟨rfl⟩, ⟨rfl⟩, ⟨?_⟩, ⟨rfl⟩, ⟨rfl⟩, ⟨rfl⟩, ⟨hw1⟩⟩
                  simp only [hj1, bn_at hwc hjc]
                  exact hstep
                · have h6 : ¬ (0 : Int) ≤ (i : Int) - 1 := of_decide_eq_false h6
                  obtain rfl : i = 0 := by omega
                  have hnl' : n < c.length := by simpa using hnl
                  have hw1 : IntKind.i64.wrap ((n : Int) + 1) = n + 1 := wrap_i64 (by omega)
                  have hB : (0 : Int) ≤ 0 ∧ (0 : Int) ≤ IntKind.i64.wrap ((n : Int) + 1) ∧ IntKind.i64.wrap ((n : Int) + 1) ≤ IntKind.i64.wrap ((n : Int) + 1) ∧ IntKind.i64.wrap ((n : Int) + 1) ≤ (c.length : Int) := by rw [hw1]; omega
                  have hv0 : v = valN ((bn c).take (n + 1)) := by simpa using hv
                  have hpl : 0 + (putB ((v : Int)).toNat).length ≤ (rowB (putB ((v : Int)).toNat)).length := by simp
                  have hD : bn (List.take (putB ((v : Int)).toNat).length (List.drop 0 (rowB (putB ((v : Int)).toNat)))) = putB v := by simp
                  have hF : bn (List.take ((IntKind.i64.wrap ((n : Int) + 1)).toNat - Int.toNat 0) (List.drop (Int.toNat 0) c)) = (bn c).take (n + 1) := by
                    rw [hw1, bn_take, bn_drop]
                    simp
                  have hs1 : IntKind.i64.wrap (IntKind.i64.wrap (a + n) + 1) = a + n + 1 := by rw [wrap_i64 (n := a + n) (by omega), wrap_i64 (by omega)]
                  simp only [← hv0] at hS
                  cbv
                  refine ⟨⟨hB⟩, ⟨hpl⟩, Split.mk (fun h8 => ?_) (fun h8 => ?_)⟩
                  · simp only [hD, hF] at h8
                    have h8 : putB v ≠ (bn c).take (n + 1) := by simpa using h8
                    rw [if_neg h8] at hS
                    cbv
                    simp only [Hold.iff, hS]
                    decide
                  · simp only [hD, hF] at h8
                    have h8 : putB v = (bn c).take (n + 1) := by simpa using h8
                    rw [if_pos h8] at hS
                    cbv
                    simp only [Hold.iff, hS]
                    exact ⟨trivial, hs1, trivial⟩
end Go.Am
