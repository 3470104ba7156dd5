/- The check of bytes: what it is, and how the machine's numbers reckon it. -/
import Derived.Test.YtckgeadidjmpcaaAmLib
namespace Go.Am
set_option linter.all false
set_option linter.deprecated false
abbrev B32 := BitVec 32
def cpoly : B32 := 3988292384#32
def csh (r : B32) : B32 := (r >>> 1) ^^^ (cpoly &&& -(r &&& 1#32))
def citer : Nat → B32 → B32
  | 0, r => r
  | n + 1, r => citer n (csh r)
def cbyte (s : B32) (c : Nat) : B32 := ~~~ (citer 8 (~~~ s ^^^ BitVec.ofNat 32 c))
def crcs (s : B32) (bs : List Nat) : B32 := bs.foldl cbyte s
theorem wrap_u32_nat (n : Nat) (h : n < 4294967296) : IntKind.u32.wrap (n : Int) = n := by rw [wrap_u32_mod]; omega
theorem ofInt_toNat (a : B32) : BitVec.ofInt 32 ((a.toNat : Nat) : Int) = a := by
  apply BitVec.eq_of_toNat_eq
  rw [BitVec.toNat_ofInt]
  have := a.isLt
  omega
theorem ib_xor (a b : B32) : ibits .xor .u32 (a.toNat : Int) (b.toNat : Int) = ((a ^^^ b).toNat : Int) := by
  show IntKind.u32.wrap (((BitVec.ofInt 32 (a.toNat : Int) ^^^ BitVec.ofInt 32 (b.toNat : Int) : B32).toNat : Nat) : Int) = _
  rw [ofInt_toNat, ofInt_toNat, wrap_u32_nat _ (a ^^^ b).isLt]
theorem ib_and (a b : B32) : ibits .and .u32 (a.toNat : Int) (b.toNat : Int) = ((a &&& b).toNat : Int) := by
  show IntKind.u32.wrap (((BitVec.ofInt 32 (a.toNat : Int) &&& BitVec.ofInt 32 (b.toNat : Int) : B32).toNat : Nat) : Int) = _
  rw [ofInt_toNat, ofInt_toNat, wrap_u32_nat _ (a &&& b).isLt]
theorem ib_not (a : B32) : ibits .xor .u32 (if IntKind.u32.signed then -1 else IntKind.u32.max) (a.toNat : Int) = ((~~~ a).toNat : Int) := by
  have e : (if IntKind.u32.signed then -1 else IntKind.u32.max) = (((BitVec.allOnes 32 : B32).toNat : Nat) : Int) := by decide
  rw [e, ib_xor, BitVec.allOnes_xor]
theorem ib_neg (a : B32) : IntKind.u32.wrap (0 - (a.toNat : Int)) = ((-a).toNat : Int) := by
  rw [wrap_u32_mod, BitVec.toNat_neg]
  have := a.isLt
  omega
theorem ib_shr (a : B32) : ishr .u32 (a.toNat : Int) 1 = ((a >>> 1).toNat : Int) := by
  simp [ishr, IntKind.bits, BitVec.toNat_ushiftRight, Nat.shiftRight_eq_div_pow, Int.fdiv_eq_ediv_of_nonneg]
theorem step32 (r : B32) : ibits .xor .u32 (ishr .u32 (r.toNat : Int) 1) (ibits .and .u32 3988292384 (IntKind.u32.wrap (0 - ibits .and .u32 (r.toNat : Int) 1))) = ((csh r).toNat : Int) := by
  have e1 : (1 : Int) = (((1#32 : B32).toNat : Nat) : Int) := by decide
  have e2 : (3988292384 : Int) = ((cpoly.toNat : Nat) : Int) := by decide
  have h := ib_and r 1#32
  rw [← e1] at h
  rw [h, ib_neg, ib_shr]
  have h2 := ib_and cpoly (-(r &&& 1#32))
  rw [← e2] at h2
  rw [h2, ib_xor]
  rfl
theorem start32 (s : B32) (c : Nat) (hc : c < 256) : ibits .xor .u32 (ibits .xor .u32 (if IntKind.u32.signed then -1 else IntKind.u32.max) (s.toNat : Int)) (IntKind.u32.wrap (c : Int)) = ((~~~ s ^^^ BitVec.ofNat 32 c).toNat : Int) := by
  rw [ib_not, wrap_u32_nat c (by omega)]
  have e : ((c : Nat) : Int) = (((BitVec.ofNat 32 c).toNat : Nat) : Int) := by rw [BitVec.toNat_ofNat]; omega
  rw [e, ib_xor]
theorem b32_of {s : Int} (h : 0 ≤ s ∧ s < 4294967296) : ∃ b : B32, s = (b.toNat : Int) := ⟨BitVec.ofNat 32 s.toNat, by rw [BitVec.toNat_ofNat]; omega⟩
@[simp] theorem ofNat_toNat32 (b : B32) : BitVec.ofNat 32 ((b.toNat : Int)).toNat = b := by simp
theorem crcs_append (s : B32) (a b : List Nat) : crcs s (a ++ b) = crcs (crcs s a) b := by simp [crcs, List.foldl_append]
theorem crcs_take {s : B32} {b : List Nat} {i : Nat} (h : i < b.length) : crcs s (b.take (i + 1)) = cbyte (crcs s (b.take i)) (b.getD i 0) := by
  rw [List.take_add_one, List.getElem?_eq_getElem h, crcs_append]
  simp [crcs, List.getD, h]
end Go.Am
