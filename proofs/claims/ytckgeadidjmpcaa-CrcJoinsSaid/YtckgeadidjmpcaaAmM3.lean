/- The check of bytes: it is linear; a short change is seen. -/
import Derived.Test.YtckgeadidjmpcaaAmM2
namespace Go.Am
set_option linter.all false
set_option linter.deprecated false
theorem csh_xor (a b : B32) : csh (a ^^^ b) = csh a ^^^ csh b := by
  have e : ∀ r : B32, cpoly &&& -(r &&& 1#32) = if r.getLsbD 0 then cpoly else 0#32 := by
    intro r
    have h1 : r &&& 1#32 = if r.getLsbD 0 then 1#32 else 0#32 := by
      apply BitVec.eq_of_getLsbD_eq
      intro i hi
      cases i with
      | zero => cases h : r.getLsbD 0 <;> simp only [BitVec.getLsbD_and, h] <;> rfl
      | succ i => cases h : r.getLsbD 0 <;> simp [BitVec.getLsbD_one]
    rw [h1]
    split
    · simp only [cpoly]; decide
    · simp only [cpoly]; decide
  simp only [csh, e, BitVec.getLsbD_xor]
  apply BitVec.eq_of_getLsbD_eq
  intro i hi
  simp only [BitVec.getLsbD_xor, BitVec.getLsbD_ushiftRight]
  cases a.getLsbD 0 <;> cases b.getLsbD 0 <;> simp <;> cases a.getLsbD (1 + i) <;> cases b.getLsbD (1 + i) <;> cases cpoly.getLsbD i <;> rfl
theorem citer_xor : ∀ (n : Nat) (a b : B32), citer n (a ^^^ b) = citer n a ^^^ citer n b
  | 0, _, _ => rfl
  | n + 1, a, b => by simp only [citer, csh_xor, citer_xor n]
theorem ofNat_xor32 (a b : Nat) : BitVec.ofNat 32 (a ^^^ b) = BitVec.ofNat 32 a ^^^ BitVec.ofNat 32 b := by
  apply BitVec.eq_of_getLsbD_eq
  intro i hi
  simp [BitVec.getLsbD_ofNat, hi]
theorem not_xor3 (a b c : B32) : ~~~ (a ^^^ b ^^^ c) = ~~~ a ^^^ ~~~ b ^^^ ~~~ c := by
  apply BitVec.eq_of_getLsbD_eq
  intro i hi
  simp only [BitVec.getLsbD_not, BitVec.getLsbD_xor, hi, decide_true, Bool.true_and]
  cases a.getLsbD i <;> cases b.getLsbD i <;> cases c.getLsbD i <;> rfl
theorem cbyte_xor3 (s t u : B32) (a b c : Nat) : cbyte (s ^^^ t ^^^ u) (a ^^^ b ^^^ c) = cbyte s a ^^^ cbyte t b ^^^ cbyte u c := by
  simp only [cbyte, ofNat_xor32, not_xor3]
  have e : ∀ (p q r x y z : B32), p ^^^ q ^^^ r ^^^ (x ^^^ y ^^^ z) = (p ^^^ x) ^^^ (q ^^^ y) ^^^ (r ^^^ z) := by
    intro p q r x y z
    ac_rfl
  rw [e, citer_xor, citer_xor, not_xor3]
def xor3 : List Nat → List Nat → List Nat → List Nat
  | a :: as, b :: bs, c :: cs => (a ^^^ b ^^^ c) :: xor3 as bs cs
  | _, _, _ => []
theorem crcs_xor3 : ∀ (as bs cs : List Nat) (s t u : B32), as.length = bs.length → bs.length = cs.length → crcs (s ^^^ t ^^^ u) (xor3 as bs cs) = crcs s as ^^^ crcs t bs ^^^ crcs u cs
  | [], [], [], _, _, _, _, _ => rfl
  | a :: as, b :: bs, c :: cs, s, t, u, h1, h2 => by
    simp only [xor3, crcs, List.foldl_cons, cbyte_xor3]
    exact crcs_xor3 as bs cs _ _ _ (by simpa using h1) (by simpa using h2)
  | [], [], _ :: _, _, _, _, _, h => by simp at h
  | [], _ :: _, _, _, _, _, h, _ => by simp at h
  | _ :: _, [], _, _, _, _, h, _ => by simp at h
  | _ :: _, _ :: _, [], _, _, _, _, h => by simp at h
theorem xor3_len : ∀ (as bs cs : List Nat), (xor3 as bs cs).length = min as.length (min bs.length cs.length)
  | [], _, _ => by simp [xor3]
  | _ :: _, [], _ => by simp [xor3]
  | _ :: _, _ :: _, [] => by simp [xor3]
  | _ :: as, _ :: bs, _ :: cs => by simp [xor3, xor3_len as bs cs]
theorem xor3_get : ∀ (as bs cs : List Nat) (i : Nat), i < as.length → i < bs.length → i < cs.length → (xor3 as bs cs)[i]? = some (as.getD i 0 ^^^ bs.getD i 0 ^^^ cs.getD i 0)
  | a :: as, b :: bs, c :: cs, 0, _, _, _ => rfl
  | a :: as, b :: bs, c :: cs, i + 1, h1, h2, h3 => by
    simp only [xor3, List.getElem?_cons_succ]
    rw [xor3_get as bs cs i (by simpa using h1) (by simpa using h2) (by simpa using h3)]
    rfl
  | [], _, _, _, h, _, _ => by simp at h
  | _ :: _, [], _, _, _, h, _ => by simp at h
  | _ :: _, _ :: _, [], _, _, _, h => by simp at h
theorem ib_xor8 (a b : Nat) (ha : a < 256) (hb : b < 256) : ibits .xor .u8 (a : Int) (b : Int) = ((a ^^^ b : Nat) : Int) := by
  show IntKind.u8.wrap (((BitVec.ofInt 8 (a : Int) ^^^ BitVec.ofInt 8 (b : Int) : BitVec 8).toNat : Nat) : Int) = _
  have e : ∀ x : Nat, x < 256 → BitVec.ofInt 8 (x : Int) = BitVec.ofNat 8 x := fun x hx => by
    apply BitVec.eq_of_toNat_eq
    rw [BitVec.toNat_ofInt, BitVec.toNat_ofNat]
    omega
  have h : a ^^^ b < 256 := Nat.xor_lt_two_pow (n := 8) ha hb
  rw [e a ha, e b hb, BitVec.toNat_xor, BitVec.toNat_ofNat, BitVec.toNat_ofNat, Nat.mod_eq_of_lt ha, Nat.mod_eq_of_lt hb, wrap_u8_mod]
  omega
end Go.Am
