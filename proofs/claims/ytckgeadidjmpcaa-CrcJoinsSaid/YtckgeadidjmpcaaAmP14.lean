/- alibilaw02.CrcJoins keeps its contract: it returns true. -/
import Derived.Test.YtckgeadidjmpcaaAmP13
import Derived.Test.YtckgeadidjmpcaaAmM3
namespace Go.Am
set_option linter.all false
set_option linter.deprecated false
open Go.Proofs
set_option maxRecDepth 100000
set_option maxHeartbeats 4000000
def joinsC : Contract := { modes := [], fn := fun args M => match args, M with
  | [.sl _ [.int .u8] _, .sl _ [.int .u8] _, .sl _ [.int .u8] _], [] => some ⟨[], .bool (fun _ => true), []⟩
  | _, _ => none }
def Lc7 : List (Nat × Contract) := [(27, trueC), (33, sumC)]
def Gc7 : Ctx := fun f => gget Lc7 f
theorem Gc7_ok : ∀ f C, Gc7 f = some C → CSound Try.prog f C := gget_cons works2_ok (gget_cons sum_ok (gget_nil _))
@[simp] theorem chunk11 (f : Unit → D) : List.map dall (chunk 1 1 [f]) = [[f ()]] := rfl
@[simp] theorem fl_one (ys : List (List D)) : fl [[D.list ys]] = ys := by simp [fl, lk, D.toList]
theorem getD_take {b : List Nat} {n i : Nat} (h : i < n) : (b.take n).getD i 0 = b.getD i 0 := by simp [List.getD, List.getElem?_take, h]
theorem set_next {α : Type} {A : List α} {m : Nat} {z v : α} {i : Nat} (h : A.length = i) : (A ++ List.replicate (m + 1) z).set i v = A ++ [v] ++ List.replicate m z := by
  subst h
  rw [List.set_append_right _ _ (Nat.le_refl _), Nat.sub_self, List.replicate_succ, List.set_cons_zero]
  simp
theorem joins_ok : CSound Try.prog 7 joinsC := by
  refine fsound' (G := Gc7) (c := codeOf Try.f7) mixed tyT Gc7_ok Try.func7 (by rfl) (by kernel_rfl) (by kernel_rfl) fun args M r hr hvc hw hm => ?_
  unfold joinsC at hr
  simp only at hr
  split at hr <;> cases hr
  rename_i n1 a n2 b n3 c
  clear hvc hm
  have hx : a = fun _ => a () := rfl
  generalize a () = a at hx
  subst hx
  have hx : b = fun _ => b () := rfl
  generalize b () = b at hx
  subst hx
  have hx : c = fun _ => c () := rfl
  generalize c () = c at hx
  subst hx
  simp only [WfVs, WfV, and_true] at hw
  obtain ⟨ha, hb, hc⟩ := hw
  have ha1 := ha.1
  have hb1 := hb.1
  have hc1 := hc.1
  obtain ⟨n, hn⟩ : ∃ n : Nat, n = min a.length (min b.length c.length) := ⟨_, rfl⟩
  have hmin : min (min (a.length : Int) (b.length : Int)) (c.length : Int) = (n : Int) := by omega
  conv => cbv
  refine Split.mk (fun h => ?_) (fun h => ?_)
  · conv => cbv
    exact ⟨rfl⟩
  · have h := of_decide_eq_false h
    simp only [hmin] at h
    have h400 : n ≤ 400 := by omega
    have hbg : ((big : Nat) : Int) = 1099511627776 := rfl
    have v1 : 0 ≤ min (min (a.length : Int) (b.length : Int)) (c.length : Int) ∧ min (min (a.length : Int) (b.length : Int)) (c.length : Int) ≤ (big : Int) := by rw [hmin, hbg]; omega
    conv => cbv
    refine ⟨⟨rfl⟩, ⟨v1⟩, LoopP.mk {i : Nat // i ≤ n} (fun i => ⟨ev 68 [(0, .sl false U8 fun _ => a), (1, .sl false U8 fun _ => b), (2, .sl false U8 fun _ => c), (6, .bool fun _ => false), (7, .int .i64 fun _ => (n : Int)), (8, .ms 0 (fun _ => 0) (fun _ => n)), (9, .int .i64 fun _ => (i.1 : Int))],
      [(0, .row true U8 fun _ => rowB ((xor3 (bn (a.take n)) (bn (b.take n)) (bn (c.take n))).take i.1) ++ List.replicate (n - i.1) [D.int 0])], 8⟩) (fun i => n - i.1) ⟨0, Nat.zero_le _⟩ ?_ ?_⟩
    · have w1 : ((min (min (a.length : Int) (b.length : Int)) (c.length : Int))).toNat = n := by rw [hmin]; simp
      conv => cbv
      refine ⟨⟨rfl⟩, ⟨rfl⟩, ⟨rfl⟩, ⟨rfl⟩, ⟨hmin⟩, ⟨rfl, w1⟩, ⟨rfl⟩, ⟨?_⟩⟩
      show List.replicate ((min (min (a.length : Int) (b.length : Int)) (c.length : Int))).toNat [D.int 0] = _
      rw [w1]
      simp [rowB]
    · intro ⟨i, hi⟩
      have la : (a.take n).length = n := by simp; omega
      have lb : (b.take n).length = n := by simp; omega
      have lc : (c.take n).length = n := by simp; omega
      have lx : (xor3 (bn (a.take n)) (bn (b.take n)) (bn (c.take n))).length = n := by rw [xor3_len, bn_len, bn_len, bn_len, la, lb, lc]; omega
      conv => cbv
      refine Split.mk (fun h => ?_) (fun h => ?_)
      · have h : (i : Int) < (n : Int) := of_decide_eq_true h
        have h : i < n := by omega
        have v1 : 0 ≤ (i : Int) ∧ (i : Int) < (a.length : Int) := by omega
        have v2 : 0 ≤ (i : Int) ∧ (i : Int) < (b.length : Int) := by omega
        have v3 : 0 ≤ (i : Int) ∧ (i : Int) < (c.length : Int) := by omega
        have v4 : 0 ≤ (i : Int) ∧ (i : Int) < (n : Int) := by omega
        have v5 : 0 + ((i : Int)).toNat < (rowB ((xor3 (bn (a.take n)) (bn (b.take n)) (bn (c.take n))).take i) ++ List.replicate (n - i) [D.int 0]).length := by
          simp [lx]; omega
        have hw1 : IntKind.i64.wrap ((i : Int) + 1) = ((i + 1 : Nat) : Int) := by rw [wrap_i64 (by omega)]; omega
        have hlt : i + 1 ≤ n ∧ n - (i + 1) < n - i := by omega
        have q1 := bn_at ha (show i < a.length by omega)
        have q2 := bn_at hb (show i < b.length by omega)
        have q3 := bn_at hc (show i < c.length by omega)
        have p1 : (bn a).getD i 0 < 256 := bn_lt ha _ (by have : i < a.length := by omega
                                                          simp [List.getD, this])
        have p2 : (bn b).getD i 0 < 256 := bn_lt hb _ (by have : i < b.length := by omega
                                                          simp [List.getD, this])
        have p3 : (bn c).getD i 0 < 256 := bn_lt hc _ (by have : i < c.length := by omega
                                                          simp [List.getD, this])
        have q4 : ibits .xor .u8 (ibits .xor .u8 ((lk (lk a i) 0).toInt) ((lk (lk b i) 0).toInt)) ((lk (lk c i) 0).toInt) = (((bn a).getD i 0 ^^^ (bn b).getD i 0 ^^^ (bn c).getD i 0 : Nat) : Int) := by
          rw [q1, q2, q3, ib_xor8 _ _ p1 p2, ib_xor8 _ _ (Nat.xor_lt_two_pow (n := 8) p1 p2) p3]
        have q5 : (xor3 (bn (a.take n)) (bn (b.take n)) (bn (c.take n))).take (i + 1) = (xor3 (bn (a.take n)) (bn (b.take n)) (bn (c.take n))).take i ++ [(bn a).getD i 0 ^^^ (bn b).getD i 0 ^^^ (bn c).getD i 0] := by
          rw [List.take_add_one, xor3_get _ _ _ i (by simp; omega) (by simp; omega) (by simp; omega), bn_take, bn_take, bn_take, getD_take h, getD_take h, getD_take h]
          rfl
        have q6 : (rowB ((xor3 (bn (a.take n)) (bn (b.take n)) (bn (c.take n))).take i)).length = i := by simp [lx]; omega
        have q7 := set_next (m := n - (i + 1)) (z := [D.int 0]) (v := [D.int (((bn a).getD i 0 ^^^ (bn b).getD i 0 ^^^ (bn c).getD i 0 : Nat) : Int)]) q6
        rw [show n - (i + 1) + 1 = n - i by omega] at q7
        conv => cbv
        refine ⟨⟨v1⟩, ⟨v2⟩, ⟨v3⟩, ⟨v4⟩, ⟨v5⟩, ⟨i + 1, hlt.1⟩, hlt.2, ?_⟩
        conv => cbv
        refine ⟨⟨rfl⟩, ⟨rfl⟩, ⟨rfl⟩, ⟨rfl⟩, ⟨rfl⟩, ⟨rfl, rfl⟩, ⟨hw1⟩, ⟨?_⟩⟩
        simp only [dall_one, Int.toNat_natCast, q4, q5, rowB_append, rowB_one, Nat.zero_add]
        exact q7
      · have h : ¬ (i : Int) < (n : Int) := of_decide_eq_false h
        have hin : i = n := by omega
        have r1 : (xor3 (bn (a.take n)) (bn (b.take n)) (bn (c.take n))).take n = xor3 (bn (a.take n)) (bn (b.take n)) (bn (c.take n)) := List.take_of_length_le (by omega)
        have r2 : (rowB (xor3 (bn (a.take n)) (bn (b.take n)) (bn (c.take n)))).take n = rowB (xor3 (bn (a.take n)) (bn (b.take n)) (bn (c.take n))) := List.take_of_length_le (by simp [lx])
        have r3 := crcs_xor3 (bn (a.take n)) (bn (b.take n)) (bn (c.take n)) 0 0 0 (by simp; omega) (by simp; omega)
        rw [show (0 ^^^ 0 ^^^ 0 : B32) = 0 by decide] at r3
        have hn1 : n ≤ a.length ∧ n ≤ b.length ∧ n ≤ c.length := by omega
        conv => cbv
        subst hin
        simp [Hold.iff, lx, r1, r2]
        refine ⟨by omega, by omega, by omega, by omega, by omega, by omega, by omega, .ofT ?_ ?_⟩
        · rw [ib_xor, ib_xor, beq_iff_eq]
          exact congrArg (fun b : B32 => (b.toNat : Int)) r3
        · conv => cbv
          exact ⟨rfl⟩
end Go.Am
