/- crc.Put, crc.Open keep their contracts. -/
import Derived.Test.YtckgeadidjmpcaaAmPartC
namespace Go.Am
set_option linter.all false
set_option linter.deprecated false
open Go.Proofs
set_option maxRecDepth 100000
set_option maxHeartbeats 4000000
def crcB (xs : List (List D)) : List Nat := st4 (crcs 0 (bn xs)).toNat
@[simp] theorem crcB_len (xs : List (List D)) : (crcB xs).length = 4 := rfl
@[simp] theorem st4_take (k : Nat) : List.take 4 (rowB (st4 k)) = rowB (st4 k) := List.take_of_length_le (by simp [st4])
def cputC : Contract := { modes := [.ro], fn := fun args M => match args, M with
  | [.sl _ [.slice [.int .u8]] xs], [] => some ⟨[fun _ => (fl (xs ())).length + 4 ≤ big], .ms 0 (fun _ => 0) (fun _ => (fl (xs ())).length + 4), [(0, some (.row false U8 fun _ => fl (xs ()) ++ rowB (crcB (fl (xs ())))))]⟩
  | _, _ => none }
def Lc4 : List (Nat × Contract) := [(79, joinC), (33, sumC), (75, stC)]
def Gc4 : Ctx := fun f => gget Lc4 f
theorem Gc4_ok : ∀ f C, Gc4 f = some C → CSound Try.prog f C := gget_cons join_ok (gget_cons sum_ok (gget_cons stands_ok (gget_nil _)))
theorem cput_ok : CSound Try.prog 31 cputC := by
  refine fsound' (G := Gc4) (c := codeOf Try.f31) mixed tyT Gc4_ok Try.func31 (by rfl) (by kernel_rfl) (by kernel_rfl) fun args M r hr hvc hw hm => ?_
  unfold cputC at hr
  simp only at hr
  split at hr <;> cases hr
  rename_i nn xs
  have hb : (fl (xs ())).length + 4 ≤ big := hvc _ (List.mem_singleton.2 rfl)
  clear hvc hm hw
  have hx : xs = fun _ => xs () := rfl
  generalize xs () = x at hx hb
  subst hx
  have hb1 : (fl x).length ≤ big := by omega
  have hb2 : (fl x).length < 9223372036854775808 := by simp only [big] at hb; omega
  conv => cbv
  refine ⟨⟨hb1⟩, ⟨hb2⟩, ⟨rfl⟩, ⟨Nat.le_refl _⟩, ⟨hb⟩, ⟨by simp [st4]⟩, ⟨rfl, rfl⟩, ⟨?_⟩⟩
  show (fl x).take (fl x).length ++ _ = _
  rw [List.take_length]
  rfl
def openS (xs : List (List D)) : List (List D) × Int :=
  if xs.length < 4 then ([], 4) else
  if bn (xs.drop (xs.length - 4)) = crcB (xs.take (xs.length - 4)) then (xs.take (xs.length - 4), 0) else ([], 20)
def openC : Contract := { modes := [.ro], fn := fun args M => match args, M with
  | [.sl _ [.int .u8] xs], [] => some ⟨[fun _ => (xs ()).length ≤ big], .tup [.ms 0 (fun _ => 0) (fun _ => (openS (xs ())).1.length), .int .i64 fun _ => (openS (xs ())).2], [(0, some (.row false U8 fun _ => (openS (xs ())).1))]⟩
  | _, _ => none }
def Lc5 : List (Nat × Contract) := [(33, sumC), (75, stC), (74, sameC), (76, cloneC)]
def Gc5 : Ctx := fun f => gget Lc5 f
theorem Gc5_ok : ∀ f C, Gc5 f = some C → CSound Try.prog f C := gget_cons sum_ok (gget_cons stands_ok (gget_cons bequal_ok (gget_cons clone_ok (gget_nil _))))
theorem open_ok : CSound Try.prog 28 openC := by
  refine fsound' (G := Gc5) (c := codeOf Try.f28) mixed tyT Gc5_ok Try.func28 (by rfl) (by kernel_rfl) (by kernel_rfl) fun args M r hr hvc hw hm => ?_
  unfold openC at hr
  simp only at hr
  split at hr <;> cases hr
  rename_i nn xs
  have hb : (xs ()).length ≤ big := hvc _ (List.mem_singleton.2 rfl)
  clear hvc hm
  have hx : xs = fun _ => xs () := rfl
  generalize xs () = x at hx hb
  subst hx
  simp only [WfVs, WfV, and_true] at hw
  have hb : x.length ≤ 1099511627776 := hb
  have hw1 : IntKind.i64.wrap ((x.length : Int) - 4) = (x.length : Int) - 4 := wrap_i64 (by omega)
  conv => cbv
  refine Split.mk (fun h => ?_) (fun h => ?_)
  · have h := of_decide_eq_true h
    simp only [hw1] at h
    have e : openS x = ([], 4) := by rw [openS, if_pos (by omega)]
    conv => cbv
    simp [Hold.iff, e]
  · have h := of_decide_eq_false h
    simp only [hw1] at h
    obtain ⟨n, hn⟩ : ∃ n, x.length = n + 4 := ⟨x.length - 4, by omega⟩
    have hw2 : IntKind.i64.wrap ((x.length : Int) - 4) = (n : Int) := by rw [hw1]; omega
    have v1 : 0 ≤ IntKind.i64.wrap ((x.length : Int) - 4) ∧ IntKind.i64.wrap ((x.length : Int) - 4) ≤ (x.length : Int) ∧ (x.length : Int) ≤ (x.length : Int) ∧ (x.length : Int) ≤ (x.length : Int) := by rw [hw2]; omega
    have v2 : (0 : Int) ≤ 0 ∧ (0 : Int) ≤ IntKind.i64.wrap ((x.length : Int) - 4) ∧ IntKind.i64.wrap ((x.length : Int) - 4) ≤ IntKind.i64.wrap ((x.length : Int) - 4) ∧ IntKind.i64.wrap ((x.length : Int) - 4) ≤ (x.length : Int) := by rw [hw2]; omega
    have e1 : openS x = if bn (x.drop n) = crcB (x.take n) then (x.take n, 0) else ([], 20) := by rw [openS, if_neg (by omega), show x.length - 4 = n by omega]
    have hn4 : (x.drop n).take (x.length - n) = x.drop n := List.take_of_length_le (by simp)
    conv => cbv
    refine ⟨⟨v1⟩, ⟨v2⟩, ⟨by simp [chunk]⟩, ⟨?_⟩, ⟨by simp [st4]⟩, Split.mk (fun h2 => ?_) (fun h2 => ?_)⟩
    · simp [chunk, fl, lk, D.toList, hw2]; omega
    · simp [chunk, fl, lk, D.toList, hw2, hn4] at h2
      rw [if_neg (by intro hh; exact h2 (by simpa [crcB] using hh))] at e1
      conv => cbv
      simp [Hold.iff, e1]
    · simp [chunk, fl, lk, D.toList, hw2, hn4] at h2
      rw [if_pos (by simpa [crcB] using h2)] at e1
      conv => cbv
      simp [Hold.iff, e1, hw2]
      simp only [big]; omega
end Go.Am
/- alibilaw02.works keeps its contract: it returns true. -/
namespace Go.Am
set_option linter.all false
set_option linter.deprecated false
open Go.Proofs
set_option maxRecDepth 100000
set_option maxHeartbeats 4000000
def Lc6 : List (Nat × Contract) := [(28, openC), (33, sumC), (31, cputC), (22, sameC)]
def Gc6 : Ctx := fun f => gget Lc6 f
theorem Gc6_ok : ∀ f C, Gc6 f = some C → CSound Try.prog f C := gget_cons open_ok (gget_cons sum_ok (gget_cons cput_ok (gget_cons same_ok (gget_nil _))))
theorem works2_ok : CSound Try.prog 27 trueC := by
  refine fsound' (G := Gc6) (c := codeOf Try.f27) mixed tyT Gc6_ok Try.func27 (by rfl) (by kernel_rfl) (by kernel_rfl) fun args M r hr hvc hw hm => ?_
  unfold trueC at hr
  simp only at hr
  split at hr <;> cases hr
  clear hvc hm hw
  conv => cbv
  repeat (first | refine ⟨⟨by decide +kernel⟩, ?_⟩ | (refine .ofT (by decide +kernel) ?_; conv => cbv))
  exact ⟨by decide +kernel⟩
end Go.Am
/- The check of bytes: it is linear; a short change is seen. -/
namespace Go.Am
set_option linter.all false
set_option linter.deprecated false
theorem csh_xor (a b : B32) : csh (a ^^^ b) = csh a ^^^ csh b := by
  have e : ∀ r : B32, cpoly &&& -(r &&& 1#32) = if r.getLsbD 0 then cpoly else 0#32 := by
    intro r
    have h1 : r &&& 1#32 = if r.getLsbD 0 then 1#32 else 0#32 := by
      apply BitVec.eq_of_getLsbD_eq
      intro i hi
      cases i with
      | zero => cases h : r.getLsbD 0 <;> simp only [BitVec.getLsbD_and, h] <;> rfl
      | succ i => cases h : r.getLsbD 0 <;> simp [BitVec.getLsbD_one]
    rw [h1]
    split
    · simp only [cpoly]; decide
    · simp only [cpoly]; decide
  simp only [csh, e, BitVec.getLsbD_xor]
  apply BitVec.eq_of_getLsbD_eq
  intro i hi
  simp only [BitVec.getLsbD_xor, BitVec.getLsbD_ushiftRight]
  cases a.getLsbD 0 <;> cases b.getLsbD 0 <;> simp <;> cases a.getLsbD (1 + i) <;> cases b.getLsbD (1 + i) <;> cases cpoly.getLsbD i <;> rfl
theorem citer_xor : ∀ (n : Nat) (a b : B32), citer n (a ^^^ b) = citer n a ^^^ citer n b
  | 0, _, _ => rfl
  | n + 1, a, b => by simp only [citer, csh_xor, citer_xor n]
theorem ofNat_xor32 (a b : Nat) : BitVec.ofNat 32 (a ^^^ b) = BitVec.ofNat 32 a ^^^ BitVec.ofNat 32 b := by
  apply BitVec.eq_of_getLsbD_eq
  intro i hi
  simp [BitVec.getLsbD_ofNat, hi]
theorem not_xor3 (a b c : B32) : ~~~ (a ^^^ b ^^^ c) = ~~~ a ^^^ ~~~ b ^^^ ~~~ c := by
  apply BitVec.eq_of_getLsbD_eq
  intro i hi
  simp only [BitVec.getLsbD_not, BitVec.getLsbD_xor, hi, decide_true, Bool.true_and]
  cases a.getLsbD i <;> cases b.getLsbD i <;> cases c.getLsbD i <;> rfl
theorem cbyte_xor3 (s t u : B32) (a b c : Nat) : cbyte (s ^^^ t ^^^ u) (a ^^^ b ^^^ c) = cbyte s a ^^^ cbyte t b ^^^ cbyte u c := by
  simp only [cbyte, ofNat_xor32, not_xor3]
  have e : ∀ (p q r x y z : B32), p ^^^ q ^^^ r ^^^ (x ^^^ y ^^^ z) = (p ^^^ x) ^^^ (q ^^^ y) ^^^ (r ^^^ z) := by
    intro p q r x y z
    ac_rfl
  rw [e, citer_xor, citer_xor, not_xor3]
def xor3 : List Nat → List Nat → List Nat → List Nat
  | a :: ws, b :: bs, c :: cs => (a ^^^ b ^^^ c) :: xor3 ws bs cs
  | _, _, _ => []
theorem crcs_xor3 : ∀ (ws bs cs : List Nat) (s t u : B32), ws.length = bs.length → bs.length = cs.length → crcs (s ^^^ t ^^^ u) (xor3 ws bs cs) = crcs s ws ^^^ crcs t bs ^^^ crcs u cs
  | [], [], [], _, _, _, _, _ => rfl
  | a :: ws, b :: bs, c :: cs, s, t, u, h1, h2 => by
    simp only [xor3, crcs, List.foldl_cons, cbyte_xor3]
    exact crcs_xor3 ws bs cs _ _ _ (by simpa using h1) (by simpa using h2)
  | [], [], _ :: _, _, _, _, _, h => by simp at h
  | [], _ :: _, _, _, _, _, h, _ => by simp at h
  | _ :: _, [], _, _, _, _, h, _ => by simp at h
  | _ :: _, _ :: _, [], _, _, _, _, h => by simp at h
theorem xor3_len : ∀ (ws bs cs : List Nat), (xor3 ws bs cs).length = min ws.length (min bs.length cs.length)
  | [], _, _ => by simp [xor3]
  | _ :: _, [], _ => by simp [xor3]
  | _ :: _, _ :: _, [] => by simp [xor3]
  | _ :: ws, _ :: bs, _ :: cs => by simp [xor3, xor3_len ws bs cs]
theorem xor3_get : ∀ (ws bs cs : List Nat) (i : Nat), i < ws.length → i < bs.length → i < cs.length → (xor3 ws bs cs)[i]? = some (ws.getD i 0 ^^^ bs.getD i 0 ^^^ cs.getD i 0)
  | a :: ws, b :: bs, c :: cs, 0, _, _, _ => rfl
  | a :: ws, b :: bs, c :: cs, i + 1, h1, h2, h3 => by
    simp only [xor3, List.getElem?_cons_succ]
    rw [xor3_get ws bs cs i (by simpa using h1) (by simpa using h2) (by simpa using h3)]
    rfl
  | [], _, _, _, h, _, _ => by simp at h
  | _ :: _, [], _, _, _, h, _ => by simp at h
  | _ :: _, _ :: _, [], _, _, _, h => by simp at h
theorem ib_xor8 (a b : Nat) (ha : a < 256) (hb : b < 256) : ibits .xor .u8 (a : Int) (b : Int) = ((a ^^^ b : Nat) : Int) := by
  show IntKind.u8.wrap (((BitVec.ofInt 8 (a : Int) ^^^ BitVec.ofInt 8 (b : Int) : BitVec 8).toNat : Nat) : Int) = _
  have e : ∀ x : Nat, x < 256 → BitVec.ofInt 8 (x : Int) = BitVec.ofNat 8 x := fun x hx => by
    apply BitVec.eq_of_toNat_eq
    rw [BitVec.toNat_ofInt, BitVec.toNat_ofNat]
    omega
  have h : a ^^^ b < 256 := Nat.xor_lt_two_pow (n := 8) ha hb
  rw [e a ha, e b hb, BitVec.toNat_xor, BitVec.toNat_ofNat, BitVec.toNat_ofNat, Nat.mod_eq_of_lt ha, Nat.mod_eq_of_lt hb, wrap_u8_mod]
  omega
end Go.Am
/- alibilaw02.CrcJoins keeps its contract: it returns true. -/
namespace Go.Am
set_option linter.all false
set_option linter.deprecated false
open Go.Proofs
set_option maxRecDepth 100000
set_option maxHeartbeats 4000000
def joinsC : Contract := { modes := [], fn := fun args M => match args, M with
  | [.sl _ [.int .u8] _, .sl _ [.int .u8] _, .sl _ [.int .u8] _], [] => some ⟨[], .bool (fun _ => true), []⟩
  | _, _ => none }
def Lc7 : List (Nat × Contract) := [(27, trueC), (33, sumC)]
def Gc7 : Ctx := fun f => gget Lc7 f
theorem Gc7_ok : ∀ f C, Gc7 f = some C → CSound Try.prog f C := gget_cons works2_ok (gget_cons sum_ok (gget_nil _))
@[simp] theorem chunk11 (f : Unit → D) : List.map dall (chunk 1 1 [f]) = [[f ()]] := rfl
@[simp] theorem fl_one (ys : List (List D)) : fl [[D.list ys]] = ys := by simp [fl, lk, D.toList]
theorem getD_take {b : List Nat} {n i : Nat} (h : i < n) : (b.take n).getD i 0 = b.getD i 0 := by simp [List.getD, List.getElem?_take, h]
theorem set_next {α : Type} {A : List α} {m : Nat} {z v : α} {i : Nat} (h : A.length = i) : (A ++ List.replicate (m + 1) z).set i v = A ++ [v] ++ List.replicate m z := by
  subst h
  rw [List.set_append_right _ _ (Nat.le_refl _), Nat.sub_self, List.replicate_succ, List.set_cons_zero]
  simp
theorem joins_ok : CSound Try.prog 7 joinsC := by
  refine fsound' (G := Gc7) (c := codeOf Try.f7) mixed tyT Gc7_ok Try.func7 (by rfl) (by kernel_rfl) (by kernel_rfl) fun args M r hr hvc hw hm => ?_
  unfold joinsC at hr
  simp only at hr
  split at hr <;> cases hr
  rename_i n1 a n2 b n3 c
  clear hvc hm
  have hx : a = fun _ => a () := rfl
  generalize a () = a at hx
  subst hx
  have hx : b = fun _ => b () := rfl
  generalize b () = b at hx
  subst hx
  have hx : c = fun _ => c () := rfl
  generalize c () = c at hx
  subst hx
  simp only [WfVs, WfV, and_true] at hw
  obtain ⟨ha, hb, hc⟩ := hw
  have ha1 := ha.1
  have hb1 := hb.1
  have hc1 := hc.1
  obtain ⟨n, hn⟩ : ∃ n : Nat, n = min a.length (min b.length c.length) := ⟨_, rfl⟩
  have hmin : min (min (a.length : Int) (b.length : Int)) (c.length : Int) = (n : Int) := by omega
  conv => cbv
  refine Split.mk (fun h => ?_) (fun h => ?_)
  · conv => cbv
    exact ⟨rfl⟩
  · have h := of_decide_eq_false h
    simp only [hmin] at h
    have h400 : n ≤ 400 := by omega
    have hbg : ((big : Nat) : Int) = 1099511627776 := rfl
    have v1 : 0 ≤ min (min (a.length : Int) (b.length : Int)) (c.length : Int) ∧ min (min (a.length : Int) (b.length : Int)) (c.length : Int) ≤ (big : Int) := by rw [hmin, hbg]; omega
    conv => cbv
    refine ⟨⟨rfl⟩, ⟨v1⟩, LoopP.mk {i : Nat // i ≤ n} (fun i => ⟨ev 68 [(0, .sl false U8 fun _ => a), (1, .sl false U8 fun _ => b), (2, .sl false U8 fun _ => c), (6, .bool fun _ => false), (7, .int .i64 fun _ => (n : Int)), (8, .ms 0 (fun _ => 0) (fun _ => n)), (9, .int .i64 fun _ => (i.1 : Int))],
      [(0, .row true U8 fun _ => rowB ((xor3 (bn (a.take n)) (bn (b.take n)) (bn (c.take n))).take i.1) ++ List.replicate (n - i.1) [D.int 0])], 8⟩) (fun i => n - i.1) ⟨0, Nat.zero_le _⟩ ?_ ?_⟩
    · have w1 : ((min (min (a.length : Int) (b.length : Int)) (c.length : Int))).toNat = n := by rw [hmin]; simp
      conv => cbv
      refine ⟨⟨rfl⟩, ⟨rfl⟩, ⟨rfl⟩, ⟨rfl⟩, ⟨hmin⟩, ⟨rfl, w1⟩, ⟨rfl⟩, ⟨?_⟩⟩
      show List.replicate ((min (min (a.length : Int) (b.length : Int)) (c.length : Int))).toNat [D.int 0] = _
      rw [w1]
      simp [rowB]
    · intro ⟨i, hi⟩
      have la : (a.take n).length = n := by simp; omega
      have lb : (b.take n).length = n := by simp; omega
      have lc : (c.take n).length = n := by simp; omega
      have lx : (xor3 (bn (a.take n)) (bn (b.take n)) (bn (c.take n))).length = n := by rw [xor3_len, bn_len, bn_len, bn_len, la, lb, lc]; omega
      conv => cbv
      refine Split.mk (fun h => ?_) (fun h => ?_)
      · have h : (i : Int) < (n : Int) := of_decide_eq_true h
        have h : i < n := by omega
        have v1 : 0 ≤ (i : Int) ∧ (i : Int) < (a.length : Int) := by omega
        have v2 : 0 ≤ (i : Int) ∧ (i : Int) < (b.length : Int) := by omega
        have v3 : 0 ≤ (i : Int) ∧ (i : Int) < (c.length : Int) := by omega
        have v4 : 0 ≤ (i : Int) ∧ (i : Int) < (n : Int) := by omega
        have v5 : 0 + ((i : Int)).toNat < (rowB ((xor3 (bn (a.take n)) (bn (b.take n)) (bn (c.take n))).take i) ++ List.replicate (n - i) [D.int 0]).length := by
          simp [lx]; omega
        have hw1 : IntKind.i64.wrap ((i : Int) + 1) = ((i + 1 : Nat) : Int) := by rw [wrap_i64 (by omega)]; omega
        have hlt : i + 1 ≤ n ∧ n - (i + 1) < n - i := by omega
        have q1 := bn_at ha (show i < a.length by omega)
        have q2 := bn_at hb (show i < b.length by omega)
        have q3 := bn_at hc (show i < c.length by omega)
        have p1 : (bn a).getD i 0 < 256 := bn_lt ha _ (by have : i < a.length := by omega
                                                          simp [List.getD, this])
        have p2 : (bn b).getD i 0 < 256 := bn_lt hb _ (by have : i < b.length := by omega
                                                          simp [List.getD, this])
        have p3 : (bn c).getD i 0 < 256 := bn_lt hc _ (by have : i < c.length := by omega
                                                          simp [List.getD, this])
        have q4 : ibits .xor .u8 (ibits .xor .u8 ((lk (lk a i) 0).toInt) ((lk (lk b i) 0).toInt)) ((lk (lk c i) 0).toInt) = (((bn a).getD i 0 ^^^ (bn b).getD i 0 ^^^ (bn c).getD i 0 : Nat) : Int) := by
          rw [q1, q2, q3, ib_xor8 _ _ p1 p2, ib_xor8 _ _ (Nat.xor_lt_two_pow (n := 8) p1 p2) p3]
        have q5 : (xor3 (bn (a.take n)) (bn (b.take n)) (bn (c.take n))).take (i + 1) = (xor3 (bn (a.take n)) (bn (b.take n)) (bn (c.take n))).take i ++ [(bn a).getD i 0 ^^^ (bn b).getD i 0 ^^^ (bn c).getD i 0] := by
          rw [List.take_add_one, xor3_get _ _ _ i (by simp; omega) (by simp; omega) (by simp; omega), bn_take, bn_take, bn_take, getD_take h, getD_take h, getD_take h]
          rfl
        have q6 : (rowB ((xor3 (bn (a.take n)) (bn (b.take n)) (bn (c.take n))).take i)).length = i := by simp [lx]; omega
        have q7 := set_next (m := n - (i + 1)) (z := [D.int 0]) (v := [D.int (((bn a).getD i 0 ^^^ (bn b).getD i 0 ^^^ (bn c).getD i 0 : Nat) : Int)]) q6
        rw [show n - (i + 1) + 1 = n - i by omega] at q7
        conv => cbv
        refine ⟨⟨v1⟩, ⟨v2⟩, ⟨v3⟩, ⟨v4⟩, ⟨v5⟩, ⟨i + 1, hlt.1⟩, hlt.2, ?_⟩
        conv => cbv
        refine ⟨⟨rfl⟩, ⟨rfl⟩, ⟨rfl⟩, ⟨rfl⟩, ⟨rfl⟩, ⟨rfl, rfl⟩, ⟨hw1⟩, ⟨?_⟩⟩
        simp only [dall_one, Int.toNat_natCast, q4, q5, rowB_append, rowB_one, Nat.zero_add]
        exact q7
      · have h : ¬ (i : Int) < (n : Int) := of_decide_eq_false h
        have hin : i = n := by omega
        have r1 : (xor3 (bn (a.take n)) (bn (b.take n)) (bn (c.take n))).take n = xor3 (bn (a.take n)) (bn (b.take n)) (bn (c.take n)) := List.take_of_length_le (by omega)
        have r2 : (rowB (xor3 (bn (a.take n)) (bn (b.take n)) (bn (c.take n)))).take n = rowB (xor3 (bn (a.take n)) (bn (b.take n)) (bn (c.take n))) := List.take_of_length_le (by simp [lx])
        have r3 := crcs_xor3 (bn (a.take n)) (bn (b.take n)) (bn (c.take n)) 0 0 0 (by simp; omega) (by simp; omega)
        rw [show (0 ^^^ 0 ^^^ 0 : B32) = 0 by decide] at r3
        have hn1 : n ≤ a.length ∧ n ≤ b.length ∧ n ≤ c.length := by omega
        conv => cbv
        subst hin
        simp [Hold.iff, lx, r1, r2]
        refine ⟨by omega, by omega, by omega, by omega, by omega, by omega, by omega, .ofT ?_ ?_⟩
        · rw [ib_xor, ib_xor, beq_iff_eq]
          exact congrArg (fun b : B32 => (b.toNat : Int)) r3
        · conv => cbv
          exact ⟨rfl⟩
end Go.Am
/- The check of bytes by division: it is the same number. -/
namespace Go.Am
set_option linter.all false
set_option linter.deprecated false
def cstep (r : B32) (m : Bool) : B32 := (r >>> 1) ^^^ (if r.getLsbD 0 ^^ m then cpoly else 0#32)
def bits : Nat → Nat → List Bool
  | 0, _ => []
  | n + 1, c => (c % 2 == 1) :: bits n (c / 2)
def digits (b : List Nat) : List Bool := b.flatMap (bits 8)
@[simp] theorem bits_len : ∀ (n c : Nat), (bits n c).length = n
  | 0, _ => rfl
  | n + 1, c => by simp [bits, bits_len n]
theorem bits_succ : ∀ (n c : Nat), bits (n + 1) c = bits n c ++ [c / 2 ^ n % 2 == 1]
  | 0, c => by simp [bits]
  | n + 1, c => by
    rw [bits, bits_succ n (c / 2), bits, Nat.div_div_eq_div_mul, Nat.pow_succ, Nat.mul_comm 2]
    rfl
@[simp] theorem digits_len (b : List Nat) : (digits b).length = 8 * b.length := by
  induction b with
  | nil => rfl
  | cons x b ih => simp only [digits, List.flatMap_cons, List.length_append, bits_len] at ih ⊢; rw [ih]; simp; omega
theorem digits_append (a b : List Nat) : digits (a ++ b) = digits a ++ digits b := by simp [digits]
theorem csh_eq (r : B32) : csh r = (r >>> 1) ^^^ (if r.getLsbD 0 then cpoly else 0#32) := by
  have h1 : r &&& 1#32 = if r.getLsbD 0 then 1#32 else 0#32 := by
    apply BitVec.eq_of_getLsbD_eq
    intro i hi
    cases i with
    | zero => cases h : r.getLsbD 0 <;> simp only [BitVec.getLsbD_and, h] <;> rfl
    | succ i => cases h : r.getLsbD 0 <;> simp [BitVec.getLsbD_one]
  rw [csh, h1]
  split
  · rw [show cpoly &&& -(1#32) = cpoly by decide]
  · rw [show cpoly &&& -(0#32) = 0#32 by decide]
theorem cstep_eq (r : B32) (m : Bool) : cstep r m = csh (r ^^^ (if m then 1#32 else 0#32)) := by
  rw [csh_eq, cstep]
  have h1 : (r ^^^ (if m then 1#32 else 0#32)).getLsbD 0 = (r.getLsbD 0 ^^ m) := by cases m <;> simp
  have h2 : (r ^^^ (if m then 1#32 else 0#32)) >>> 1 = r >>> 1 := by
    apply BitVec.eq_of_getLsbD_eq
    intro i hi
    cases m <;> simp [BitVec.getLsbD_one, Nat.add_comm 1]
  rw [h1, h2]
theorem citer_bits : ∀ (n : Nat) (r : B32) (c : Nat), c < 2 ^ n → n ≤ 32 → citer n (r ^^^ BitVec.ofNat 32 c) = (bits n c).foldl cstep r
  | 0, r, c, h, _ => by
    have : c = 0 := by simpa using h
    subst this
    simp [citer, bits]
  | n + 1, r, c, h, hn => by
    rw [citer, bits, List.foldl_cons]
    have e : csh (r ^^^ BitVec.ofNat 32 c) = cstep r (c % 2 == 1) ^^^ BitVec.ofNat 32 (c / 2) := by
      rw [cstep_eq, csh_eq, csh_eq]
      have h1 : (r ^^^ BitVec.ofNat 32 c).getLsbD 0 = (r ^^^ (if (c % 2 == 1) then 1#32 else 0#32)).getLsbD 0 := by
        rw [BitVec.getLsbD_xor, BitVec.getLsbD_xor]
        congr 1
        rw [BitVec.getLsbD_ofNat, Nat.testBit_zero]
        rcases Nat.mod_two_eq_zero_or_one c with h0 | h0 <;> rw [h0] <;> rfl
      rw [h1]
      have h2 : (r ^^^ BitVec.ofNat 32 c) >>> 1 = (r ^^^ (if (c % 2 == 1) then 1#32 else 0#32)) >>> 1 ^^^ BitVec.ofNat 32 (c / 2) := by
        apply BitVec.eq_of_getLsbD_eq
        intro i hi
        have h3 : (BitVec.ofNat 32 c).getLsbD (1 + i) = (BitVec.ofNat 32 (c / 2)).getLsbD i := by
          simp only [BitVec.getLsbD_ofNat]
          by_cases h4 : 1 + i < 32
          · have h5 : i < 32 := by omega
            simp only [h4, h5, decide_true, Bool.true_and]
            rw [Nat.add_comm, Nat.testBit_succ]
          · have h5 : i = 31 := by omega
            subst h5
            have h6 : (c / 2).testBit 31 = false := by
              refine Nat.testBit_lt_two_pow ?_
              have : c < 2 ^ 32 := Nat.lt_of_lt_of_le h (Nat.pow_le_pow_right (by decide) hn)
              omega
            simp [h6]
        rw [BitVec.getLsbD_xor, BitVec.getLsbD_ushiftRight, BitVec.getLsbD_ushiftRight, BitVec.getLsbD_xor, BitVec.getLsbD_xor, h3]
        have h7 : (if (c % 2 == 1) = true then 1#32 else 0#32).getLsbD (1 + i) = false := by
          split <;> simp [BitVec.getLsbD_one]
        rw [h7]
        simp
      rw [h2]
      generalize (r ^^^ (if (c % 2 == 1) then 1#32 else 0#32)) >>> 1 = p
      generalize (if (r ^^^ (if (c % 2 == 1) then 1#32 else 0#32)).getLsbD 0 = true then cpoly else 0#32) = q
      generalize BitVec.ofNat 32 (c / 2) = z
      ac_rfl
    rw [e]
    exact citer_bits n _ (c / 2) (by rw [Nat.pow_succ] at h; omega) (by omega)
theorem crcs_digits : ∀ (b : List Nat) (s : B32), (∀ x ∈ b, x < 256) → ~~~ (crcs s b) = (digits b).foldl cstep (~~~ s)
  | [], s, _ => rfl
  | x :: b, s, h => by
    have hx := h x List.mem_cons_self
    have := crcs_digits b (cbyte s x) (fun y hy => h y (List.mem_cons_of_mem _ hy))
    simp only [crcs, List.foldl_cons] at this ⊢
    rw [this]
    simp only [digits, List.flatMap_cons, List.foldl_append]
    congr 1
    rw [cbyte, BitVec.not_not]
    exact citer_bits 8 _ x hx (by decide)
/-- a table of yes and no -/
def tab (n : Nat) (f : Nat → Bool) : List (List D) := (List.range n).map fun k => [D.bool (f k)]
@[simp] theorem tab_len (n : Nat) (f : Nat → Bool) : (tab n f).length = n := by simp [tab]
theorem tab_get {n k : Nat} (f : Nat → Bool) (h : k < n) : (lk (lk (tab n f) k) 0).toBool = f k := by
  simp [tab, lk, List.getD, h, D.toBool]
theorem tab_set {n k : Nat} {f : Nat → Bool} {v : Bool} : (tab n f).set k [D.bool v] = tab n (fun j => if j = k then v else f j) := by
  apply List.ext_getElem?
  intro j
  simp only [tab, List.getElem?_set, List.getElem?_map, List.length_map, List.length_range]
  by_cases h1 : k = j
  · subst h1
    by_cases h2 : k < n
    · simp [h2]
    · simp [h2]
  · rw [if_neg h1]
    by_cases h2 : j < n
    · simp [h2, Ne.symm h1]
    · simp [h2]
theorem tab_congr {n : Nat} {f g : Nat → Bool} (h : ∀ k, k < n → f k = g k) : tab n f = tab n g := by
  refine List.map_congr_left fun k hk => ?_
  rw [h k (List.mem_range.1 hk)]
def rowBo (bs : List Bool) : List (List D) := bs.map fun b => [D.bool b]
@[simp] theorem rowBo_len (bs : List Bool) : (rowBo bs).length = bs.length := by simp [rowBo]
theorem rowBo_tab (bs : List Bool) (m : Nat) : rowBo bs ++ List.replicate m [D.bool false] = tab (bs.length + m) (fun k => bs.getD k false) := by
  apply List.ext_getElem?
  intro j
  simp only [tab, List.getElem?_map]
  by_cases h1 : j < bs.length
  · have : j < bs.length + m := by omega
    rw [List.getElem?_append_left (by simpa using h1)]
    simp [rowBo, h1, this, List.getD]
  · rw [List.getElem?_append_right (by simpa using h1), rowBo_len, List.getElem?_replicate]
    by_cases h2 : j < bs.length + m
    · have : j - bs.length < m := by omega
      simp [this, h2, List.getD, List.getElem?_eq_none (show bs.length ≤ j by omega)]
    · have : ¬ j - bs.length < m := by omega
      simp [this, h2]
def reg (ds : List Bool) (i : Nat) : B32 := (ds.take i).foldl cstep (BitVec.allOnes 32)
/-- the row of the division behind i steps -/
def rowS (ds : List Bool) (i k : Nat) : Bool := if k < i then false else ds.getD k false ^^ (reg ds i).getLsbD (k - i)
def flip (f : Nat → Bool) (k j : Nat) : Bool := if j = k then !(f j) else f j
def pows : List Nat := [26, 23, 22, 16, 12, 11, 10, 8, 7, 5, 4, 2, 1, 0]
def flips (f : Nat → Bool) (i : Nat) (ps : List Nat) : Nat → Bool := ps.foldl (fun f p => flip f (i + 32 - p)) f
theorem flips_eq : ∀ (ps : List Nat) (f : Nat → Bool) (i j : Nat), flips f i ps j = (f j ^^ (ps.map fun p => decide (j = i + 32 - p)).foldl xor false)
  | [], f, i, j => by simp [flips]
  | p :: ps, f, i, j => by
    have h := flips_eq ps (flip f (i + 32 - p)) i j
    simp only [flips, List.foldl_cons] at h ⊢
    rw [h]
    simp only [List.map_cons, List.foldl_cons, Bool.false_xor, flip]
    have e : ∀ (l : List Bool) (b : Bool), l.foldl xor b = (b ^^ l.foldl xor false) := by
      intro l
      induction l with
      | nil => intro b; simp
      | cons x l ih => intro b; simp only [List.foldl_cons, Bool.false_xor]; rw [ih, ih x]; cases b <;> cases x <;> simp
    rw [e _ (decide _)]
    by_cases hj : j = i + 32 - p
    · simp only [hj, if_true, decide_true]; cases f (i + 32 - p) <;> simp
    · simp [hj]
theorem pows_bit : ∀ j, j < 32 → (pows.map fun p => decide (j = 31 - p)).foldl xor false = cpoly.getLsbD j := by decide
theorem reg_succ {ds : List Bool} {i : Nat} (h : i < ds.length) : reg ds (i + 1) = cstep (reg ds i) (ds.getD i false) := by
  rw [reg, List.take_add_one, List.getElem?_eq_getElem h, List.foldl_append]
  simp [reg, List.getD, h]
theorem rowS_next {ds : List Bool} {i : Nat} (h : i < ds.length) (k : Nat) :
    rowS ds (i + 1) k = if rowS ds i i then flips (fun j => if j = i then false else rowS ds i j) i pows k else rowS ds i k := by
  have hb : rowS ds i i = (ds.getD i false ^^ (reg ds i).getLsbD 0) := by simp [rowS]
  have hge : ∀ k, i + 1 ≤ k → (reg ds (i + 1)).getLsbD (k - (i + 1)) = ((reg ds i).getLsbD (k - i) ^^ (rowS ds i i && cpoly.getLsbD (k - (i + 1)))) := by
    intro k hk
    rw [reg_succ h, cstep, BitVec.getLsbD_xor, BitVec.getLsbD_ushiftRight, show 1 + (k - (i + 1)) = k - i by omega, hb, Bool.xor_comm (ds.getD i false)]
    cases (reg ds i).getLsbD 0 ^^ ds.getD i false <;> simp
  have hfl : ∀ k, (pows.map fun p => decide (k = i + 32 - p)).foldl xor false = if k < i + 1 then false else cpoly.getLsbD (k - (i + 1)) := by
    intro k
    by_cases hk : k < i + 1
    · rw [if_pos hk]
      have : (pows.map fun p => decide (k = i + 32 - p)) = pows.map fun _ => false := by
        refine List.map_congr_left fun p hp => ?_
        have : p < 32 := by revert p; decide
        simp; omega
      rw [this]; decide
    · rw [if_neg hk]
      by_cases hk2 : k - (i + 1) < 32
      · rw [← pows_bit _ hk2]
        congr 1
        refine List.map_congr_left fun p hp => ?_
        have : p < 32 := by revert p; decide
        rw [decide_eq_decide]
        omega
      · have : (pows.map fun p => decide (k = i + 32 - p)) = pows.map fun _ => false := by
          refine List.map_congr_left fun p hp => ?_
          have : p < 32 := by revert p; decide
          simp; omega
        rw [this, BitVec.getLsbD_of_ge _ _ (by omega)]; decide
  split
  · rename_i hr
    rw [flips_eq, hfl]
    by_cases hk : k < i + 1
    · rw [rowS, if_pos hk, if_pos hk]
      by_cases hki : k = i
      · simp [hki]
      · have : k < i := by omega
        simp [hki, rowS, this]
    · have hki : k ≠ i := by omega
      have hki2 : ¬ k < i := by omega
      rw [if_neg hk, rowS, if_neg hk, hge k (by omega), hr]
      simp only [hki, if_false, rowS, hki2, Bool.true_and]
      cases ds.getD k false <;> cases (reg ds i).getLsbD (k - i) <;> cases cpoly.getLsbD (k - (i + 1)) <;> rfl
  · rename_i hr
    have hr : rowS ds i i = false := by simpa using hr
    by_cases hk : k < i + 1
    · rw [rowS, if_pos hk]
      by_cases hki : k = i
      · rw [hki, hr]
      · have : k < i := by omega
        simp [rowS, this]
    · have hki2 : ¬ k < i := by omega
      rw [rowS, if_neg hk, hge k (by omega), hr]
      simp [rowS, hki2]
theorem rowS_zero (ds : List Bool) (k : Nat) : rowS ds 0 k = (ds.getD k false ^^ decide (k < 32)) := by
  show (if k < 0 then false else ds.getD k false ^^ (BitVec.allOnes 32).getLsbD (k - 0)) = _
  rw [if_neg (by omega), Nat.sub_zero, BitVec.getLsbD_allOnes]
/-- the digits of a number, the highest first -/
theorem shr_next (x : B32) (i : Nat) : (x >>> (i + 1)).toNat * 2 + (if x.getLsbD i then 1 else 0) = (x >>> i).toNat := by
  simp only [BitVec.toNat_ushiftRight, Nat.shiftRight_eq_div_pow, Nat.pow_succ, ← Nat.div_div_eq_div_mul]
  have : x.getLsbD i = (x.toNat / 2 ^ i % 2 == 1) := by
    simp only [BitVec.getLsbD, Nat.testBit_eq_decide_div_mod_eq, Bool.beq_eq_decide_eq]
  rw [this]
  rcases Nat.mod_two_eq_zero_or_one (x.toNat / 2 ^ i) with h | h <;> simp [h] <;> omega
end Go.Am
/- The document's check keeps its contract. -/
namespace Go.Am
set_option linter.all false
set_option linter.deprecated false
open Go.Proofs
set_option maxRecDepth 100000
set_option maxHeartbeats 4000000
def digC : Contract := { modes := [.ro], fn := fun args M => match args, M with
  | [.sl _ [.int .u8] xs], [] => some ⟨[fun _ => 8 * (xs ()).length ≤ big], .ms 0 (fun _ => 0) (fun _ => 8 * (xs ()).length), [(0, some (.row false [.bool] fun _ => rowBo (digits (bn (xs ())))))]⟩
  | _, _ => none }
structure DgI (n : Nat) where
  i : Nat
  hi : i ≤ n
structure DkI where
  k : Nat
  hk : k ≤ 8
theorem dig_ok : CSound Try.prog 77 digC := by
  refine fsound' (G := G0) (c := codeOf Try.f77) mixed tyT (gget_nil _) Try.func77 (by rfl) (by kernel_rfl) (by kernel_rfl) fun args M r hr hvc hw hm => ?_
  unfold digC at hr
  simp only at hr
  split at hr <;> cases hr
  rename_i nn xs
  have hb : 8 * (xs ()).length ≤ big := hvc _ (List.mem_singleton.2 rfl)
  clear hvc hm
  have hx : xs = fun _ => xs () := rfl
  generalize xs () = x at hx hb
  subst hx
  have hb : 8 * x.length ≤ 1099511627776 := hb
  simp only [WfVs, WfV, and_true] at hw
  conv => cbv
  refine LoopP.mk (DgI x.length) (fun s => ⟨ev 30 [(0, .sl false U8 fun _ => x), (2, .nils), (3, .ms 0 (fun _ => 0) (fun _ => 8 * s.i)), (4, .int .i64 fun _ => (s.i : Int))], [(0, .row false [.bool] fun _ => rowBo (digits ((bn x).take s.i)))], 8⟩) (fun s => x.length - s.i) ⟨0, Nat.zero_le _⟩ ?_ ?_
  · conv => cbv
    exact ⟨⟨rfl⟩, ⟨rfl, rfl⟩, ⟨rfl⟩, ⟨rfl⟩⟩
  · intro ⟨i, hi⟩
    conv => cbv
    refine Split.mk (fun h => ?_) (fun h => ?_)
    · have h : (i : Int) < (x.length : Int) := of_decide_eq_true h
      have h : i < x.length := by omega
      have v1 : 0 ≤ (i : Int) ∧ (i : Int) < (x.length : Int) := by omega
      have hv := bn_at hw h
      have hc : (bn x).getD i 0 < 256 := bn_lt hw _ (by simp [List.getD, h])
      obtain ⟨c, hcc⟩ : ∃ c, c = (bn x).getD i 0 := ⟨_, rfl⟩
      rw [← hcc] at hv hc
      have hti : (bn x).take (i + 1) = (bn x).take i ++ [c] := by
        rw [List.take_add_one, List.getElem?_eq_getElem (by simpa using h), hcc]
        simp [List.getD, h]
      have hdl : (digits ((bn x).take i)).length = 8 * i := by rw [digits_len]; simp; omega
      conv => cbv
      refine ⟨⟨v1⟩, LoopP.mk DkI (fun s => ⟨ev 30 [(0, .sl false U8 fun _ => x), (2, .nils), (3, .ms 0 (fun _ => 0) (fun _ => 8 * i + s.k)), (4, .int .i64 fun _ => (i : Int)), (5, .int .u8 fun _ => ((c / 2 ^ s.k : Nat) : Int)), (6, .int .i64 fun _ => (s.k : Int))], [(0, .row false [.bool] fun _ => rowBo (digits ((bn x).take i) ++ bits s.k c))], 8⟩) (fun s => 8 - s.k) ⟨0, Nat.zero_le _⟩ ?_ ?_⟩
      · have e0 : (lk (lk x ((i : Int)).toNat) 0).toInt = ((c / 2 ^ 0 : Nat) : Int) := by rw [Int.toNat_natCast, hv]; simp
        have e1 : rowBo (digits ((bn x).take i)) = rowBo (digits ((bn x).take i) ++ bits 0 c) := by simp [bits]
        conv => cbv
        exact ⟨⟨rfl⟩, ⟨rfl, rfl⟩, ⟨rfl⟩, ⟨e0⟩, ⟨rfl⟩, ⟨e1⟩⟩
      · intro ⟨k, hk⟩
        conv => cbv
        refine Split.mk (fun h2 => ?_) (fun h2 => ?_)
        · have h2 : (k : Int) < 8 := of_decide_eq_true h2
          have hq : c / 2 ^ k < 256 := Nat.lt_of_le_of_lt (Nat.div_le_self _ _) hc
          have t1 : (((c / 2 ^ k : Nat) : Int).tmod 2) = ((c / 2 ^ k % 2 : Nat) : Int) := (Int.ofNat_tmod _ 2).symm
          have t2 : (((c / 2 ^ k : Nat) : Int).tdiv 2) = ((c / 2 ^ k / 2 : Nat) : Int) := (Int.ofNat_tdiv _ 2).symm
          have t3 : IntKind.u8.wrap (((c / 2 ^ k : Nat) : Int).tdiv 2) = ((c / 2 ^ (k + 1) : Nat) : Int) := by
            have e : c / 2 ^ k / 2 = c / 2 ^ (k + 1) := by rw [Nat.div_div_eq_div_mul, ← Nat.pow_succ]
            have : c / 2 ^ (k + 1) ≤ c := Nat.div_le_self _ _
            rw [t2, e, wrap_u8_mod]
            generalize c / 2 ^ (k + 1) = z at *
            omega
          have t4 : ((((c / 2 ^ k : Nat) : Int).tmod 2) == 1) = (c / 2 ^ k % 2 == 1) := by
            rcases Nat.mod_two_eq_zero_or_one (c / 2 ^ k) with h | h <;> rw [t1, h] <;> rfl
          have hw1 : IntKind.i64.wrap ((k : Int) + 1) = ((k + 1 : Nat) : Int) := by rw [wrap_i64 (by omega)]; omega
          have hlt : k + 1 ≤ 8 ∧ 8 - (k + 1) < 8 - k := by omega
          have n2 : (2 : Int) ≠ 0 := by decide
          have hbits := bits_succ k c
          have hlen : (rowBo (digits ((bn x).take i) ++ bits k c)).length = 8 * i + k := by simp [hdl]
          have v2 : 8 * i + k + 1 ≤ big := by simp only [big]; omega
          conv => cbv
          refine ⟨⟨n2⟩, ⟨rfl⟩, ⟨Nat.le_of_eq hlen.symm⟩, ⟨v2⟩, ⟨by simp [chunk]⟩, ⟨n2⟩, ⟨k + 1, hlt.1⟩, hlt.2, ?_⟩
          conv => cbv
          refine ⟨⟨rfl⟩, ⟨rfl, ?_⟩, ⟨rfl⟩, ⟨t3⟩, ⟨hw1⟩, ⟨?_⟩⟩
          · simp [chunk]; omega
          · simp only [chunk11, List.drop_zero, List.take_succ_cons, List.take_zero, t4]
            rw [List.take_of_length_le (by omega), hbits]
            simp [rowBo]
        · have h2 : ¬ (k : Int) < 8 := of_decide_eq_false h2
          have hk8 : k = 8 := by omega
          have hw1 : IntKind.i64.wrap ((i : Int) + 1) = ((i + 1 : Nat) : Int) := by rw [wrap_i64 (by omega)]; omega
          have hlt : i + 1 ≤ x.length ∧ x.length - (i + 1) < x.length - i := by omega
          have e1 : digits ((bn x).take i) ++ bits k c = digits ((bn x).take (i + 1)) := by rw [hti, digits_append, hk8]; simp [digits]
          have e2 : 8 * i + k = 8 * (i + 1) := by omega
          conv => cbv
          refine ⟨⟨i + 1, hlt.1⟩, hlt.2, ?_⟩
          conv => cbv
          refine ⟨⟨rfl⟩, ⟨rfl, e2⟩, ⟨hw1⟩, ⟨?_⟩⟩
          exact congrArg rowBo e1
    · have h : ¬ (i : Int) < (x.length : Int) := of_decide_eq_false h
      have hi2 : i = x.length := by omega
      have e : (bn x).take i = bn x := List.take_of_length_le (by simp; omega)
      conv => cbv
      refine ⟨⟨rfl, ?_⟩, ⟨?_⟩⟩
      · show 8 * i = 8 * x.length
        rw [hi2]
      · exact congrArg (fun z => rowBo (digits z)) e
def I64 : List Sh := [.int .i64]
def rowI (ns : List Nat) : List (List D) := ns.map fun (n : Nat) => [D.int (n : Int)]
def powC : Contract := { modes := [], fn := fun args M => match args, M with
  | [], [] => some ⟨[], .ms 0 (fun _ => 0) (fun _ => 14), [(0, some (.row true I64 fun _ => rowI pows))]⟩
  | _, _ => none }
theorem pow_ok : CSound Try.prog 78 powC := by
  refine fsound' (G := G0) (c := codeOf Try.f78) mixed tyT (gget_nil _) Try.func78 (by rfl) (by kernel_rfl) (by kernel_rfl) fun args M r hr hvc hw hm => ?_
  unfold powC at hr
  simp only at hr
  split at hr <;> cases hr
  conv => cbv
  exact ⟨⟨rfl, rfl⟩, ⟨rfl⟩⟩
end Go.Am
/- The document's check keeps its contract: the sum. -/
namespace Go.Am
set_option linter.all false
set_option linter.deprecated false
open Go.Proofs
set_option maxRecDepth 100000
set_option maxHeartbeats 4000000
def rsumC : Contract := { modes := [.ro], fn := fun args M => match args, M with
  | [.sl _ [.int .u8] xs], [] => some ⟨[fun _ => 8 * (xs ()).length + 32 ≤ big], .int .u32 fun _ => ((crcs 0 (bn (xs ()))).toNat : Int), []⟩
  | _, _ => none }
def Lr1 : List (Nat × Contract) := [(77, digC), (78, powC)]
def Gr1 : Ctx := fun f => gget Lr1 f
theorem Gr1_ok : ∀ f C, Gr1 f = some C → CSound Try.prog f C := gget_cons dig_ok (gget_cons pow_ok (gget_nil _))
theorem flips_next (f : Nat → Bool) (i t : Nat) (h : t < 14) : flips f i (pows.take (t + 1)) = flip (flips f i (pows.take t)) (i + 32 - pows.getD t 0) := by
  have hl : t < pows.length := h
  rw [List.take_add_one, List.getElem?_eq_getElem hl, flips, List.foldl_append]
  simp [flips, List.getD, hl]
theorem pow_lt : ∀ t, t < 14 → pows.getD t 0 < 32 := by decide
theorem pow_at {t : Nat} (h : t < 14) : (lk (lk (rowI pows) t) 0).toInt = ((pows.getD t 0 : Nat) : Int) := by
  have hl : t < pows.length := h
  simp [rowI, lk, List.getD, hl, D.toInt]
theorem rsum_ok : CSound Try.prog 30 rsumC := by
  refine fsound' (G := Gr1) (c := codeOf Try.f30) mixed tyT Gr1_ok Try.func30 (by rfl) (by kernel_rfl) (by kernel_rfl) fun args M r hr hvc hw hm => ?_
  unfold rsumC at hr
  simp only at hr
  split at hr <;> cases hr
  rename_i nn xs
  have hb : 8 * (xs ()).length + 32 ≤ big := hvc _ (List.mem_singleton.2 rfl)
  clear hvc hm
  have hx : xs = fun _ => xs () := rfl
  generalize xs () = x at hx hb
  subst hx
  have hb : 8 * x.length + 32 ≤ 1099511627776 := hb
  simp only [WfVs, WfV, and_true] at hw
  obtain ⟨ds, hds⟩ : ∃ ds, ds = digits (bn x) := ⟨_, rfl⟩
  have hdl : ds.length = 8 * x.length := by rw [hds]; simp
  have v0 : 8 * x.length ≤ big := by simp only [big]; omega
  have hbg : ((big : Nat) : Int) = 1099511627776 := rfl
  have v1 : 8 * x.length ≤ (rowBo (digits (bn x))).length := by simp
  have v2 : (0 : Int) ≤ 32 ∧ ((8 * x.length : Nat) : Int) + 32 ≤ (big : Int) := by rw [hbg]; omega
  conv => cbv
  refine ⟨⟨v0⟩, ⟨rfl⟩, ⟨v1⟩, ⟨v2⟩, LoopP.mk {i : Nat // i ≤ 32} (fun i => ⟨ev 84 [(3, .ms 0 (fun _ => 0) (fun _ => ds.length + 32)), (4, .int .i64 fun _ => (i.1 : Int))], [(0, .row false [.bool] fun _ => tab (ds.length + 32) fun k => ds.getD k false ^^ decide (k < i.1))], 8⟩) (fun i => 32 - i.1) ⟨0, Nat.zero_le _⟩ ?_ ?_⟩
  · have e1 : List.take (8 * x.length) (rowBo (digits (bn x))) ++ List.replicate (Int.toNat 32) [D.bool false] = tab (ds.length + 32) fun k => ds.getD k false ^^ decide (k < 0) := by
      rw [List.take_of_length_le (by simp), ← hds]
      have := rowBo_tab ds 32
      rw [show Int.toNat 32 = 32 from rfl, this]
      exact tab_congr fun k _ => by simp
    have e2 : 8 * x.length + Int.toNat 32 = ds.length + 32 := by rw [hdl]; rfl
    conv => cbv
    exact ⟨⟨rfl, e2⟩, ⟨rfl⟩, ⟨e1⟩⟩
  · intro ⟨i, hi⟩
    conv => cbv
    refine Split.mk (fun h => ?_) (fun h => ?_)
    · have h : (i : Int) < 32 := of_decide_eq_true h
      have h : i < 32 := by omega
      have v3 : 0 ≤ (i : Int) ∧ (i : Int) < ((ds.length + 32 : Nat) : Int) := by omega
      have v4 : 0 + ((i : Int)).toNat < (tab (ds.length + 32) fun k => ds.getD k false ^^ decide (k < i)).length := by simp; omega
      have hw1 : IntKind.i64.wrap ((i : Int) + 1) = ((i + 1 : Nat) : Int) := by rw [wrap_i64 (by omega)]; omega
      have hlt : i + 1 ≤ 32 ∧ 32 - (i + 1) < 32 - i := by omega
      have g1 := tab_get (n := ds.length + 32) (k := i) (fun k => ds.getD k false ^^ decide (k < i)) (by omega)
      conv => cbv
      refine ⟨⟨v3⟩, ⟨v4⟩, ⟨v3⟩, ⟨v4⟩, ⟨i + 1, hlt.1⟩, hlt.2, ?_⟩
      conv => cbv
      refine ⟨⟨rfl, rfl⟩, ⟨hw1⟩, ⟨?_⟩⟩
      simp only [dall_one, Nat.zero_add, Int.toNat_natCast, g1, tab_set]
      refine tab_congr fun k _ => ?_
      by_cases hk : k = i
      · subst hk
        have e1 : decide (k < k) = false := by simp
        have e2 : decide (k < k + 1) = true := by simp
        rw [if_pos rfl, e1, e2]; cases ds.getD k false <;> rfl
      · have e1 : decide (k < i) = decide (k < i + 1) := by rw [decide_eq_decide]; omega
        rw [if_neg hk, e1]
    · have h : ¬ (i : Int) < 32 := of_decide_eq_false h
      have hi2 : i = 32 := by omega
      have hw0 : IntKind.i64.wrap (((ds.length + 32 : Nat) : Int) - 32) = (ds.length : Int) := by rw [wrap_i64 (by omega)]; omega
      conv => cbv
      refine LoopP.mk {i : Nat // i ≤ ds.length} (fun i => ⟨ev 84 [(3, .ms 0 (fun _ => 0) (fun _ => ds.length + 32)), (5, .ms 1 (fun _ => 0) (fun _ => 14)), (6, .int .i64 fun _ => (ds.length : Int)), (7, .int .i64 fun _ => (i.1 : Int))],
        [(0, .row false [.bool] fun _ => tab (ds.length + 32) (rowS ds i.1)), (1, .row true I64 fun _ => rowI pows)], 8⟩) (fun i => ds.length - i.1) ⟨0, Nat.zero_le _⟩ ?_ ?_
      · have e3 : (tab (ds.length + 32) fun k => ds.getD k false ^^ decide (k < i)) = tab (ds.length + 32) (rowS ds 0) := tab_congr fun k _ => by rw [rowS_zero, hi2]
        conv => cbv
        exact ⟨⟨rfl, rfl⟩, ⟨rfl, rfl⟩, ⟨hw0⟩, ⟨rfl⟩, ⟨e3⟩, ⟨rfl⟩⟩
      · intro ⟨n, hn⟩
        conv => cbv
        refine Split.mk (fun h2 => ?_) (fun h2 => ?_)
        · have h2 : (n : Int) < (ds.length : Int) := of_decide_eq_true h2
          have h2 : n < ds.length := by omega
          have v3 : 0 ≤ (n : Int) ∧ (n : Int) < ((ds.length + 32 : Nat) : Int) := by omega
          have v4 : 0 + ((n : Int)).toNat < (tab (ds.length + 32) (rowS ds n)).length := by simp; omega
          have hw1 : IntKind.i64.wrap ((n : Int) + 1) = ((n + 1 : Nat) : Int) := by rw [wrap_i64 (by omega)]; omega
          have hlt : n + 1 ≤ ds.length ∧ ds.length - (n + 1) < ds.length - n := by omega
          have g1 : (lk (lk (tab (ds.length + 32) (rowS ds n)) (0 + ((n : Int)).toNat)) 0).toBool = rowS ds n n := by
            rw [Nat.zero_add, Int.toNat_natCast]; exact tab_get (rowS ds n) (by omega)
          conv => cbv
          refine ⟨⟨v3⟩, ⟨v4⟩, Split.mk (fun h3 => ?_) (fun h3 => ?_)⟩
          · have h3 : rowS ds n n = true := g1.symm.trans h3
            have hnx := rowS_next h2
            rw [h3] at hnx
            conv => cbv
            refine ⟨⟨v3⟩, ⟨v4⟩, LoopP.mk {t : Nat // t ≤ 14} (fun t => ⟨ev 84 [(3, .ms 0 (fun _ => 0) (fun _ => ds.length + 32)), (5, .ms 1 (fun _ => 0) (fun _ => 14)), (6, .int .i64 fun _ => (ds.length : Int)), (7, .int .i64 fun _ => (n : Int)), (8, .int .i64 fun _ => (t.1 : Int))],
              [(0, .row false [.bool] fun _ => tab (ds.length + 32) (flips (fun j => if j = n then false else rowS ds n j) n (pows.take t.1))), (1, .row true I64 fun _ => rowI pows)], 8⟩) (fun t => 14 - t.1) ⟨0, Nat.zero_le _⟩ ?_ ?_⟩
            · conv => cbv
              refine ⟨⟨rfl, rfl⟩, ⟨rfl, rfl⟩, ⟨rfl⟩, ⟨rfl⟩, ⟨rfl⟩, ⟨?_⟩, ⟨rfl⟩⟩
              simp only [dall_one, Nat.zero_add, Int.toNat_natCast, tab_set]
              rfl
            · intro ⟨t, ht⟩
              conv => cbv
              refine Split.mk (fun h4 => ?_) (fun h4 => ?_)
              · have h4 : (t : Int) < ((14 : Nat) : Int) := of_decide_eq_true h4
                have h4 : t < 14 := by omega
                have q1 := pow_lt t h4
                have q2 := pow_at h4
                have q3 := flips_next (fun j => if j = n then false else rowS ds n j) n t h4
                obtain ⟨p, hp⟩ : ∃ p, p = pows.getD t 0 := ⟨_, rfl⟩
                obtain ⟨F, hF⟩ : ∃ F, F = flips (fun j => if j = n then false else rowS ds n j) n (pows.take t) := ⟨_, rfl⟩
                rw [← hp] at q1 q2 q3
                rw [← hF] at q3
                have q2' : (lk (lk (rowI pows) (0 + ((t : Int)).toNat)) 0).toInt = (p : Int) := by rw [Nat.zero_add, Int.toNat_natCast]; exact q2
                have w1 : IntKind.i64.wrap (IntKind.i64.wrap ((n : Int) + 32) - (lk (lk (rowI pows) (0 + ((t : Int)).toNat)) 0).toInt) = ((n + 32 - p : Nat) : Int) := by
                  rw [q2', wrap_i64 (n := (n : Int) + 32) (by omega), wrap_i64 (by omega)]; omega
                have v5 : 0 ≤ (t : Int) ∧ (t : Int) < ((14 : Nat) : Int) := by omega
                have v6 : 0 + ((t : Int)).toNat < (rowI pows).length := by rw [Nat.zero_add, Int.toNat_natCast]; exact h4
                have v7 : 0 ≤ IntKind.i64.wrap (IntKind.i64.wrap ((n : Int) + 32) - (lk (lk (rowI pows) (0 + ((t : Int)).toNat)) 0).toInt) ∧ IntKind.i64.wrap (IntKind.i64.wrap ((n : Int) + 32) - (lk (lk (rowI pows) (0 + ((t : Int)).toNat)) 0).toInt) < ((ds.length + 32 : Nat) : Int) := by rw [w1]; omega
                have v8 : 0 + (IntKind.i64.wrap (IntKind.i64.wrap ((n : Int) + 32) - (lk (lk (rowI pows) (0 + ((t : Int)).toNat)) 0).toInt)).toNat < (tab (ds.length + 32) F).length := by rw [w1]; simp; omega
                have g2 : (lk (lk (tab (ds.length + 32) F) (0 + (IntKind.i64.wrap (IntKind.i64.wrap ((n : Int) + 32) - (lk (lk (rowI pows) (0 + ((t : Int)).toNat)) 0).toInt)).toNat)) 0).toBool = F (n + 32 - p) := by
                  rw [w1, Nat.zero_add, Int.toNat_natCast]; exact tab_get F (by omega)
                have g3 : (tab (ds.length + 32) F).set (0 + (IntKind.i64.wrap (IntKind.i64.wrap ((n : Int) + 32) - (lk (lk (rowI pows) (0 + ((t : Int)).toNat)) 0).toInt)).toNat) [D.bool (!(F (n + 32 - p)))] = tab (ds.length + 32) (flip F (n + 32 - p)) := by
                  rw [w1, Nat.zero_add, Int.toNat_natCast, tab_set]
                  refine tab_congr fun j _ => ?_
                  simp only [flip]
                  by_cases hj : j = n + 32 - p
                  · rw [if_pos hj, if_pos hj, hj]
                  · rw [if_neg hj, if_neg hj]
                have hw2 : IntKind.i64.wrap ((t : Int) + 1) = ((t + 1 : Nat) : Int) := by rw [wrap_i64 (by omega)]; omega
                have hlt2 : t + 1 ≤ 14 ∧ 14 - (t + 1) < 14 - t := by omega
                subst hF
                conv => cbv
                refine ⟨⟨v5⟩, ⟨v6⟩, ⟨v5⟩, ⟨v6⟩, ⟨v7⟩, ⟨v8⟩, ⟨v7⟩, ⟨v8⟩, ⟨t + 1, hlt2.1⟩, hlt2.2, ?_⟩
                conv => cbv
                refine ⟨⟨rfl, rfl⟩, ⟨rfl, rfl⟩, ⟨rfl⟩, ⟨rfl⟩, ⟨hw2⟩, ⟨?_⟩, ⟨rfl⟩⟩
                simp only [dall_one]
                rw [g2, g3, ← q3]
              · have h4 : ¬ (t : Int) < ((14 : Nat) : Int) := of_decide_eq_false h4
                have ht2 : t = 14 := by omega
                have e5 : tab (ds.length + 32) (flips (fun j => if j = n then false else rowS ds n j) n (pows.take t)) = tab (ds.length + 32) (rowS ds (n + 1)) := by
                  rw [ht2, show pows.take 14 = pows from rfl]
                  exact tab_congr fun k _ => by rw [hnx k, if_pos rfl]
                conv => cbv
                refine ⟨⟨n + 1, hlt.1⟩, hlt.2, ?_⟩
                conv => cbv
                exact ⟨⟨rfl, rfl⟩, ⟨rfl, rfl⟩, ⟨rfl⟩, ⟨hw1⟩, ⟨e5⟩, ⟨rfl⟩⟩
          · have h3 : rowS ds n n = false := g1.symm.trans h3
            have hnx := rowS_next h2
            rw [h3] at hnx
            have e4 : tab (ds.length + 32) (rowS ds n) = tab (ds.length + 32) (rowS ds (n + 1)) := tab_congr fun k _ => by rw [hnx k]; rfl
            conv => cbv
            refine ⟨⟨n + 1, hlt.1⟩, hlt.2, ?_⟩
            conv => cbv
            exact ⟨⟨rfl, rfl⟩, ⟨rfl, rfl⟩, ⟨rfl⟩, ⟨hw1⟩, ⟨e4⟩, ⟨rfl⟩⟩
        · have h2 : ¬ (n : Int) < (ds.length : Int) := of_decide_eq_false h2
          have hn2 : n = ds.length := by omega
          obtain ⟨X, hX⟩ : ∃ X : B32, X = crcs 0 (bn x) := ⟨_, rfl⟩
          have hreg : ~~~ X = reg ds n := by
            rw [hX, crcs_digits _ _ (bn_lt hw), ← hds, reg, hn2, List.take_length]
            rfl
          conv => cbv
          refine LoopP.mk {j : Nat // j ≤ 32} (fun j => ⟨ev 84 [(3, .ms 0 (fun _ => 0) (fun _ => ds.length + 32)), (6, .int .i64 fun _ => (ds.length : Int)), (9, .int .u32 fun _ => ((X >>> j.1).toNat : Int)), (10, .int .i64 fun _ => (j.1 : Int) - 1)],
            [(0, .row false [.bool] fun _ => tab (ds.length + 32) (rowS ds n))], 8⟩) (fun j => j.1) ⟨32, Nat.le_refl _⟩ ?_ ?_
          · have e6 : (0 : Int) = ((X >>> 32).toNat : Int) := by
              have : X >>> 32 = 0#32 := BitVec.ushiftRight_eq_zero (by decide)
              rw [this]; rfl
            conv => cbv
            exact ⟨⟨rfl, rfl⟩, ⟨rfl⟩, ⟨e6⟩, ⟨rfl⟩, ⟨rfl⟩⟩
          · intro ⟨j, hj⟩
            conv => cbv
            refine Split.mk (fun h5 => ?_) (fun h5 => ?_)
            · have h5 : (0 : Int) ≤ (j : Int) - 1 := of_decide_eq_true h5
              obtain ⟨i2, rfl⟩ : ∃ i2, j = i2 + 1 := ⟨j - 1, by omega⟩
              have w1 : IntKind.i64.wrap ((ds.length : Int) + (((i2 + 1 : Nat) : Int) - 1)) = ((n + i2 : Nat) : Int) := by rw [wrap_i64 (by omega)]; omega
              have v3 : 0 ≤ IntKind.i64.wrap ((ds.length : Int) + (((i2 + 1 : Nat) : Int) - 1)) ∧ IntKind.i64.wrap ((ds.length : Int) + (((i2 + 1 : Nat) : Int) - 1)) < ((ds.length + 32 : Nat) : Int) := by rw [w1]; omega
              have v4 : 0 + (IntKind.i64.wrap ((ds.length : Int) + (((i2 + 1 : Nat) : Int) - 1))).toNat < (tab (ds.length + 32) (rowS ds n)).length := by rw [w1]; simp; omega
              have hbit : (~~~ X).getLsbD i2 = !(X.getLsbD i2) := by
                rw [BitVec.getLsbD_not]
                have : i2 < 32 := by omega
                simp [this]
              have g1 : (lk (lk (tab (ds.length + 32) (rowS ds n)) (0 + (IntKind.i64.wrap ((ds.length : Int) + (((i2 + 1 : Nat) : Int) - 1))).toNat)) 0).toBool = !(X.getLsbD i2) := by
                rw [w1, Nat.zero_add, Int.toNat_natCast, tab_get (rowS ds n) (by omega), rowS, if_neg (by omega), ← hreg, show n + i2 - n = i2 by omega, hbit]
                simp [List.getD, List.getElem?_eq_none (show ds.length ≤ n + i2 by omega)]
              have hs := shr_next X i2
              have hlt := (X >>> i2).isLt
              have w2 : IntKind.u32.wrap (((X >>> (i2 + 1)).toNat : Int) * 2) = (((X >>> (i2 + 1)).toNat * 2 : Nat) : Int) := by
                rw [wrap_u32_mod]
                have : (X >>> (i2 + 1)).toNat * 2 ≤ (X >>> i2).toNat := by rw [← hs]; exact Nat.le_add_right _ _
                omega
              have w3 : IntKind.i64.wrap ((((i2 + 1 : Nat) : Int) - 1) - 1) = (i2 : Int) - 1 := by rw [wrap_i64 (by omega)]; omega
              have hj2 : i2 ≤ 32 ∧ i2 < i2 + 1 := by omega
              conv => cbv
              refine ⟨⟨v3⟩, ⟨v4⟩, Split.mk (fun h6 => ?_) (fun h6 => ?_)⟩
              · simp only [g1, Bool.not_not] at h6
                rw [h6, if_pos rfl] at hs
                have w4 : IntKind.u32.wrap (IntKind.u32.wrap (((X >>> (i2 + 1)).toNat : Int) * 2) + 1) = ((X >>> i2).toNat : Int) := by
                  rw [w2, wrap_u32_mod, ← hs]
                  omega
                conv => cbv
                refine ⟨⟨i2, hj2.1⟩, hj2.2, ?_⟩
                conv => cbv
                exact ⟨⟨rfl, rfl⟩, ⟨rfl⟩, ⟨w4⟩, ⟨w3⟩, ⟨rfl⟩⟩
              · simp only [g1, Bool.not_not] at h6
                rw [h6] at hs
                have hs : (X >>> (i2 + 1)).toNat * 2 = (X >>> i2).toNat := hs
                have w4 : IntKind.u32.wrap (((X >>> (i2 + 1)).toNat : Int) * 2) = ((X >>> i2).toNat : Int) := by rw [w2, hs]
                conv => cbv
                refine ⟨⟨i2, hj2.1⟩, hj2.2, ?_⟩
                conv => cbv
                exact ⟨⟨rfl, rfl⟩, ⟨rfl⟩, ⟨w4⟩, ⟨w3⟩, ⟨rfl⟩⟩
            · have h5 : ¬ (0 : Int) ≤ (j : Int) - 1 := of_decide_eq_false h5
              have hj0 : j = 0 := by omega
              conv => cbv
              refine ⟨?_⟩
              show ((X >>> j).toNat : Int) = ((crcs 0 (bn x)).toNat : Int)
              rw [hj0, ← hX]
              simp
end Go.Am
/- The check of bytes: a short change is seen. -/
namespace Go.Am
set_option linter.all false
set_option linter.deprecated false
theorem csh_zero : csh 0#32 = 0#32 := by decide
theorem citer_zero : ∀ n, citer n 0#32 = 0#32
  | 0 => rfl
  | n + 1 => by rw [citer, csh_zero, citer_zero n]
theorem csh_inj0 {r : B32} (h : csh r = 0#32) : r = 0#32 := by
  rw [csh_eq] at h
  have hb : ∀ i, ((r >>> 1) ^^^ (if r.getLsbD 0 then cpoly else 0#32)).getLsbD i = false := fun i => by rw [h]; simp
  have h0 : r.getLsbD 0 = false := by
    have h31 := hb 31
    rw [BitVec.getLsbD_xor, BitVec.getLsbD_ushiftRight, BitVec.getLsbD_of_ge _ (1 + 31) (by decide)] at h31
    cases hr : r.getLsbD 0 with
    | false => rfl
    | true =>
      rw [hr] at h31
      exact absurd h31 (by decide)
  apply BitVec.eq_of_getLsbD_eq
  intro i hi
  cases i with
  | zero => rw [h0]; simp
  | succ i =>
    have := hb i
    rw [h0, BitVec.getLsbD_xor, BitVec.getLsbD_ushiftRight, Nat.add_comm] at this
    simpa using this
theorem citer_inj0 : ∀ (n : Nat) (r : B32), citer n r = 0#32 → r = 0#32
  | 0, _, h => h
  | n + 1, r, h => csh_inj0 (citer_inj0 n _ h)
theorem cstep_xor (r s : B32) (a b : Bool) : cstep (r ^^^ s) (a ^^ b) = cstep r a ^^^ cstep s b := by
  rw [cstep_eq, cstep_eq, cstep_eq, ← csh_xor]
  congr 1
  have : (if (a ^^ b) then 1#32 else 0#32) = (if a then 1#32 else 0#32) ^^^ (if b then 1#32 else 0#32) := by cases a <;> cases b <;> decide
  rw [this]
  generalize (if a then 1#32 else 0#32) = p
  generalize (if b then 1#32 else 0#32) = q
  ac_rfl
theorem fold_xor : ∀ (ws bs : List Bool) (r s : B32), ws.length = bs.length → (List.zipWith xor ws bs).foldl cstep (r ^^^ s) = ws.foldl cstep r ^^^ bs.foldl cstep s
  | [], [], _, _, _ => rfl
  | a :: ws, b :: bs, r, s, h => by
    simp only [List.zipWith_cons_cons, List.foldl_cons, cstep_xor]
    exact fold_xor ws bs _ _ (by simpa using h)
  | [], _ :: _, _, _, h => by simp at h
  | _ :: _, [], _, _, h => by simp at h
theorem cstep_false (r : B32) : cstep r false = csh r := by rw [cstep_eq]; simp
theorem fold_false : ∀ (n : Nat) (r : B32), (List.replicate n false).foldl cstep r = citer n r
  | 0, _ => rfl
  | n + 1, r => by rw [List.replicate_succ, List.foldl_cons, cstep_false, fold_false n]; rfl
theorem bits_get : ∀ (n c j : Nat), j < n → (bits n c)[j]? = some (c.testBit j)
  | n + 1, c, 0, _ => by
    rw [bits, List.getElem?_cons_zero, Nat.testBit_zero]
    rcases Nat.mod_two_eq_zero_or_one c with h | h <;> rw [h] <;> rfl
  | n + 1, c, j + 1, h => by
    rw [bits, List.getElem?_cons_succ, bits_get n (c / 2) j (by omega), Nat.testBit_succ]
theorem digits_get : ∀ (o : List Nat) (p : Nat), p < 8 * o.length → (digits o)[p]? = some ((o.getD (p / 8) 0).testBit (p % 8))
  | [], p, h => by simp at h
  | x :: o, p, h => by
    simp only [digits, List.flatMap_cons]
    by_cases hp : p < 8
    · rw [List.getElem?_append_left (by simpa using hp), bits_get 8 x p hp, Nat.div_eq_of_lt hp, Nat.mod_eq_of_lt hp]
      rfl
    · rw [List.getElem?_append_right (by simpa using Nat.le_of_not_lt hp), bits_len]
      have := digits_get o (p - 8) (by simp at h; omega)
      simp only [digits] at this
      rw [this]
      have e1 : p / 8 = (p - 8) / 8 + 1 := by omega
      have e2 : p % 8 = (p - 8) % 8 := by omega
      rw [e1, e2]
      rfl
/-- a short change is seen in the check -/
theorem crc_finds {o b : List Nat} {a c : Nat} (ho : ∀ x ∈ o, x < 256) (hb : ∀ x ∈ b, x < 256) (hl : o.length = b.length) (ha : a ≤ 8 * b.length)
    (h : ∀ p, p < 8 * b.length → (o.getD (p / 8) 0).testBit (p % 8) = ((b.getD (p / 8) 0).testBit (p % 8) ^^ (decide (a ≤ p ∧ p < a + 32) && c.testBit (p - a)))) :
    (crcs 0 o = crcs 0 b) ↔ c % 2 ^ (min 32 (8 * b.length - a)) = 0 := by
  obtain ⟨m, hm⟩ : ∃ m, m = min 32 (8 * b.length - a) := ⟨_, rfl⟩
  rw [← hm]
  have hE : digits o = List.zipWith xor (digits b) (List.replicate a false ++ bits m (c % 2 ^ m) ++ List.replicate (8 * b.length - a - m) false) := by
    apply List.ext_getElem?
    intro p
    by_cases hp : p < 8 * b.length
    · rw [digits_get o p (by omega), h p hp, List.getElem?_zipWith, digits_get b p hp]
      have e : (List.replicate a false ++ bits m (c % 2 ^ m) ++ List.replicate (8 * b.length - a - m) false)[p]? = some (decide (a ≤ p ∧ p < a + 32) && c.testBit (p - a)) := by
        rw [List.append_assoc]
        by_cases h1 : p < a
        · have : ¬ a ≤ p := by omega
          rw [List.getElem?_append_left (by simpa using h1)]
          simp [h1, this]
        · rw [List.getElem?_append_right (by simpa using Nat.le_of_not_lt h1), List.length_replicate]
          by_cases h2 : p - a < m
          · have h3 : a ≤ p ∧ p < a + 32 := by omega
            rw [List.getElem?_append_left (by simpa using h2), bits_get m _ _ h2, Nat.testBit_mod_two_pow]
            simp [h2, h3]
          · have h3 : ¬ (a ≤ p ∧ p < a + 32) := by omega
            rw [List.getElem?_append_right (by simpa using Nat.le_of_not_lt h2), bits_len, List.getElem?_replicate, if_pos (by omega)]
            simp [h3]
      rw [e]
    · rw [List.getElem?_eq_none (by rw [digits_len]; omega), List.getElem?_eq_none]
      rw [List.length_zipWith, digits_len]; omega
  have hlen : (digits b).length = (List.replicate a false ++ bits m (c % 2 ^ m) ++ List.replicate (8 * b.length - a - m) false).length := by
    simp; omega
  have h1 : ~~~ (crcs 0#32 o) = (digits o).foldl cstep (~~~ 0#32) := crcs_digits o 0 ho
  have h2 : ~~~ (crcs 0#32 b) = (digits b).foldl cstep (~~~ 0#32) := crcs_digits b 0 hb
  show (crcs 0#32 o = crcs 0#32 b) ↔ _
  have hx := fold_xor (digits b) _ (~~~ 0#32) 0#32 hlen
  rw [BitVec.xor_zero, ← hE, ← h1, ← h2] at hx
  have hF : (List.replicate a false ++ bits m (c % 2 ^ m) ++ List.replicate (8 * b.length - a - m) false).foldl cstep 0#32 = citer (8 * b.length - a - m) (citer m (BitVec.ofNat 32 (c % 2 ^ m))) := by
    rw [List.foldl_append, List.foldl_append, fold_false, fold_false, citer_zero, ← citer_bits m 0#32 _ (Nat.mod_lt _ (Nat.two_pow_pos m)) (by omega), BitVec.zero_xor]
  rw [hF] at hx
  have hc : c % 2 ^ m < 2 ^ 32 := Nat.lt_of_lt_of_le (Nat.mod_lt _ (Nat.two_pow_pos m)) (Nat.pow_le_pow_right (by decide) (by omega))
  constructor
  · intro e
    rw [e] at hx
    have h0 : citer (8 * b.length - a - m) (citer m (BitVec.ofNat 32 (c % 2 ^ m))) = 0#32 := by
      have : ∀ x y : B32, x = x ^^^ y → y = 0#32 := fun x y hxy => by
        have h5 : x ^^^ x = x ^^^ (x ^^^ y) := by rw [← hxy]
        rw [BitVec.xor_self, ← BitVec.xor_assoc, BitVec.xor_self, BitVec.zero_xor] at h5
        exact h5.symm
      exact this _ _ hx
    have h6 := citer_inj0 _ _ (citer_inj0 _ _ h0)
    have h7 := congrArg BitVec.toNat h6
    rw [BitVec.toNat_ofNat, Nat.mod_eq_of_lt hc] at h7
    simpa using h7
  · intro e
    rw [e] at hx
    have h8 : citer (8 * b.length - a - m) (citer m (BitVec.ofNat 32 0)) = 0#32 := by
      rw [show BitVec.ofNat 32 0 = 0#32 from rfl, citer_zero, citer_zero]
    rw [h8, BitVec.xor_zero] at hx
    have h9 := congrArg (fun z : B32 => ~~~ z) hx
    simpa using h9
theorem mod_next (c i : Nat) : c % 2 ^ (i + 1) = 0 ↔ (c % 2 ^ i = 0 ∧ c.testBit i = false) := by
  have h1 := Nat.mod_add_div c (2 ^ i)
  have h2 : c % 2 ^ (i + 1) = c % 2 ^ i + 2 ^ i * (c / 2 ^ i % 2) := by rw [Nat.pow_succ, Nat.mod_mul]
  have h3 := Nat.two_pow_pos i
  rw [h2, Nat.testBit_eq_decide_div_mod_eq]
  rcases Nat.mod_two_eq_zero_or_one (c / 2 ^ i) with h | h <;> rw [h] <;> simp
end Go.Am
/- alibikit.Pick, alibilaw02.CrcFinds keep their contracts. -/
namespace Go.Am
set_option linter.all false
set_option linter.deprecated false
open Go.Proofs
set_option maxRecDepth 100000
set_option maxHeartbeats 4000000
def pickS (i n : Int) : Int := if n ≤ 0 then 0 else i % n
def pickC : Contract := { modes := [.ro, .ro], fn := fun args M => match args, M with
  | [.int .i64 i, .int .i64 n], [] => some ⟨[fun _ => n () < 4611686018427387904], .int .i64 fun _ => pickS (i ()) (n ()), []⟩
  | _, _ => none }
theorem pick_ok : CSound Try.prog 32 pickC := by
  refine fsound' (G := G0) (c := codeOf Try.f32) mixed tyT (gget_nil _) Try.func32 (by rfl) (by kernel_rfl) (by kernel_rfl) fun args M r hr hvc hw hm => ?_
  unfold pickC at hr
  simp only at hr
  split at hr <;> cases hr
  rename_i i n
  have hb : n () < 4611686018427387904 := hvc _ (List.mem_singleton.2 rfl)
  clear hvc hm
  have hx : i = fun _ => i () := rfl
  generalize i () = i at hx
  subst hx
  have hx : n = fun _ => n () := rfl
  generalize n () = n at hx hb
  subst hx
  simp only [WfVs, WfV, and_true, i64_iff] at hw
  conv => cbv
  refine Split.mk (fun h => ?_) (fun h => ?_)
  · have h : n ≤ 0 := of_decide_eq_true h
    have e : pickS i n = 0 := if_pos h
    conv => cbv
    simp only [Hold.iff, e]
  · have h : ¬ n ≤ 0 := of_decide_eq_false h
    have hn : n ≠ 0 := by omega
    have e : pickS i n = i % n := if_neg h
    have e1 := Int.emod_nonneg i hn
    have e2 := Int.emod_lt_of_pos i (show 0 < n by omega)
    have key : (IntKind.i64.wrap (i.tmod n + n)).tmod n = pickS i n := by
      rw [e]
      by_cases hi : 0 ≤ i
      · rw [Int.tmod_eq_emod_of_nonneg hi, wrap_i64 (by omega), Int.tmod_eq_emod_of_nonneg (by omega), Int.add_emod_right, Int.emod_emod_of_dvd _ (Int.dvd_refl n)]
      · have h1 : i.tmod n = -((-i) % n) := by
          have : i = -(-i) := by omega
          rw [this, Int.neg_tmod, Int.tmod_eq_emod_of_nonneg (by omega), Int.neg_neg]
        have h3 := Int.emod_nonneg (-i) hn
        have h4 := Int.emod_lt_of_pos (-i) (show 0 < n by omega)
        rw [h1, wrap_i64 (by omega), Int.tmod_eq_emod_of_nonneg (by omega), Int.add_emod_right]
        have h5 : (-((-i) % n)) % n = i % n := by
          have : -((-i) % n) = i + n * ((-i) / n) := by
            have := Int.emod_add_mul_ediv (-i) n
            omega
          rw [this, Int.add_mul_emod_self_left]
        exact h5
    conv => cbv
    exact ⟨⟨hn⟩, ⟨hn⟩, ⟨key⟩⟩
def findsC : Contract := { modes := [], fn := fun args M => match args, M with
  | [.sl _ [.int .u8] _, .int .i64 _, .int .u32 _], [] => some ⟨[], .bool (fun _ => true), []⟩
  | _, _ => none }
def Lf1 : List (Nat × Contract) := [(27, trueC), (20, ownC), (32, pickC), (33, sumC)]
def Gf1 : Ctx := fun f => gget Lf1 f
theorem Gf1_ok : ∀ f C, Gf1 f = some C → CSound Try.prog f C := gget_cons works2_ok (gget_cons own_ok (gget_cons pick_ok (gget_cons sum_ok (gget_nil _))))
theorem bn_set (o : List (List D)) (k v : Nat) : bn (o.set k [D.int (v : Int)]) = (bn o).set k v := by
  simp only [bn, List.map_set]
  rfl
theorem WfR.set8 {o : List (List D)} (h : WfR U8 o) (k v : Nat) (hv : v < 256) : WfR U8 (o.set k [D.int (v : Int)]) := by
  refine ⟨by simpa using h.1, fun i hi => ?_⟩
  rw [List.length_set] at hi
  by_cases hk : k = i
  · subst hk
    have : lk (o.set k [D.int (v : Int)]) k = [D.int (v : Int)] := by simp [lk, List.getD, hi]
    rw [this]
    simp only [WfDs, WfD, and_true, lk, List.getD, List.getElem?_cons_zero, Option.getD_some, D.toInt, u8_iff]
    omega
  · have : lk (o.set k [D.int (v : Int)]) i = lk o i := by simp only [lk, List.getD]; rw [List.getElem?_set_ne hk]
    rw [this]
    exact h.2 i hi
structure FnI (b : List (List D)) (a c : Nat) where
  i : Nat
  o : List (List D)
  hi : i ≤ 32
  hl : o.length = b.length
  ho : WfR U8 o
  h : ∀ p, p < 8 * b.length → ((bn o).getD (p / 8) 0).testBit (p % 8) = (((bn b).getD (p / 8) 0).testBit (p % 8) ^^ (decide (a ≤ p ∧ p < a + i) && c.testBit (p - a)))
theorem fn_yes {b : List (List D)} {a c : Nat} (s : FnI b a c) (h1 : s.i < 32) (hc : c.testBit s.i = true) (h2 : a + s.i < 8 * b.length) :
    ∃ s' : FnI b a c, s'.i = s.i + 1 ∧ s'.o = s.o.set ((a + s.i) / 8) [D.int (((bn s.o).getD ((a + s.i) / 8) 0 ^^^ 2 ^ ((a + s.i) % 8) : Nat) : Int)] := by
  obtain ⟨i, o, hi, hl, ho, h⟩ := s
  simp only at h1 hc h2 ⊢
  have hk : (a + i) / 8 < o.length := by omega
  have hv : (bn o).getD ((a + i) / 8) 0 < 256 := bn_lt ho _ (by simp [List.getD, hk])
  have hv2 : (bn o).getD ((a + i) / 8) 0 ^^^ 2 ^ ((a + i) % 8) < 256 := Nat.xor_lt_two_pow (n := 8) hv (Nat.pow_lt_pow_right (by decide) (Nat.mod_lt _ (by decide)))
  refine ⟨⟨i + 1, o.set ((a + i) / 8) [D.int (((bn o).getD ((a + i) / 8) 0 ^^^ 2 ^ ((a + i) % 8) : Nat) : Int)], by omega, by simpa using hl, ho.set8 _ _ hv2, fun p hp => ?_⟩, rfl, rfl⟩
  have hk' : (a + i) / 8 < (bn o).length := by simpa using hk
  have hp' := h p hp
  rw [bn_set]
  by_cases hq : p / 8 = (a + i) / 8
  · have e1 : ((bn o).set ((a + i) / 8) ((bn o).getD ((a + i) / 8) 0 ^^^ 2 ^ ((a + i) % 8))).getD (p / 8) 0 = (bn o).getD (p / 8) 0 ^^^ 2 ^ ((a + i) % 8) := by
      rw [hq]
      simp only [List.getD]
      rw [List.getElem?_set_self hk']
      rfl
    rw [e1, Nat.testBit_xor, hp', Nat.testBit_two_pow]
    by_cases hr : p = a + i
    · subst hr
      have d1 : decide (a ≤ a + i ∧ a + i < a + i) = false := by simp
      have d2 : decide (a ≤ a + i ∧ a + i < a + (i + 1)) = true := by rw [decide_eq_true_iff]; omega
      rw [d1, d2, Nat.add_sub_cancel_left, hc]
      simp
    · have d1 : decide (a ≤ p ∧ p < a + i) = decide (a ≤ p ∧ p < a + (i + 1)) := by rw [decide_eq_decide]; omega
      have d2 : decide ((a + i) % 8 = p % 8) = false := by rw [decide_eq_false_iff_not]; omega
      rw [d1, d2]
      simp
  · have e1 : ((bn o).set ((a + i) / 8) ((bn o).getD ((a + i) / 8) 0 ^^^ 2 ^ ((a + i) % 8))).getD (p / 8) 0 = (bn o).getD (p / 8) 0 := by
      simp only [List.getD]
      rw [List.getElem?_set_ne (Ne.symm hq)]
    have d1 : decide (a ≤ p ∧ p < a + i) = decide (a ≤ p ∧ p < a + (i + 1)) := by rw [decide_eq_decide]; omega
    rw [e1, hp', d1]
theorem fn_no {b : List (List D)} {a c : Nat} (s : FnI b a c) (h1 : s.i < 32) (hc : c.testBit s.i = false ∨ ¬ a + s.i < 8 * b.length) : ∃ s' : FnI b a c, s'.i = s.i + 1 ∧ s'.o = s.o := by
  obtain ⟨i, o, hi, hl, ho, h⟩ := s
  simp only at h1 hc ⊢
  refine ⟨⟨i + 1, o, by omega, hl, ho, fun p hp => ?_⟩, rfl, rfl⟩
  rw [h p hp]
  by_cases hr : p = a + i
  · subst hr
    have hc : c.testBit i = false := hc.resolve_right (by omega)
    rw [Nat.add_sub_cancel_left, hc]
    simp
  · have d1 : decide (a ≤ p ∧ p < a + i) = decide (a ≤ p ∧ p < a + (i + 1)) := by rw [decide_eq_decide]; omega
    rw [d1]
theorem ishl8 (t : Nat) (h : t < 8) : ishl .u8 1 (t : Int) = ((2 ^ t : Nat) : Int) := by
  have : ∀ t : Nat, t < 8 → ishl .u8 1 (t : Int) = ((2 ^ t : Nat) : Int) := by decide
  exact this t h
theorem finds_ok : CSound Try.prog 6 findsC := by
  refine fsound' (G := Gf1) (c := codeOf Try.f6) mixed tyT Gf1_ok Try.func6 (by rfl) (by kernel_rfl) (by kernel_rfl) fun args M r hr hvc hw hm => ?_
  unfold findsC at hr
  simp only at hr
  split at hr <;> cases hr
  rename_i nn b at_ c
  clear hvc hm
  have hx : b = fun _ => b () := rfl
  generalize b () = b at hx
  subst hx
  have hx : at_ = fun _ => at_ () := rfl
  generalize at_ () = q at hx
  subst hx
  have hx : c = fun _ => c () := rfl
  generalize c () = c at hx
  subst hx
  simp only [WfVs, WfV, and_true, i64_iff, u32_iff] at hw
  obtain ⟨hb, hq, hc⟩ := hw
  have ⟨c, hcc⟩ := Int.eq_ofNat_of_zero_le hc.1
  subst hcc
  conv => cbv
  refine Split.mk (fun h => ?_) (fun h => ?_)
  · conv => cbv
    refine .yes ?_
    conv => cbv
    refine .yes ?_
    conv => cbv
    exact ⟨rfl⟩
  · have h : ¬ (400 : Int) < b.length := of_decide_eq_false h
    have hb4 : b.length ≤ 400 := by omega
    conv => cbv
    refine Split.mk (fun h2 => ?_) (fun h2 => ?_)
    · conv => cbv
      refine .yes ?_
      conv => cbv
      exact ⟨rfl⟩
    · have h2 : (b.length : Int) ≠ 0 := eq_f h2
      conv => cbv
      refine Split.mk (fun h3 => ?_) (fun h3 => ?_)
      · conv => cbv
        exact ⟨rfl⟩
      · have h3 : (c : Int) ≠ 0 := eq_f h3
        have v1 : b.length ≤ big := by simp only [big]; omega
        have w8 : IntKind.i64.wrap (8 * (b.length : Int)) = ((8 * b.length : Nat) : Int) := by rw [wrap_i64 (by omega)]; omega
        have v2 : IntKind.i64.wrap (8 * (b.length : Int)) < 4611686018427387904 := by rw [w8]; omega
        obtain ⟨a, ha⟩ : ∃ a : Nat, pickS q (IntKind.i64.wrap (8 * (b.length : Int))) = (a : Int) := by
          rw [w8, pickS, if_neg (by omega)]
          exact ⟨(q % ((8 * b.length : Nat) : Int)).toNat, by have := Int.emod_nonneg q (show ((8 * b.length : Nat) : Int) ≠ 0 by omega); omega⟩
        have hal : a < 8 * b.length := by
          have h4 := Int.emod_lt_of_pos q (show (0 : Int) < ((8 * b.length : Nat) : Int) by omega)
          rw [w8, pickS, if_neg (by omega)] at ha
          omega
        have hbi : 8 * b.length - a > 0 := by omega
        conv => cbv
        refine ⟨⟨v1⟩, ⟨v2⟩, LoopP.mk (FnI b a c) (fun s => ⟨ev 78 [(0, .sl false U8 fun _ => b), (1, .int .i64 fun _ => (a : Int)), (2, .int .u32 fun _ => ((c / 2 ^ s.i : Nat) : Int)), (6, .bool fun _ => false), (7, .ms 0 (fun _ => 0) (fun _ => b.length)), (8, .bool fun _ => decide (c % 2 ^ (min s.i (8 * b.length - a)) ≠ 0)), (9, .int .i64 fun _ => (s.i : Int))], [(0, .row false U8 fun _ => s.o)], 8⟩) (fun s => 32 - s.i) ⟨0, b, by omega, rfl, hb, fun p hp => by
          have : decide (a ≤ p ∧ p < a + 0) = false := by rw [decide_eq_false_iff_not]; omega
          rw [this]; simp⟩ ?_ ?_⟩
        · have e1 : (c : Int) = ((c / 2 ^ 0 : Nat) : Int) := by simp
          have e2 : false = decide (c % 2 ^ (min 0 (8 * b.length - a)) ≠ 0) := by simp [Nat.mod_one]
          conv => cbv
          exact ⟨⟨rfl⟩, ⟨ha⟩, ⟨e1⟩, ⟨rfl⟩, ⟨rfl, rfl⟩, ⟨e2⟩, ⟨rfl⟩, ⟨rfl⟩⟩
        · intro s
          have hsi := s.hi
          have hsl := s.hl
          have t1 : (((c / 2 ^ s.i : Nat) : Int).tmod 2 == 1) = c.testBit s.i := by
            have e : (((c / 2 ^ s.i : Nat) : Int).tmod 2) = ((c / 2 ^ s.i % 2 : Nat) : Int) := (Int.ofNat_tmod _ 2).symm
            rw [e, Nat.testBit_eq_decide_div_mod_eq]
            rcases Nat.mod_two_eq_zero_or_one (c / 2 ^ s.i) with h | h <;> rw [h] <;> rfl
          have t2 : IntKind.u32.wrap (((c / 2 ^ s.i : Nat) : Int).tdiv 2) = ((c / 2 ^ (s.i + 1) : Nat) : Int) := by
            have e : (((c / 2 ^ s.i : Nat) : Int).tdiv 2) = ((c / 2 ^ s.i / 2 : Nat) : Int) := (Int.ofNat_tdiv _ 2).symm
            have e2 : c / 2 ^ s.i / 2 = c / 2 ^ (s.i + 1) := by rw [Nat.div_div_eq_div_mul, ← Nat.pow_succ]
            have e3 : c / 2 ^ (s.i + 1) ≤ c := Nat.div_le_self _ _
            rw [e, e2, wrap_u32_mod]
            generalize c / 2 ^ (s.i + 1) = z at *
            omega
          have n2 : (2 : Int) ≠ 0 := by decide
          have n8 : (8 : Int) ≠ 0 := by decide
          conv => cbv
          refine Split.mk (fun h4 => ?_) (fun h4 => ?_)
          · have h4 : (s.i : Int) < 32 := of_decide_eq_true h4
            have h4 : s.i < 32 := by omega
            have w1 : IntKind.i64.wrap ((s.i : Int) + 1) = ((s.i + 1 : Nat) : Int) := by rw [wrap_i64 (by omega)]; omega
            have w2 : IntKind.i64.wrap ((a : Int) + (s.i : Int)) = ((a + s.i : Nat) : Int) := by rw [wrap_i64 (by omega)]; omega
            have hlt : 32 - (s.i + 1) < 32 - s.i := by omega
            have hmn := mod_next c s.i
            conv => cbv
            refine ⟨⟨n2⟩, Split.mk (fun h5 => ?_) (fun h5 => ?_)⟩
            · have h5 : c.testBit s.i = true := t1.symm.trans h5
              conv => cbv
              refine Split.mk (fun h6 => ?_) (fun h6 => ?_)
              · have h6 : IntKind.i64.wrap ((a : Int) + (s.i : Int)) < IntKind.i64.wrap (8 * (b.length : Int)) := of_decide_eq_true h6
                rw [w2, w8] at h6
                have h6 : a + s.i < 8 * b.length := by omega
                obtain ⟨s', g1, g2⟩ := fn_yes s h4 h5 h6
                have wq : IntKind.i64.wrap ((IntKind.i64.wrap ((a : Int) + (s.i : Int))).tdiv 8) = (((a + s.i) / 8 : Nat) : Int) := by
                  have e : (((a + s.i : Nat) : Int).tdiv 8) = (((a + s.i) / 8 : Nat) : Int) := (Int.ofNat_tdiv _ 8).symm
                  rw [w2, e, wrap_i64 (by omega)]
                have wm : (IntKind.i64.wrap ((a : Int) + (s.i : Int))).tmod 8 = (((a + s.i) % 8 : Nat) : Int) := by
                  have e : (((a + s.i : Nat) : Int).tmod 8) = (((a + s.i) % 8 : Nat) : Int) := (Int.ofNat_tmod _ 8).symm
                  rw [w2, e]
                have v3 : 0 ≤ IntKind.i64.wrap ((IntKind.i64.wrap ((a : Int) + (s.i : Int))).tdiv 8) ∧ IntKind.i64.wrap ((IntKind.i64.wrap ((a : Int) + (s.i : Int))).tdiv 8) < (b.length : Int) := by rw [wq]; omega
                have v4 : 0 + (IntKind.i64.wrap ((IntKind.i64.wrap ((a : Int) + (s.i : Int))).tdiv 8)).toNat < s.o.length := by rw [wq]; omega
                have v5 : 0 ≤ (IntKind.i64.wrap ((a : Int) + (s.i : Int))).tmod 8 := by rw [wm]; omega
                have hk : (a + s.i) / 8 < s.o.length := by omega
                have hld : (lk (lk s.o (0 + (IntKind.i64.wrap ((IntKind.i64.wrap ((a : Int) + (s.i : Int))).tdiv 8)).toNat)) 0).toInt = (((bn s.o).getD ((a + s.i) / 8) 0 : Nat) : Int) := by
                  rw [wq, Nat.zero_add, Int.toNat_natCast]; exact bn_at s.ho hk
                have hvv : (bn s.o).getD ((a + s.i) / 8) 0 < 256 := bn_lt s.ho _ (by simp [List.getD, hk])
                have hx8 : ibits .xor .u8 ((lk (lk s.o (0 + (IntKind.i64.wrap ((IntKind.i64.wrap ((a : Int) + (s.i : Int))).tdiv 8)).toNat)) 0).toInt) (ishl .u8 1 ((IntKind.i64.wrap ((a : Int) + (s.i : Int))).tmod 8)) = (((bn s.o).getD ((a + s.i) / 8) 0 ^^^ 2 ^ ((a + s.i) % 8) : Nat) : Int) := by
                  rw [hld, wm, ishl8 _ (Nat.mod_lt _ (by decide)), ib_xor8 _ _ hvv (Nat.pow_lt_pow_right (by decide) (Nat.mod_lt _ (by decide)))]
                have ech : true = decide (c % 2 ^ (min s'.i (8 * b.length - a)) ≠ 0) := by
                  symm
                  rw [decide_eq_true_iff, g1, show min (s.i + 1) (8 * b.length - a) = s.i + 1 by omega, Ne, hmn, h5]
                  simp
                have g3 : IntKind.u32.wrap (((c / 2 ^ s.i : Nat) : Int).tdiv 2) = ((c / 2 ^ s'.i : Nat) : Int) := by rw [g1]; exact t2
                have g4 : IntKind.i64.wrap ((s.i : Int) + 1) = (s'.i : Int) := by rw [g1]; exact w1
                have g5 : 32 - s'.i < 32 - s.i := by rw [g1]; exact hlt
                have g6 : s.o.set (0 + (IntKind.i64.wrap ((IntKind.i64.wrap ((a : Int) + (s.i : Int))).tdiv 8)).toNat) [D.int (ibits .xor .u8 ((lk (lk s.o (0 + (IntKind.i64.wrap ((IntKind.i64.wrap ((a : Int) + (s.i : Int))).tdiv 8)).toNat)) 0).toInt) (ishl .u8 1 ((IntKind.i64.wrap ((a : Int) + (s.i : Int))).tmod 8)))] = s'.o := by
                  rw [hx8, g2, wq, Nat.zero_add, Int.toNat_natCast]
                conv => cbv
                refine ⟨⟨n8⟩, ⟨v3⟩, ⟨v4⟩, ⟨n8⟩, ⟨v5⟩, ⟨v3⟩, ⟨v4⟩, ⟨n2⟩, ⟨s', g5, ?_⟩⟩
                conv => cbv
                exact ⟨⟨rfl⟩, ⟨rfl⟩, ⟨g3⟩, ⟨rfl⟩, ⟨rfl, rfl⟩, ⟨ech⟩, ⟨g4⟩, ⟨g6⟩⟩
              · have h6 : ¬ IntKind.i64.wrap ((a : Int) + (s.i : Int)) < IntKind.i64.wrap (8 * (b.length : Int)) := of_decide_eq_false h6
                rw [w2, w8] at h6
                have h6 : ¬ a + s.i < 8 * b.length := by omega
                obtain ⟨s', g1, g2⟩ := fn_no s h4 (.inr h6)
                have ech : decide (c % 2 ^ (min s.i (8 * b.length - a)) ≠ 0) = decide (c % 2 ^ (min s'.i (8 * b.length - a)) ≠ 0) := by
                  rw [g1, show min (s.i + 1) (8 * b.length - a) = min s.i (8 * b.length - a) by omega]
                have g3 : IntKind.u32.wrap (((c / 2 ^ s.i : Nat) : Int).tdiv 2) = ((c / 2 ^ s'.i : Nat) : Int) := by rw [g1]; exact t2
                have g4 : IntKind.i64.wrap ((s.i : Int) + 1) = (s'.i : Int) := by rw [g1]; exact w1
                have g5 : 32 - s'.i < 32 - s.i := by rw [g1]; exact hlt
                conv => cbv
                refine ⟨⟨n2⟩, ⟨s', g5, ?_⟩⟩
                conv => cbv
                exact ⟨⟨rfl⟩, ⟨rfl⟩, ⟨g3⟩, ⟨rfl⟩, ⟨rfl, rfl⟩, ⟨ech⟩, ⟨g4⟩, ⟨g2.symm⟩⟩
            · have h5 : c.testBit s.i = false := t1.symm.trans h5
              obtain ⟨s', g1, g2⟩ := fn_no s h4 (.inl h5)
              have ech : decide (c % 2 ^ (min s.i (8 * b.length - a)) ≠ 0) = decide (c % 2 ^ (min s'.i (8 * b.length - a)) ≠ 0) := by
                rw [g1]
                by_cases h7 : s.i < 8 * b.length - a
                · rw [show min (s.i + 1) (8 * b.length - a) = s.i + 1 by omega, show min s.i (8 * b.length - a) = s.i by omega, decide_eq_decide, Ne, Ne, hmn, h5]
                  simp
                · rw [show min (s.i + 1) (8 * b.length - a) = min s.i (8 * b.length - a) by omega]
              have g3 : IntKind.u32.wrap (((c / 2 ^ s.i : Nat) : Int).tdiv 2) = ((c / 2 ^ s'.i : Nat) : Int) := by rw [g1]; exact t2
              have g4 : IntKind.i64.wrap ((s.i : Int) + 1) = (s'.i : Int) := by rw [g1]; exact w1
              have g5 : 32 - s'.i < 32 - s.i := by rw [g1]; exact hlt
              conv => cbv
              refine .no ?_
              conv => cbv
              refine ⟨⟨n2⟩, ⟨s', g5, ?_⟩⟩
              conv => cbv
              exact ⟨⟨rfl⟩, ⟨rfl⟩, ⟨g3⟩, ⟨rfl⟩, ⟨rfl, rfl⟩, ⟨ech⟩, ⟨g4⟩, ⟨g2.symm⟩⟩
          · have h4 : ¬ (s.i : Int) < 32 := of_decide_eq_false h4
            have h32 : s.i = 32 := by omega
            have hfin := crc_finds (c := c) (a := a) (bn_lt s.ho) (bn_lt hb) (by simpa using s.hl) (by rw [bn_len]; omega) (fun p hp => by
              have := s.h p (by simpa using hp)
              rw [h32] at this
              exact this)
            rw [bn_len] at hfin
            have e1 : s.o.take b.length = s.o := List.take_of_length_le (by omega)
            have e2 : ((((crcs 0 (bn s.o)).toNat : Int) != ((crcs 0 (bn b)).toNat : Int)) == decide (c % 2 ^ (min s.i (8 * b.length - a)) ≠ 0)) = true := by
              rw [h32, beq_iff_eq]
              by_cases hz : c % 2 ^ (min 32 (8 * b.length - a)) = 0
              · rw [hfin.2 hz]
                simp [hz]
              · have hne : crcs 0 (bn s.o) ≠ crcs 0 (bn b) := fun hh => hz (hfin.1 hh)
                have : ((crcs 0 (bn s.o)).toNat : Int) ≠ ((crcs 0 (bn b)).toNat : Int) := fun hh => hne (BitVec.eq_of_toNat_eq (by omega))
                rw [bne_iff_ne.2 this]
                simp [hz]
            conv => cbv
            refine ⟨⟨by simp; omega⟩, ⟨by simp⟩, ⟨?_⟩, ⟨by simp⟩, ⟨?_⟩, .ofT ?_ ?_⟩
            · simp; omega
            · simp; omega
            · simp only [chunk11, List.drop_zero, List.take_succ_cons, List.take_zero, fl_one, e1]
              exact e2
            · conv => cbv
              exact ⟨rfl⟩
end Go.Am
/- alibilaw01.VarintWrites keeps its contract: it returns true. -/
namespace Go.Am
set_option linter.all false
set_option linter.deprecated false
open Go.Proofs
set_option maxRecDepth 100000
set_option maxHeartbeats 4000000
def Lw8 : List (Nat × Contract) := [(18, trueC), (20, ownC), (22, sameC), (23, rputC'), (25, spoilC), (32, pickC), (34, fewC), (35, numberC), (36, rawC), (37, textC), (38, bytesC), (39, wlenC)]
def Gw8 : Ctx := fun f => gget Lw8 f
theorem Gw8_ok : ∀ f C, Gw8 f = some C → CSound Try.prog f C := gget_cons works_ok (gget_cons own_ok (gget_cons same_ok (gget_cons rput_ok (gget_cons spoil_ok (gget_cons pick_ok (gget_cons few_ok (gget_cons number_ok (gget_cons raw_ok (gget_cons text_ok (gget_cons bytes_ok (gget_cons wlen_ok (gget_nil _))))))))))))
def adds (c : List D) : List (List D) :=
  if pickS (lk c 0).toInt 4 = 0 then rowB (putB (lk c 1).toInt.toNat)
  else if pickS (lk c 0).toInt 4 = 1 then (lk c 3).toList
  else if pickS (lk c 0).toInt 4 = 2 then rowB (putB (lk c 3).toList.length) ++ (lk c 3).toList
  else rowB (puts (un (lk c 4).toList))
theorem few_lens {c : List D} (h : fewOk c = true) : (lk c 3).toList.length ≤ 60 ∧ (lk c 4).toList.length ≤ 60 := by
  simp [fewOk] at h; omega
theorem adds_len {c : List D} (h : fewOk c = true) : (adds c).length ≤ 600 := by
  have h := few_lens h
  have h1 := put1_len 9 (lk c 1).toInt.toNat
  have h2 := put1_len 9 (lk c 3).toList.length
  have h3 := puts_len (un (lk c 4).toList)
  rw [un_len] at h3
  rw [← putB] at h1 h2
  unfold adds
  split
  · rw [rowB_len]; omega
  · split
    · omega
    · split
      · rw [List.length_append, rowB_len]; omega
      · rw [rowB_len]; omega
theorem fewS_at {x : List (List D)} {i : Nat} (h : fewS x = true) (hi : i < x.length) : fewOk (lk x i) = true := by
  simp only [fewS, Bool.and_eq_true, decide_eq_true_eq, List.all_eq_true] at h
  refine h.1 _ ?_
  have e : lk x i = (x.take 31)[i]'(by simp; omega) := by simp [lk, List.getD, hi]
  rw [e]
  exact List.getElem_mem _
def writesC : Contract := { modes := [.ro], fn := fun args M => match args, M with
  | [.sl _ [.int .i64, .int .u64, .int .i64, .slice [.int .u8], .slice [.int .u64]] xs], [] => some ⟨[], .bool fun _ => true, []⟩
  | _, _ => none }
structure WrI (x : List (List D)) where
  i : Nat
  hi : i ≤ x.length
  out : List (List D)
  hb : out.length ≤ 600 * i
theorem writes_ok : CSound Try.prog 8 writesC := by
  refine fsound' (G := Gw8) (c := codeOf Try.f8) mixed tyT Gw8_ok Try.func8 (by rfl) (by kernel_rfl) (by kernel_rfl) fun args M r hr hvc hw hm => ?_
  unfold writesC at hr
  simp only at hr
  split at hr <;> cases hr
  rename_i nn xs
  clear hvc hm
  have hx : xs = fun _ => xs () := rfl
  generalize xs () = x at hx
  subst hx
  simp only [WfVs, WfV, and_true] at hw
  have hx := hw.1
  conv => cbv
  refine Split.mk (fun h => ?_) (fun h => ?_)
  · conv => cbv
    exact ⟨rfl⟩
  have hF : fewS x = true := by simpa using h
  have hlen : x.length ≤ 30 := by simp only [fewS, Bool.and_eq_true, decide_eq_true_eq] at hF; exact hF.2
  conv => cbv
  refine LoopP.mk (WrI x) (fun s => ⟨ev 107 [(0, .sl false ActS fun _ => x), (2, .bool fun _ => false), (3, .mp 0 0), (4, .ms 2 (fun _ => 0) fun _ => s.out.length), (5, .int .i64 fun _ => (s.i : Int))], [(0, .obj [.ms 1 (fun _ => 0) (fun _ => s.out.length)]), (1, .row false U8 fun _ => s.out), (2, .row false U8 fun _ => s.out)], 8⟩) (fun s => x.length - s.i) ⟨0, Nat.zero_le _, [], by simp⟩ ?_ ?_
  · conv => cbv
    simp [Hold.iff]
  · intro s
    have hi := s.hi
    have hb := s.hb
    conv => cbv
    refine Split.mk (fun h1 => ?_) (fun h1 => ?_)
    · have h1 : (s.i : Int) < (x.length : Int) := of_decide_eq_true h1
      have h1 : s.i < x.length := by omega
      have v1 : 0 ≤ (s.i : Int) ∧ (s.i : Int) < (x.length : Int) := by omega
      have hw1 : IntKind.i64.wrap ((s.i : Int) + 1) = ((s.i + 1 : Nat) : Int) := by rw [wrap_i64 (by omega)]; omega
      have hf := fewS_at hF h1
      have ho : s.out.length ≤ 18000 := by omega
      have hc : lk x ((s.i : Int)).toNat = lk x s.i := by rw [Int.toNat_natCast]
      rw [← hc] at hf
      have hnext : ∀ out : List (List D), out.length ≤ s.out.length + 600 → out.length ≤ 600 * (s.i + 1) := fun out h => by omega
      have hlt : x.length - (s.i + 1) < x.length - s.i := by omega
      conv => cbv
      refine ⟨⟨v1⟩, ?_⟩
      generalize lk x ((s.i : Int)).toNat = c at hf ⊢
      have hl := few_lens hf
      have ha := adds_len hf
      have h1p := (put1_len 9 (lk c 1).toInt.toNat).2
      have h2p := (put1_len 9 (lk c 3).toList.length).2
      rw [← putB] at h1p h2p
      have hu : IntKind.u64.wrap ((lk c 3).toList.length : Int) = ((lk c 3).toList.length : Int) := wrap_u64 (by omega)
      have hu2 : ∀ n : Int, puts (un [[D.int n]]) = putB n.toNat := fun n => by rw [un_one, puts_one]
      have t1 : List.take (s.out.length + (putB (lk c 3).toList.length).length) (s.out ++ rowB (putB (lk c 3).toList.length)) = s.out ++ rowB (putB (lk c 3).toList.length) := List.take_of_length_le (by simp)
      have t2 : List.take (s.out.length + ((putB (lk c 3).toList.length).length + (lk c 3).toList.length)) (s.out ++ (rowB (putB (lk c 3).toList.length) ++ (lk c 3).toList)) = s.out ++ (rowB (putB (lk c 3).toList.length) ++ (lk c 3).toList) := List.take_of_length_le (by simp)
      have t3 : List.take (s.out.length + (putB (lk c 3).toList.length).length + (lk c 3).toList.length) (s.out ++ (rowB (putB (lk c 3).toList.length) ++ (lk c 3).toList)) = s.out ++ (rowB (putB (lk c 3).toList.length) ++ (lk c 3).toList) := List.take_of_length_le (by simp; omega)
      have v2 : (lk c 3).toList.length ≤ big := by simp only [big]; omega
      have v3 : (4 : Int) < 4611686018427387904 := by omega
      refine ⟨⟨v2⟩, ⟨v3⟩, Split.mk (fun hA => ?_) (fun hA => ?_)⟩
      · conv => cbv
        repeat (first | (refine .ofF ?_ ?_; (focus (simp [hu, hu2]; done)); conv => cbv) | (refine .ofT ?_ ?_; (focus (simp [hu, hu2]; done)); conv => cbv) | (refine ⟨⟨?_⟩, ?_⟩; (focus (first | (simp [hu, hu2]; done) | (simp [big, hu, hu2]; omega)))))
        have hp : pickS (lk c 0).toInt 4 = 0 := by simpa using hA
        have he : adds c = rowB (putB (lk c 1).toInt.toNat) := by rw [adds, if_pos hp]
        refine ⟨⟨s.i + 1, h1, s.out ++ rowB (putB (lk c 1).toInt.toNat), hnext _ (by rw [← he, List.length_append]; omega)⟩, hlt, ?_⟩
        conv => cbv
        simp [Hold.iff, hu2, hw1]
      · conv => cbv
        refine Split.mk (fun hB => ?_) (fun hB => ?_)
        · conv => cbv
          repeat (first | (refine .ofF ?_ ?_; (focus (simp [hu, hu2]; done)); conv => cbv) | (refine .ofT ?_ ?_; (focus (simp [hu, hu2]; done)); conv => cbv) | (refine ⟨⟨?_⟩, ?_⟩; (focus (first | (simp [hu, hu2]; done) | (simp [big, hu, hu2]; omega)))))
          have hp0 : ¬ pickS (lk c 0).toInt 4 = 0 := by simpa using hA
          have hp : pickS (lk c 0).toInt 4 = 1 := by simpa using hB
          have he : adds c = (lk c 3).toList := by rw [adds, if_neg hp0, if_pos hp]
          refine ⟨⟨s.i + 1, h1, s.out ++ (lk c 3).toList, hnext _ (by rw [← he, List.length_append]; omega)⟩, hlt, ?_⟩
          conv => cbv
          simp [Hold.iff, hu2, hw1]
        · conv => cbv
          refine Split.mk (fun hC => ?_) (fun hC => ?_)
          · conv => cbv
            repeat (first | (refine .ofF ?_ ?_; (focus (simp [hu, hu2, t1, t2, t3]; done)); conv => cbv) | (refine .ofT ?_ ?_; (focus (simp [hu, hu2, t1, t2, t3]; done)); conv => cbv) | (refine ⟨⟨?_⟩, ?_⟩; (focus (first | (simp [hu, hu2, t1, t2, t3]; done) | (simp [big, hu, hu2, t1, t2, t3]; omega)))))
            have hp0 : ¬ pickS (lk c 0).toInt 4 = 0 := by simpa using hA
            have hp1 : ¬ pickS (lk c 0).toInt 4 = 1 := by simpa using hB
            have hp : pickS (lk c 0).toInt 4 = 2 := by simpa using hC
            have he : adds c = rowB (putB (lk c 3).toList.length) ++ (lk c 3).toList := by rw [adds, if_neg hp0, if_neg hp1, if_pos hp]
            refine ⟨⟨s.i + 1, h1, s.out ++ (rowB (putB (lk c 3).toList.length) ++ (lk c 3).toList), hnext _ (by rw [← he, List.length_append]; omega)⟩, hlt, ?_⟩
            conv => cbv
            simp [Hold.iff, hu, hu2, hw1, t1, t2, t3, Nat.add_assoc]
          · conv => cbv
            repeat (first | (refine .ofF ?_ ?_; (focus (simp [hu, hu2, t1, t2, t3]; done)); conv => cbv) | (refine .ofT ?_ ?_; (focus (simp [hu, hu2, t1, t2, t3]; done)); conv => cbv) | (refine ⟨⟨?_⟩, ?_⟩; (focus (first | (simp [hu, hu2, t1, t2, t3]; done) | (simp [big, hu, hu2, t1, t2, t3]; omega)))))
            have hp0 : ¬ pickS (lk c 0).toInt 4 = 0 := by simpa using hA
            have hp1 : ¬ pickS (lk c 0).toInt 4 = 1 := by simpa using hB
            have hp : ¬ pickS (lk c 0).toInt 4 = 2 := by simpa using hC
            have he : adds c = rowB (puts (un (lk c 4).toList)) := by rw [adds, if_neg hp0, if_neg hp1, if_neg hp]
            have hlt' := hlt
            refine LoopP.mk {j : Nat // j ≤ (lk c 4).toList.length} (fun j => ⟨ev 107 [(0, .sl false ActS fun _ => x), (2, .bool fun _ => false), (3, .mp 0 0), (4, .ms 2 (fun _ => 0) fun _ => s.out.length + (puts ((un (lk c 4).toList).take j.1)).length), (5, .int .i64 fun _ => (s.i : Int)), (6, .mp 3 0), (7, .ms 4 (fun _ => 0) fun _ => (lk c 3).toList.length), (8, .int .i64 fun _ => 0), (9, .int .i64 fun _ => (j.1 : Int))],
              [(0, .obj [.ms 1 (fun _ => 0) (fun _ => s.out.length + (puts (un (lk c 4).toList)).length)]), (1, .row false U8 fun _ => s.out ++ rowB (puts (un (lk c 4).toList))), (2, .row false U8 fun _ => s.out ++ rowB (puts ((un (lk c 4).toList).take j.1))),
               (3, .obj [.int .i64 fun _ => (lk c 0).toInt, .int .u64 fun _ => (lk c 1).toInt, .int .i64 fun _ => (lk c 2).toInt, .sl false [.int .u8] fun _ => (lk c 3).toList, .sl false [.int .u64] fun _ => (lk c 4).toList]), (4, .row false U8 fun _ => (lk c 3).toList)], 10⟩) (fun j => (lk c 4).toList.length - j.1) ⟨0, Nat.zero_le _⟩ ?_ ?_
            · conv => cbv
              simp [Hold.iff, puts, rowB]
            · intro ⟨j, hj⟩
              have hpl := @puts_take_len (lk c 4).toList j
              conv => cbv
              refine Split.mk (fun h => ?_) (fun h => ?_)
              · have h : (j : Int) < ((lk c 4).toList.length : Int) := of_decide_eq_true h
                have h : j < (lk c 4).toList.length := by omega
                have v4 : 0 ≤ (j : Int) ∧ (j : Int) < ((lk c 4).toList.length : Int) := by omega
                have hw2 : IntKind.i64.wrap ((j : Int) + 1) = ((j + 1 : Nat) : Int) := by rw [wrap_i64 (by omega)]; omega
                have hlt2 : j + 1 ≤ (lk c 4).toList.length ∧ (lk c 4).toList.length - (j + 1) < (lk c 4).toList.length - j := by omega
                have hpp := puts_take h
                have hpl1 := @puts_take_len (lk c 4).toList (j + 1)
                rw [hpp, List.length_append] at hpl1
                have t4 : List.take (s.out.length + (puts ((un (lk c 4).toList).take j)).length) (s.out ++ rowB (puts ((un (lk c 4).toList).take j))) = s.out ++ rowB (puts ((un (lk c 4).toList).take j)) := List.take_of_length_le (by simp)
                conv => cbv
                repeat (first | (refine ⟨⟨?_⟩, ?_⟩; (focus (first | exact v4 | (simp [t4]; done) | (simp [big, t4]; omega)))))
                refine ⟨⟨j + 1, hlt2.1⟩, hlt2.2, ?_⟩
                conv => cbv
                simp [Hold.iff, hw2, t4, hpp, Nat.add_assoc, rowB_append]
              · have h : ¬ (j : Int) < ((lk c 4).toList.length : Int) := of_decide_eq_false h
                have hj2 : j = (lk c 4).toList.length := by omega
                have e : (un (lk c 4).toList).take j = un (lk c 4).toList := List.take_of_length_le (by simp; omega)
                have hpl2 := puts_len (un (lk c 4).toList)
                rw [un_len] at hpl2
                have t5 : List.take (s.out.length + (puts (un (lk c 4).toList)).length) (s.out ++ rowB (puts (un (lk c 4).toList))) = s.out ++ rowB (puts (un (lk c 4).toList)) := List.take_of_length_le (by simp)
                conv => cbv
                repeat (first | (refine .ofF ?_ ?_; (focus (simp [e, t5]; done)); conv => cbv) | (refine .ofT ?_ ?_; (focus (simp [e, t5]; done)); conv => cbv) | (refine ⟨⟨?_⟩, ?_⟩; (focus (first | (simp [e, t5]; done) | (simp [big, e, t5]; omega)))))
                refine ⟨⟨s.i + 1, h1, s.out ++ rowB (puts (un (lk c 4).toList)), hnext _ (by rw [← he, List.length_append]; omega)⟩, hlt, ?_⟩
                conv => cbv
                simp [Hold.iff, e, hw1, t5]
    · have h1 : ¬ (s.i : Int) < (x.length : Int) := of_decide_eq_false h1
      have h2 : s.out.length ≤ big := by simp only [big]; omega
      conv => cbv
      refine ⟨⟨rfl, rfl, h2⟩, ⟨by simp⟩, ⟨by simp⟩, .ofT (by simp) ?_⟩
      conv => cbv
      exact ⟨rfl⟩
end Go.Am
