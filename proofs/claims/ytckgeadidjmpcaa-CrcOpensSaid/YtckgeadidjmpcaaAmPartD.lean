/- The document's check keeps its contract: the sum. -/
import Derived.Test.YtckgeadidjmpcaaAmPartC
namespace Go.Am
set_option linter.all false
set_option linter.deprecated false
open Go.Proofs
set_option maxRecDepth 100000
set_option maxHeartbeats 4000000
def rsumC : Contract := { modes := [.ro], fn := fun args M => match args, M with
  | [.sl _ [.int .u8] xs], [] => some ⟨[fun _ => 8 * (xs ()).length + 32 ≤ big], .int .u32 fun _ => ((crcs 0 (bn (xs ()))).toNat : Int), []⟩
  | _, _ => none }
def Lr1 : List (Nat × Contract) := [(77, digC), (78, powC)]
def Gr1 : Ctx := fun f => gget Lr1 f
theorem Gr1_ok : ∀ f C, Gr1 f = some C → CSound Try.prog f C := gget_cons dig_ok (gget_cons pow_ok (gget_nil _))
theorem flips_next (f : Nat → Bool) (i t : Nat) (h : t < 14) : flips f i (pows.take (t + 1)) = flip (flips f i (pows.take t)) (i + 32 - pows.getD t 0) := by
  have hl : t < pows.length := h
  rw [List.take_add_one, List.getElem?_eq_getElem hl, flips, List.foldl_append]
  simp [flips, List.getD, hl]
theorem pow_lt : ∀ t, t < 14 → pows.getD t 0 < 32 := by decide
theorem pow_at {t : Nat} (h : t < 14) : (lk (lk (rowI pows) t) 0).toInt = ((pows.getD t 0 : Nat) : Int) := by
  have hl : t < pows.length := h
  simp [rowI, lk, List.getD, hl, D.toInt]
theorem rsum_ok : CSound Try.prog 30 rsumC := by
  refine fsound' (G := Gr1) (c := codeOf Try.f30) mixed tyT Gr1_ok Try.func30 (by rfl) (by kernel_rfl) (by kernel_rfl) fun args M r hr hvc hw hm => ?_
  unfold rsumC at hr
  simp only at hr
  split at hr <;> cases hr
  rename_i nn xs
  have hb : 8 * (xs ()).length + 32 ≤ big := hvc _ (List.mem_singleton.2 rfl)
  clear hvc hm
  have hx : xs = fun _ => xs () := rfl
  generalize xs () = x at hx hb
  subst hx
  have hb : 8 * x.length + 32 ≤ 1099511627776 := hb
  simp only [WfVs, WfV, and_true] at hw
  obtain ⟨ds, hds⟩ : ∃ ds, ds = digits (bn x) := ⟨_, rfl⟩
  have hdl : ds.length = 8 * x.length := by rw [hds]; simp
  have v0 : 8 * x.length ≤ big := by simp only [big]; omega
  have hbg : ((big : Nat) : Int) = 1099511627776 := rfl
  have v1 : 8 * x.length ≤ (rowBo (digits (bn x))).length := by simp
  have v2 : (0 : Int) ≤ 32 ∧ ((8 * x.length : Nat) : Int) + 32 ≤ (big : Int) := by rw [hbg]; omega
  conv => cbv
  refine ⟨⟨v0⟩, ⟨rfl⟩, ⟨v1⟩, ⟨v2⟩, LoopP.mk {i : Nat // i ≤ 32} (fun i => ⟨ev 84 [(3, .ms 0 (fun _ => 0) (fun _ => ds.length + 32)), (4, .int .i64 fun _ => (i.1 : Int))], [(0, .row false [.bool] fun _ => tab (ds.length + 32) fun k => ds.getD k false ^^ decide (k < i.1))], 8⟩) (fun i => 32 - i.1) ⟨0, Nat.zero_le _⟩ ?_ ?_⟩
  · have e1 : List.take (8 * x.length) (rowBo (digits (bn x))) ++ List.replicate (Int.toNat 32) [D.bool false] = tab (ds.length + 32) fun k => ds.getD k false ^^ decide (k < 0) := by
      rw [List.take_of_length_le (by simp), ← hds]
      have := rowBo_tab ds 32
      rw [show Int.toNat 32 = 32 from rfl, this]
      exact tab_congr fun k _ => by simp
    have e2 : 8 * x.length + Int.toNat 32 = ds.length + 32 := by rw [hdl]; rfl
    conv => cbv
    exact ⟨⟨rfl, e2⟩, ⟨rfl⟩, ⟨e1⟩⟩
  · intro ⟨i, hi⟩
    conv => cbv
    refine Split.mk (fun h => ?_) (fun h => ?_)
    · have h : (i : Int) < 32 := of_decide_eq_true h
      have h : i < 32 := by omega
      have v3 : 0 ≤ (i : Int) ∧ (i : Int) < ((ds.length + 32 : Nat) : Int) := by omega
      have v4 : 0 + ((i : Int)).toNat < (tab (ds.length + 32) fun k => ds.getD k false ^^ decide (k < i)).length := by simp; omega
      have hw1 : IntKind.i64.wrap ((i : Int) + 1) = ((i + 1 : Nat) : Int) := by rw [wrap_i64 (by omega)]; omega
      have hlt : i + 1 ≤ 32 ∧ 32 - (i + 1) < 32 - i := by omega
      have g1 := tab_get (n := ds.length + 32) (k := i) (fun k => ds.getD k false ^^ decide (k < i)) (by omega)
      conv => cbv
      refine ⟨⟨v3⟩, ⟨v4⟩, ⟨v3⟩, ⟨v4⟩, ⟨i + 1, hlt.1⟩, hlt.2, ?_⟩
      conv => cbv
      refine ⟨⟨rfl, rfl⟩, ⟨hw1⟩, ⟨?_⟩⟩
      simp only [dall_one, Nat.zero_add, Int.toNat_natCast, g1, tab_set]
      refine tab_congr fun k _ => ?_
      by_cases hk : k = i
      · subst hk
        have e1 : decide (k < k) = false := by simp
        have e2 : decide (k < k + 1) = true := by simp
        rw [if_pos rfl, e1, e2]; cases ds.getD k false <;> rfl
      · have e1 : decide (k < i) = decide (k < i + 1) := by rw [decide_eq_decide]; omega
        rw [if_neg hk, e1]
    · have h : ¬ (i : Int) < 32 := of_decide_eq_false h
      have hi2 : i = 32 := by omega
      have hw0 : IntKind.i64.wrap (((ds.length + 32 : Nat) : Int) - 32) = (ds.length : Int) := by rw [wrap_i64 (by omega)]; omega
      conv => cbv
      refine LoopP.mk {i : Nat // i ≤ ds.length} (fun i => ⟨ev 84 [(3, .ms 0 (fun _ => 0) (fun _ => ds.length + 32)), (5, .ms 1 (fun _ => 0) (fun _ => 14)), (6, .int .i64 fun _ => (ds.length : Int)), (7, .int .i64 fun _ => (i.1 : Int))],
        [(0, .row false [.bool] fun _ => tab (ds.length + 32) (rowS ds i.1)), (1, .row true I64 fun _ => rowI pows)], 8⟩) (fun i => ds.length - i.1) ⟨0, Nat.zero_le _⟩ ?_ ?_
      · have e3 : (tab (ds.length + 32) fun k => ds.getD k false ^^ decide (k < i)) = tab (ds.length + 32) (rowS ds 0) := tab_congr fun k _ => by rw [rowS_zero, hi2]
        conv => cbv
        exact ⟨⟨rfl, rfl⟩, ⟨rfl, rfl⟩, ⟨hw0⟩, ⟨rfl⟩, ⟨e3⟩, ⟨rfl⟩⟩
      · intro ⟨n, hn⟩
        conv => cbv
        refine Split.mk (fun h2 => ?_) (fun h2 => ?_)
        · have h2 : (n : Int) < (ds.length : Int) := of_decide_eq_true h2
          have h2 : n < ds.length := by omega
          have v3 : 0 ≤ (n : Int) ∧ (n : Int) < ((ds.length + 32 : Nat) : Int) := by omega
          have v4 : 0 + ((n : Int)).toNat < (tab (ds.length + 32) (rowS ds n)).length := by simp; omega
          have hw1 : IntKind.i64.wrap ((n : Int) + 1) = ((n + 1 : Nat) : Int) := by rw [wrap_i64 (by omega)]; omega
          have hlt : n + 1 ≤ ds.length ∧ ds.length - (n + 1) < ds.length - n := by omega
          have g1 : (lk (lk (tab (ds.length + 32) (rowS ds n)) (0 + ((n : Int)).toNat)) 0).toBool = rowS ds n n := by
            rw [Nat.zero_add, Int.toNat_natCast]; exact tab_get (rowS ds n) (by omega)
          conv => cbv
          refine ⟨⟨v3⟩, ⟨v4⟩, Split.mk (fun h3 => ?_) (fun h3 => ?_)⟩
          · have h3 : rowS ds n n = true := g1.symm.trans h3
            have hnx := rowS_next h2
            rw [h3] at hnx
            conv => cbv
            refine ⟨⟨v3⟩, ⟨v4⟩, LoopP.mk {t : Nat // t ≤ 14} (fun t => ⟨ev 84 [(3, .ms 0 (fun _ => 0) (fun _ => ds.length + 32)), (5, .ms 1 (fun _ => 0) (fun _ => 14)), (6, .int .i64 fun _ => (ds.length : Int)), (7, .int .i64 fun _ => (n : Int)), (8, .int .i64 fun _ => (t.1 : Int))],
              [(0, .row false [.bool] fun _ => tab (ds.length + 32) (flips (fun j => if j = n then false else rowS ds n j) n (pows.take t.1))), (1, .row true I64 fun _ => rowI pows)], 8⟩) (fun t => 14 - t.1) ⟨0, Nat.zero_le _⟩ ?_ ?_⟩
            · conv => cbv
              refine ⟨⟨rfl, rfl⟩, ⟨rfl, rfl⟩, ⟨rfl⟩, ⟨rfl⟩, ⟨rfl⟩, ⟨?_⟩, ⟨rfl⟩⟩
              simp only [dall_one, Nat.zero_add, Int.toNat_natCast, tab_set]
              rfl
            · intro ⟨t, ht⟩
              conv => cbv
              refine Split.mk (fun h4 => ?_) (fun h4 => ?_)
              · have h4 : (t : Int) < ((14 : Nat) : Int) := of_decide_eq_true h4
                have h4 : t < 14 := by omega
                have q1 := pow_lt t h4
                have q2 := pow_at h4
                have q3 := flips_next (fun j => if j = n then false else rowS ds n j) n t h4
                obtain ⟨p, hp⟩ : ∃ p, p = pows.getD t 0 := ⟨_, rfl⟩
                obtain ⟨F, hF⟩ : ∃ F, F = flips (fun j => if j = n then false else rowS ds n j) n (pows.take t) := ⟨_, rfl⟩
                rw [← hp] at q1 q2 q3
                rw [← hF] at q3
                have q2' : (lk (lk (rowI pows) (0 + ((t : Int)).toNat)) 0).toInt = (p : Int) := by rw [Nat.zero_add, Int.toNat_natCast]; exact q2
                have w1 : IntKind.i64.wrap (IntKind.i64.wrap ((n : Int) + 32) - (lk (lk (rowI pows) (0 + ((t : Int)).toNat)) 0).toInt) = ((n + 32 - p : Nat) : Int) := by
                  rw [q2', wrap_i64 (n := (n : Int) + 32) (by omega), wrap_i64 (by omega)]; omega
                have v5 : 0 ≤ (t : Int) ∧ (t : Int) < ((14 : Nat) : Int) := by omega
                have v6 : 0 + ((t : Int)).toNat < (rowI pows).length := by rw [Nat.zero_add, Int.toNat_natCast]; exact h4
                have v7 : 0 ≤ IntKind.i64.wrap (IntKind.i64.wrap ((n : Int) + 32) - (lk (lk (rowI pows) (0 + ((t : Int)).toNat)) 0).toInt) ∧ IntKind.i64.wrap (IntKind.i64.wrap ((n : Int) + 32) - (lk (lk (rowI pows) (0 + ((t : Int)).toNat)) 0).toInt) < ((ds.length + 32 : Nat) : Int) := by rw [w1]; omega
                have v8 : 0 + (IntKind.i64.wrap (IntKind.i64.wrap ((n : Int) + 32) - (lk (lk (rowI pows) (0 + ((t : Int)).toNat)) 0).toInt)).toNat < (tab (ds.length + 32) F).length := by rw [w1]; simp; omega
                have g2 : (lk (lk (tab (ds.length + 32) F) (0 + (IntKind.i64.wrap (IntKind.i64.wrap ((n : Int) + 32) - (lk (lk (rowI pows) (0 + ((t : Int)).toNat)) 0).toInt)).toNat)) 0).toBool = F (n + 32 - p) := by
                  rw [w1, Nat.zero_add, Int.toNat_natCast]; exact tab_get F (by omega)
                have g3 : (tab (ds.length + 32) F).set (0 + (IntKind.i64.wrap (IntKind.i64.wrap ((n : Int) + 32) - (lk (lk (rowI pows) (0 + ((t : Int)).toNat)) 0).toInt)).toNat) [D.bool (!(F (n + 32 - p)))] = tab (ds.length + 32) (flip F (n + 32 - p)) := by
                  rw [w1, Nat.zero_add, Int.toNat_natCast, tab_set]
                  refine tab_congr fun j _ => ?_
                  simp only [flip]
                  by_cases hj : j = n + 32 - p
                  · rw [if_pos hj, if_pos hj, hj]
                  · rw [if_neg hj, if_neg hj]
                have hw2 : IntKind.i64.wrap ((t : Int) + 1) = ((t + 1 : Nat) : Int) := by rw [wrap_i64 (by omega)]; omega
                have hlt2 : t + 1 ≤ 14 ∧ 14 - (t + 1) < 14 - t := by omega
                subst hF
                conv => cbv
                refine ⟨⟨v5⟩, ⟨v6⟩, ⟨v5⟩, ⟨v6⟩, ⟨v7⟩, ⟨v8⟩, ⟨v7⟩, ⟨v8⟩, ⟨t + 1, hlt2.1⟩, hlt2.2, ?_⟩
                conv => cbv
                refine ⟨⟨rfl, rfl⟩, ⟨rfl, rfl⟩, ⟨rfl⟩, ⟨rfl⟩, ⟨hw2⟩, ⟨?_⟩, ⟨rfl⟩⟩
                simp only [dall_one]
                rw [g2, g3, ← q3]
              · have h4 : ¬ (t : Int) < ((14 : Nat) : Int) := of_decide_eq_false h4
                have ht2 : t = 14 := by omega
                have e5 : tab (ds.length + 32) (flips (fun j => if j = n then false else rowS ds n j) n (pows.take t)) = tab (ds.length + 32) (rowS ds (n + 1)) := by
                  rw [ht2, show pows.take 14 = pows from rfl]
                  exact tab_congr fun k _ => by rw [hnx k, if_pos rfl]
                conv => cbv
                refine ⟨⟨n + 1, hlt.1⟩, hlt.2, ?_⟩
                conv => cbv
                exact ⟨⟨rfl, rfl⟩, ⟨rfl, rfl⟩, ⟨rfl⟩, ⟨hw1⟩, ⟨e5⟩, ⟨rfl⟩⟩
          · have h3 : rowS ds n n = false := g1.symm.trans h3
            have hnx := rowS_next h2
            rw [h3] at hnx
            have e4 : tab (ds.length + 32) (rowS ds n) = tab (ds.length + 32) (rowS ds (n + 1)) := tab_congr fun k _ => by rw [hnx k]; rfl
            conv => cbv
            refine ⟨⟨n + 1, hlt.1⟩, hlt.2, ?_⟩
            conv => cbv
            exact ⟨⟨rfl, rfl⟩, ⟨rfl, rfl⟩, ⟨rfl⟩, ⟨hw1⟩, ⟨e4⟩, ⟨rfl⟩⟩
        · have h2 : ¬ (n : Int) < (ds.length : Int) := of_decide_eq_false h2
          have hn2 : n = ds.length := by omega
          obtain ⟨X, hX⟩ : ∃ X : B32, X = crcs 0 (bn x) := ⟨_, rfl⟩
          have hreg : ~~~ X = reg ds n := by
            rw [hX, crcs_digits _ _ (bn_lt hw), ← hds, reg, hn2, List.take_length]
            rfl
          conv => cbv
          refine LoopP.mk {j : Nat // j ≤ 32} (fun j => ⟨ev 84 [(3, .ms 0 (fun _ => 0) (fun _ => ds.length + 32)), (6, .int .i64 fun _ => (ds.length : Int)), (9, .int .u32 fun _ => ((X >>> j.1).toNat : Int)), (10, .int .i64 fun _ => (j.1 : Int) - 1)],
            [(0, .row false [.bool] fun _ => tab (ds.length + 32) (rowS ds n))], 8⟩) (fun j => j.1) ⟨32, Nat.le_refl _⟩ ?_ ?_
          · have e6 : (0 : Int) = ((X >>> 32).toNat : Int) := by
              have : X >>> 32 = 0#32 := BitVec.ushiftRight_eq_zero (by decide)
              rw [this]; rfl
            conv => cbv
            exact ⟨⟨rfl, rfl⟩, ⟨rfl⟩, ⟨e6⟩, ⟨rfl⟩, ⟨rfl⟩⟩
          · intro ⟨j, hj⟩
            conv => cbv
            refine Split.mk (fun h5 => ?_) (fun h5 => ?_)
            · have h5 : (0 : Int) ≤ (j : Int) - 1 := of_decide_eq_true h5
              obtain ⟨i2, rfl⟩ : ∃ i2, j = i2 + 1 := ⟨j - 1, by omega⟩
              have w1 : IntKind.i64.wrap ((ds.length : Int) + (((i2 + 1 : Nat) : Int) - 1)) = ((n + i2 : Nat) : Int) := by rw [wrap_i64 (by omega)]; omega
              have v3 : 0 ≤ IntKind.i64.wrap ((ds.length : Int) + (((i2 + 1 : Nat) : Int) - 1)) ∧ IntKind.i64.wrap ((ds.length : Int) + (((i2 + 1 : Nat) : Int) - 1)) < ((ds.length + 32 : Nat) : Int) := by rw [w1]; omega
              have v4 : 0 + (IntKind.i64.wrap ((ds.length : Int) + (((i2 + 1 : Nat) : Int) - 1))).toNat < (tab (ds.length + 32) (rowS ds n)).length := by rw [w1]; simp; omega
              have hbit : (~~~ X).getLsbD i2 = !(X.getLsbD i2) := by
                rw [BitVec.getLsbD_not]
                have : i2 < 32 := by omega
                simp [this]
              have g1 : (lk (lk (tab (ds.length + 32) (rowS ds n)) (0 + (IntKind.i64.wrap ((ds.length : Int) + (((i2 + 1 : Nat) : Int) - 1))).toNat)) 0).toBool = !(X.getLsbD i2) := by
                rw [w1, Nat.zero_add, Int.toNat_natCast, tab_get (rowS ds n) (by omega), rowS, if_neg (by omega), ← hreg, show n + i2 - n = i2 by omega, hbit]
                simp [List.getD, List.getElem?_eq_none (show ds.length ≤ n + i2 by omega)]
              have hs := shr_next X i2
              have hlt := (X >>> i2).isLt
              have w2 : IntKind.u32.wrap (((X >>> (i2 + 1)).toNat : Int) * 2) = (((X >>> (i2 + 1)).toNat * 2 : Nat) : Int) := by
                rw [wrap_u32_mod]
                have : (X >>> (i2 + 1)).toNat * 2 ≤ (X >>> i2).toNat := by rw [← hs]; exact Nat.le_add_right _ _
                omega
              have w3 : IntKind.i64.wrap ((((i2 + 1 : Nat) : Int) - 1) - 1) = (i2 : Int) - 1 := by rw [wrap_i64 (by omega)]; omega
              have hj2 : i2 ≤ 32 ∧ i2 < i2 + 1 := by omega
              conv => cbv
              refine ⟨⟨v3⟩, ⟨v4⟩, Split.mk (fun h6 => ?_) (fun h6 => ?_)⟩
              · simp only [g1, Bool.not_not] at h6
                rw [h6, if_pos rfl] at hs
                have w4 : IntKind.u32.wrap (IntKind.u32.wrap (((X >>> (i2 + 1)).toNat : Int) * 2) + 1) = ((X >>> i2).toNat : Int) := by
                  rw [w2, wrap_u32_mod, ← hs]
                  omega
                conv => cbv
                refine ⟨⟨i2, hj2.1⟩, hj2.2, ?_⟩
                conv => cbv
                exact ⟨⟨rfl, rfl⟩, ⟨rfl⟩, ⟨w4⟩, ⟨w3⟩, ⟨rfl⟩⟩
              · simp only [g1, Bool.not_not] at h6
                rw [h6] at hs
                have hs : (X >>> (i2 + 1)).toNat * 2 = (X >>> i2).toNat := hs
                have w4 : IntKind.u32.wrap (((X >>> (i2 + 1)).toNat : Int) * 2) = ((X >>> i2).toNat : Int) := by rw [w2, hs]
                conv => cbv
                refine ⟨⟨i2, hj2.1⟩, hj2.2, ?_⟩
                conv => cbv
                exact ⟨⟨rfl, rfl⟩, ⟨rfl⟩, ⟨w4⟩, ⟨w3⟩, ⟨rfl⟩⟩
            · have h5 : ¬ (0 : Int) ≤ (j : Int) - 1 := of_decide_eq_false h5
              have hj0 : j = 0 := by omega
              conv => cbv
              refine ⟨?_⟩
              show ((X >>> j).toNat : Int) = ((crcs 0 (bn x)).toNat : Int)
              rw [hj0, ← hX]
              simp
end Go.Am
/- alibilaw02.CrcOpens keeps its contract: it returns true. -/
namespace Go.Am
set_option linter.all false
set_option linter.deprecated false
open Go.Proofs
set_option maxRecDepth 100000
set_option maxHeartbeats 4000000
def opensC : Contract := { modes := [], fn := fun args M => match args, M with
  | [.sl _ [.int .u8] _], [] => some ⟨[], .bool (fun _ => true), []⟩
  | _, _ => none }
def Lo1 : List (Nat × Contract) := [(27, trueC), (20, ownC), (28, openC), (30, rsumC), (29, stC), (22, sameC), (25, spoilC), (31, cputC)]
def Go1 : Ctx := fun f => gget Lo1 f
theorem Go1_ok : ∀ f C, Go1 f = some C → CSound Try.prog f C := gget_cons works2_ok (gget_cons own_ok (gget_cons open_ok (gget_cons rsum_ok (gget_cons rstands_ok (gget_cons same_ok (gget_cons spoil_ok (gget_cons cput_ok (gget_nil _))))))))
theorem openS_put (xs : List (List D)) : openS (xs ++ rowB (crcB xs)) = (xs, 0) := by
  have hl : (xs ++ rowB (crcB xs)).length = xs.length + 4 := by simp
  rw [openS, if_neg (by omega), hl, Nat.add_sub_cancel, List.drop_left, List.take_left, bn_rowB, if_pos rfl]
theorem opens_ok : CSound Try.prog 5 opensC := by
  refine fsound' (G := Go1) (c := codeOf Try.f5) mixed tyT Go1_ok Try.func5 (by rfl) (by kernel_rfl) (by kernel_rfl) fun args M r hr hvc hw hm => ?_
  unfold opensC at hr
  simp only at hr
  split at hr <;> cases hr
  rename_i nn b
  clear hvc hm
  have hx : b = fun _ => b () := rfl
  generalize b () = b at hx
  subst hx
  simp only [WfVs, WfV, and_true] at hw
  have hT : List.take b.length (List.drop 0 b) = b := by simp
  conv => cbv
  refine Split.mk (fun h => ?_) (fun h => ?_)
  · conv => cbv
    exact ⟨rfl⟩
  · have h : ¬ (400 : Int) < b.length := of_decide_eq_false h
    have hb : b.length ≤ 400 := by omega
    have v1 : b.length ≤ big := by simp only [big]; omega
    conv => cbv
    refine ⟨⟨v1⟩, LoopP.mk Nat (fun t => ⟨ev 92 [(0, .sl false U8 fun _ => b), (2, .bool fun _ => false), (3, .ms 0 (fun _ => 0) (fun _ => b.length)), (4, .int .i64 fun _ => (t : Int))], [(0, .row false U8 fun _ => b)], 8⟩) (fun t => 2 - t) 0 ?_ ?_⟩
    · conv => cbv
      exact ⟨⟨rfl⟩, ⟨rfl⟩, ⟨rfl, rfl⟩, ⟨rfl⟩, ⟨rfl⟩⟩
    · intro t
      conv => cbv
      refine Split.mk (fun h => ?_) (fun h => ?_)
      · have h : (t : Int) < 2 := of_decide_eq_true h
        have hw1 : IntKind.i64.wrap ((t : Int) + 1) = ((t + 1 : Nat) : Int) := by rw [wrap_i64 (by omega)]; omega
        have hlt : 2 - (t + 1) < 2 - t := by omega
        conv => cbv
        refine ⟨⟨v1⟩, Split.mk (fun h2 => ?_) (fun h2 => ?_)⟩
        · have h2 : (b.length : Int) < 4 := of_decide_eq_true h2
          have e : openS b = ([], 4) := by rw [openS, if_pos (by omega)]
          conv => cbv
          repeat (first | (refine .ofF ?_ ?_; (focus (simp [e]; done)); conv => cbv) | (refine .ofT ?_ ?_; (focus (simp [e]; done)); conv => cbv) | (refine ⟨⟨?_⟩, ?_⟩; (focus (simp [e]; done))))
          refine ⟨t + 1, hlt, ?_⟩
          conv => cbv
          exact ⟨⟨rfl⟩, ⟨rfl⟩, ⟨rfl, rfl⟩, ⟨hw1⟩, ⟨rfl⟩⟩
        · have h2 : ¬ (b.length : Int) < 4 := of_decide_eq_false h2
          obtain ⟨n, hn⟩ : ∃ n, b.length = n + 4 := ⟨b.length - 4, by omega⟩
          have hw2 : IntKind.i64.wrap ((b.length : Int) - 4) = (n : Int) := by rw [wrap_i64 (by omega)]; omega
          have e1 : openS b = if bn (b.drop n) = crcB (b.take n) then (b.take n, 0) else ([], 20) := by rw [openS, if_neg (by omega), show b.length - 4 = n by omega]
          have v2 : 0 ≤ IntKind.i64.wrap ((b.length : Int) - 4) ∧ IntKind.i64.wrap ((b.length : Int) - 4) ≤ (b.length : Int) ∧ (b.length : Int) ≤ (b.length : Int) ∧ (b.length : Int) ≤ (b.length : Int) := by rw [hw2]; omega
          have v3 : (0 : Int) ≤ 0 ∧ (0 : Int) ≤ IntKind.i64.wrap ((b.length : Int) - 4) ∧ IntKind.i64.wrap ((b.length : Int) - 4) ≤ IntKind.i64.wrap ((b.length : Int) - 4) ∧ IntKind.i64.wrap ((b.length : Int) - 4) ≤ (b.length : Int) := by rw [hw2]; omega
          have hn4 : (b.drop n).take (b.length - n) = b.drop n := List.take_of_length_le (by simp)
          have hn5 : n ≤ b.length := by omega
          have hn6 : n + (b.length - n) ≤ b.length := by omega
          have hnm : min n b.length = n := by omega
          have hn7 : 8 * min n b.length + 32 ≤ big := by simp only [big]; omega
          conv => cbv
          refine ⟨⟨v2⟩, ⟨v3⟩, ⟨by simp [hw2]; exact hn5⟩, ⟨by simp [hw2]; exact hn7⟩, ⟨by simp [hw2]; exact hn6⟩, ⟨by simp [st4]⟩, Split.mk (fun h3 => ?_) (fun h3 => ?_)⟩
          · simp [hw2, hn4] at h3
            have h3 : bn (b.drop n) = crcB (b.take n) := h3
            rw [if_pos h3] at e1
            conv => cbv
            refine .ofF (by simp [e1]) ?_
            conv => cbv
            refine ⟨⟨v3⟩, ⟨by simp [e1]⟩, ⟨by simp [hw2]; exact hn5⟩, ?_⟩
            repeat (first | (refine .ofF ?_ ?_; (focus (simp [e1, hw2, hnm, List.take_take]; done)); conv => cbv) | (refine .ofT ?_ ?_; (focus (simp [e1, hw2, hnm, List.take_take]; done)); conv => cbv) | (refine ⟨⟨?_⟩, ?_⟩; (focus (simp [e1, hw2, hnm, List.take_take]; done))))
            refine ⟨t + 1, hlt, ?_⟩
            conv => cbv
            exact ⟨⟨rfl⟩, ⟨rfl⟩, ⟨rfl, rfl⟩, ⟨hw1⟩, ⟨rfl⟩⟩
          · simp [hw2, hn4] at h3
            have h3 : bn (b.drop n) ≠ crcB (b.take n) := h3
            rw [if_neg h3] at e1
            conv => cbv
            repeat (first | (refine .ofF ?_ ?_; (focus (simp [e1]; done)); conv => cbv) | (refine .ofT ?_ ?_; (focus (simp [e1]; done)); conv => cbv) | (refine ⟨⟨?_⟩, ?_⟩; (focus (simp [e1]; done))))
            refine ⟨t + 1, hlt, ?_⟩
            conv => cbv
            exact ⟨⟨rfl⟩, ⟨rfl⟩, ⟨rfl, rfl⟩, ⟨hw1⟩, ⟨rfl⟩⟩
      · have h : ¬ (t : Int) < 2 := of_decide_eq_false h
        have e := openS_put b
        have v5 : b.length + 4 ≤ big := by simp only [big]; omega
        have e2 : (b ++ rowB (crcB b)).length = b.length + 4 := by simp
        have e3 : List.take (b.length + 4) (b ++ rowB (crcB b)) = b ++ rowB (crcB b) := List.take_of_length_le (by omega)
        conv => cbv
        repeat (first | (refine .ofF ?_ ?_; (focus (simp [e, e3, v5, hT]; done)); conv => cbv) | (refine .ofT ?_ ?_; (focus (simp [e, e3, v5, hT]; done)); conv => cbv) | (refine ⟨⟨?_⟩, ?_⟩; (focus (simp [e, e3, v5, hT]; done))))
        exact ⟨rfl⟩
end Go.Am
