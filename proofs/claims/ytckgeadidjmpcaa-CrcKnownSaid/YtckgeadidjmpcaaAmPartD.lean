/- The document's check keeps its contract. -/
import Derived.Test.YtckgeadidjmpcaaAmPartC
namespace Go.Am
set_option linter.all false
set_option linter.deprecated false
open Go.Proofs
set_option maxRecDepth 100000
set_option maxHeartbeats 4000000
def digC : Contract := { modes := [.ro], fn := fun args M => match args, M with
  | [.sl _ [.int .u8] xs], [] => some ⟨[fun _ => 8 * (xs ()).length ≤ big], .ms 0 (fun _ => 0) (fun _ => 8 * (xs ()).length), [(0, some (.row false [.bool] fun _ => rowBo (digits (bn (xs ())))))]⟩
  | _, _ => none }
structure DgI (n : Nat) where
  i : Nat
  hi : i ≤ n
structure DkI where
  k : Nat
  hk : k ≤ 8
theorem dig_ok : CSound Try.prog 77 digC := by
  refine fsound' (G := G0) (c := codeOf Try.f77) mixed tyT (gget_nil _) Try.func77 (by rfl) (by kernel_rfl) (by kernel_rfl) fun args M r hr hvc hw hm => ?_
  unfold digC at hr
  simp only at hr
  split at hr <;> cases hr
  rename_i nn xs
  have hb : 8 * (xs ()).length ≤ big := hvc _ (List.mem_singleton.2 rfl)
  clear hvc hm
  have hx : xs = fun _ => xs () := rfl
  generalize xs () = x at hx hb
  subst hx
  have hb : 8 * x.length ≤ 1099511627776 := hb
  simp only [WfVs, WfV, and_true] at hw
  conv => cbv
  refine LoopP.mk (DgI x.length) (fun s => ⟨ev 30 [(0, .sl false U8 fun _ => x), (2, .nils), (3, .ms 0 (fun _ => 0) (fun _ => 8 * s.i)), (4, .int .i64 fun _ => (s.i : Int))], [(0, .row false [.bool] fun _ => rowBo (digits ((bn x).take s.i)))], 8⟩) (fun s => x.length - s.i) ⟨0, Nat.zero_le _⟩ ?_ ?_
  · conv => cbv
    exact ⟨⟨rfl⟩, ⟨rfl, rfl⟩, ⟨rfl⟩, ⟨rfl⟩⟩
  · intro ⟨i, hi⟩
    conv => cbv
    refine Split.mk (fun h => ?_) (fun h => ?_)
    · have h : (i : Int) < (x.length : Int) := of_decide_eq_true h
      have h : i < x.length := by omega
      have v1 : 0 ≤ (i : Int) ∧ (i : Int) < (x.length : Int) := by omega
      have hv := bn_at hw h
      have hc : (bn x).getD i 0 < 256 := bn_lt hw _ (by simp [List.getD, h])
      obtain ⟨c, hcc⟩ : ∃ c, c = (bn x).getD i 0 := ⟨_, rfl⟩
      rw [← hcc] at hv hc
      have hti : (bn x).take (i + 1) = (bn x).take i ++ [c] := by
        rw [List.take_add_one, List.getElem?_eq_getElem (by simpa using h), hcc]
        simp [List.getD, h]
      have hdl : (digits ((bn x).take i)).length = 8 * i := by rw [digits_len]; simp; omega
      conv => cbv
      refine ⟨⟨v1⟩, LoopP.mk DkI (fun s => ⟨ev 30 [(0, .sl false U8 fun _ => x), (2, .nils), (3, .ms 0 (fun _ => 0) (fun _ => 8 * i + s.k)), (4, .int .i64 fun _ => (i : Int)), (5, .int .u8 fun _ => ((c / 2 ^ s.k : Nat) : Int)), (6, .int .i64 fun _ => (s.k : Int))], [(0, .row false [.bool] fun _ => rowBo (digits ((bn x).take i) ++ bits s.k c))], 8⟩) (fun s => 8 - s.k) ⟨0, Nat.zero_le _⟩ ?_ ?_⟩
      · have e0 : (lk (lk x ((i : Int)).toNat) 0).toInt = ((c / 2 ^ 0 : Nat) : Int) := by rw [Int.toNat_natCast, hv]; simp
        have e1 : rowBo (digits ((bn x).take i)) = rowBo (digits ((bn x).take i) ++ bits 0 c) := by simp [bits]
        conv => cbv
        exact ⟨⟨rfl⟩, ⟨rfl, rfl⟩, ⟨rfl⟩, ⟨e0⟩, ⟨rfl⟩, ⟨e1⟩⟩
      · intro ⟨k, hk⟩
        conv => cbv
        refine Split.mk (fun h2 => ?_) (fun h2 => ?_)
        · have h2 : (k : Int) < 8 := of_decide_eq_true h2
          have hq : c / 2 ^ k < 256 := Nat.lt_of_le_of_lt (Nat.div_le_self _ _) hc
          have t1 : (((c / 2 ^ k : Nat) : Int).tmod 2) = ((c / 2 ^ k % 2 : Nat) : Int) := (Int.ofNat_tmod _ 2).symm
          have t2 : (((c / 2 ^ k : Nat) : Int).tdiv 2) = ((c / 2 ^ k / 2 : Nat) : Int) := (Int.ofNat_tdiv _ 2).symm
          have t3 : IntKind.u8.wrap (((c / 2 ^ k : Nat) : Int).tdiv 2) = ((c / 2 ^ (k + 1) : Nat) : Int) := by
            have e : c / 2 ^ k / 2 = c / 2 ^ (k + 1) := by rw [Nat.div_div_eq_div_mul, ← Nat.pow_succ]
            have : c / 2 ^ (k + 1) ≤ c := Nat.div_le_self _ _
            rw [t2, e, wrap_u8_mod]
            generalize c / 2 ^ (k + 1) = z at *
            omega
          have t4 : ((((c / 2 ^ k : Nat) : Int).tmod 2) == 1) = (c / 2 ^ k % 2 == 1) := by
            rcases Nat.mod_two_eq_zero_or_one (c / 2 ^ k) with h | h <;> rw [t1, h] <;> rfl
          have hw1 : IntKind.i64.wrap ((k : Int) + 1) = ((k + 1 : Nat) : Int) := by rw [wrap_i64 (by omega)]; omega
          have hlt : k + 1 ≤ 8 ∧ 8 - (k + 1) < 8 - k := by omega
          have n2 : (2 : Int) ≠ 0 := by decide
          have hbits := bits_succ k c
          have hlen : (rowBo (digits ((bn x).take i) ++ bits k c)).length = 8 * i + k := by simp [hdl]
          have v2 : 8 * i + k + 1 ≤ big := by simp only [big]; omega
          conv => cbv
          refine ⟨⟨n2⟩, ⟨rfl⟩, ⟨Nat.le_of_eq hlen.symm⟩, ⟨v2⟩, ⟨by simp [chunk]⟩, ⟨n2⟩, ⟨k + 1, hlt.1⟩, hlt.2, ?_⟩
          conv => cbv
          refine ⟨⟨rfl⟩, ⟨rfl, ?_⟩, ⟨rfl⟩, ⟨t3⟩, ⟨hw1⟩, ⟨?_⟩⟩
          · simp [chunk]; omega
          · simp only [chunk11, List.drop_zero, List.take_succ_cons, List.take_zero, t4]
            rw [List.take_of_length_le (by omega), hbits]
            simp [rowBo]
        · have h2 : ¬ (k : Int) < 8 := of_decide_eq_false h2
          have hk8 : k = 8 := by omega
          have hw1 : IntKind.i64.wrap ((i : Int) + 1) = ((i + 1 : Nat) : Int) := by rw [wrap_i64 (by omega)]; omega
          have hlt : i + 1 ≤ x.length ∧ x.length - (i + 1) < x.length - i := by omega
          have e1 : digits ((bn x).take i) ++ bits k c = digits ((bn x).take (i + 1)) := by rw [hti, digits_append, hk8]; simp [digits]
          have e2 : 8 * i + k = 8 * (i + 1) := by omega
          conv => cbv
          refine ⟨⟨i + 1, hlt.1⟩, hlt.2, ?_⟩
          conv => cbv
          refine ⟨⟨rfl⟩, ⟨rfl, e2⟩, ⟨hw1⟩, ⟨?_⟩⟩
          exact congrArg rowBo e1
    · have h : ¬ (i : Int) < (x.length : Int) := of_decide_eq_false h
      have hi2 : i = x.length := by omega
      have e : (bn x).take i = bn x := List.take_of_length_le (by simp; omega)
      conv => cbv
      refine ⟨⟨rfl, ?_⟩, ⟨?_⟩⟩
      · show 8 * i = 8 * x.length
        rw [hi2]
      · exact congrArg (fun z => rowBo (digits z)) e
def I64 : List Sh := [.int .i64]
def rowI (ns : List Nat) : List (List D) := ns.map fun (n : Nat) => [D.int (n : Int)]
def powC : Contract := { modes := [], fn := fun args M => match args, M with
  | [], [] => some ⟨[], .ms 0 (fun _ => 0) (fun _ => 14), [(0, some (.row true I64 fun _ => rowI pows))]⟩
  | _, _ => none }
theorem pow_ok : CSound Try.prog 78 powC := by
  refine fsound' (G := G0) (c := codeOf Try.f78) mixed tyT (gget_nil _) Try.func78 (by rfl) (by kernel_rfl) (by kernel_rfl) fun args M r hr hvc hw hm => ?_
  unfold powC at hr
  simp only at hr
  split at hr <;> cases hr
  conv => cbv
  exact ⟨⟨rfl, rfl⟩, ⟨rfl⟩⟩
end Go.Am
/- The document's check keeps its contract: the sum. -/
namespace Go.Am
set_option linter.all false
set_option linter.deprecated false
open Go.Proofs
set_option maxRecDepth 100000
set_option maxHeartbeats 4000000
def rsumC : Contract := { modes := [.ro], fn := fun args M => match args, M with
  | [.sl _ [.int .u8] xs], [] => some ⟨[fun _ => 8 * (xs ()).length + 32 ≤ big], .int .u32 fun _ => ((crcs 0 (bn (xs ()))).toNat : Int), []⟩
  | _, _ => none }
def Lr1 : List (Nat × Contract) := [(77, digC), (78, powC)]
def Gr1 : Ctx := fun f => gget Lr1 f
theorem Gr1_ok : ∀ f C, Gr1 f = some C → CSound Try.prog f C := gget_cons dig_ok (gget_cons pow_ok (gget_nil _))
theorem flips_next (f : Nat → Bool) (i t : Nat) (h : t < 14) : flips f i (pows.take (t + 1)) = flip (flips f i (pows.take t)) (i + 32 - pows.getD t 0) := by
  have hl : t < pows.length := h
  rw [List.take_add_one, List.getElem?_eq_getElem hl, flips, List.foldl_append]
  simp [flips, List.getD, hl]
theorem pow_lt : ∀ t, t < 14 → pows.getD t 0 < 32 := by decide
theorem pow_at {t : Nat} (h : t < 14) : (lk (lk (rowI pows) t) 0).toInt = ((pows.getD t 0 : Nat) : Int) := by
  have hl : t < pows.length := h
  simp [rowI, lk, List.getD, hl, D.toInt]
theorem rsum_ok : CSound Try.prog 30 rsumC := by
  refine fsound' (G := Gr1) (c := codeOf Try.f30) mixed tyT Gr1_ok Try.func30 (by rfl) (by kernel_rfl) (by kernel_rfl) fun args M r hr hvc hw hm => ?_
  unfold rsumC at hr
  simp only at hr
  split at hr <;> cases hr
  rename_i nn xs
  have hb : 8 * (xs ()).length + 32 ≤ big := hvc _ (List.mem_singleton.2 rfl)
  clear hvc hm
  have hx : xs = fun _ => xs () := rfl
  generalize xs () = x at hx hb
  subst hx
  have hb : 8 * x.length + 32 ≤ 1099511627776 := hb
  simp only [WfVs, WfV, and_true] at hw
  obtain ⟨ds, hds⟩ : ∃ ds, ds = digits (bn x) := ⟨_, rfl⟩
  have hdl : ds.length = 8 * x.length := by rw [hds]; simp
  have v0 : 8 * x.length ≤ big := by simp only [big]; omega
  have hbg : ((big : Nat) : Int) = 1099511627776 := rfl
  have v1 : 8 * x.length ≤ (rowBo (digits (bn x))).length := by simp
  have v2 : (0 : Int) ≤ 32 ∧ ((8 * x.length : Nat) : Int) + 32 ≤ (big : Int) := by rw [hbg]; omega
  conv => cbv
  refine ⟨⟨v0⟩, ⟨rfl⟩, ⟨v1⟩, ⟨v2⟩, LoopP.mk {i : Nat // i ≤ 32} (fun i => ⟨ev 84 [(3, .ms 0 (fun _ => 0) (fun _ => ds.length + 32)), (4, .int .i64 fun _ => (i.1 : Int))], [(0, .row false [.bool] fun _ => tab (ds.length + 32) fun k => ds.getD k false ^^ decide (k < i.1))], 8⟩) (fun i => 32 - i.1) ⟨0, Nat.zero_le _⟩ ?_ ?_⟩
  · have e1 : List.take (8 * x.length) (rowBo (digits (bn x))) ++ List.replicate (Int.toNat 32) [D.bool false] = tab (ds.length + 32) fun k => ds.getD k false ^^ decide (k < 0) := by
      rw [List.take_of_length_le (by simp), ← hds]
      have := rowBo_tab ds 32
      rw [show Int.toNat 32 = 32 from rfl, this]
      exact tab_congr fun k _ => by simp
    have e2 : 8 * x.length + Int.toNat 32 = ds.length + 32 := by rw [hdl]; rfl
    conv => cbv
    exact ⟨⟨rfl, e2⟩, ⟨rfl⟩, ⟨e1⟩⟩
  · intro ⟨i, hi⟩
    conv => cbv
    refine Split.mk (fun h => ?_) (fun h => ?_)
    · have h : (i : Int) < 32 := of_decide_eq_true h
      have h : i < 32 := by omega
      have v3 : 0 ≤ (i : Int) ∧ (i : Int) < ((ds.length + 32 : Nat) : Int) := by omega
      have v4 : 0 + ((i : Int)).toNat < (tab (ds.length + 32) fun k => ds.getD k false ^^ decide (k < i)).length := by simp; omega
      have hw1 : IntKind.i64.wrap ((i : Int) + 1) = ((i + 1 : Nat) : Int) := by rw [wrap_i64 (by omega)]; omega
      have hlt : i + 1 ≤ 32 ∧ 32 - (i + 1) < 32 - i := by omega
      have g1 := tab_get (n := ds.length + 32) (k := i) (fun k => ds.getD k false ^^ decide (k < i)) (by omega)
      conv => cbv
      refine ⟨⟨v3⟩, ⟨v4⟩, ⟨v3⟩, ⟨v4⟩, ⟨i + 1, hlt.1⟩, hlt.2, ?_⟩
      conv => cbv
      refine ⟨⟨rfl, rfl⟩, ⟨hw1⟩, ⟨?_⟩⟩
      simp only [dall_one, Nat.zero_add, Int.toNat_natCast, g1, tab_set]
      refine tab_congr fun k _ => ?_
      by_cases hk : k = i
      · subst hk
        have e1 : decide (k < k) = false := by simp
        have e2 : decide (k < k + 1) = true := by simp
        rw [if_pos rfl, e1, e2]; cases ds.getD k false <;> rfl
      · have e1 : decide (k < i) = decide (k < i + 1) := by rw [decide_eq_decide]; omega
        rw [if_neg hk, e1]
    · have h : ¬ (i : Int) < 32 := of_decide_eq_false h
      have hi2 : i = 32 := by omega
      have hw0 : IntKind.i64.wrap (((ds.length + 32 : Nat) : Int) - 32) = (ds.length : Int) := by rw [wrap_i64 (by omega)]; omega
      conv => cbv
      refine LoopP.mk {i : Nat // i ≤ ds.length} (fun i => ⟨ev 84 [(3, .ms 0 (fun _ => 0) (fun _ => ds.length + 32)), (5, .ms 1 (fun _ => 0) (fun _ => 14)), (6, .int .i64 fun _ => (ds.length : Int)), (7, .int .i64 fun _ => (i.1 : Int))],
        [(0, .row false [.bool] fun _ => tab (ds.length + 32) (rowS ds i.1)), (1, .row true I64 fun _ => rowI pows)], 8⟩) (fun i => ds.length - i.1) ⟨0, Nat.zero_le _⟩ ?_ ?_
      · have e3 : (tab (ds.length + 32) fun k => ds.getD k false ^^ decide (k < i)) = tab (ds.length + 32) (rowS ds 0) := tab_congr fun k _ => by rw [rowS_zero, hi2]
        conv => cbv
        exact ⟨⟨rfl, rfl⟩, ⟨rfl, rfl⟩, ⟨hw0⟩, ⟨rfl⟩, ⟨e3⟩, ⟨rfl⟩⟩
      · intro ⟨n, hn⟩
        conv => cbv
        refine Split.mk (fun h2 => ?_) (fun h2 => ?_)
        · have h2 : (n : Int) < (ds.length : Int) := of_decide_eq_true h2
          have h2 : n < ds.length := by omega
          have v3 : 0 ≤ (n : Int) ∧ (n : Int) < ((ds.length + 32 : Nat) : Int) := by omega
          have v4 : 0 + ((n : Int)).toNat < (tab (ds.length + 32) (rowS ds n)).length := by simp; omega
          have hw1 : IntKind.i64.wrap ((n : Int) + 1) = ((n + 1 : Nat) : Int) := by rw [wrap_i64 (by omega)]; omega
          have hlt : n + 1 ≤ ds.length ∧ ds.length - (n + 1) < ds.length - n := by omega
          have g1 : (lk (lk (tab (ds.length + 32) (rowS ds n)) (0 + ((n : Int)).toNat)) 0).toBool = rowS ds n n := by
            rw [Nat.zero_add, Int.toNat_natCast]; exact tab_get (rowS ds n) (by omega)
          conv => cbv
          refine ⟨⟨v3⟩, ⟨v4⟩, Split.mk (fun h3 => ?_) (fun h3 => ?_)⟩
          · have h3 : rowS ds n n = true := g1.symm.trans h3
            have hnx := rowS_next h2
            rw [h3] at hnx
            conv => cbv
            refine ⟨⟨v3⟩, ⟨v4⟩, LoopP.mk {t : Nat // t ≤ 14} (fun t => ⟨ev 84 [(3, .ms 0 (fun _ => 0) (fun _ => ds.length + 32)), (5, .ms 1 (fun _ => 0) (fun _ => 14)), (6, .int .i64 fun _ => (ds.length : Int)), (7, .int .i64 fun _ => (n : Int)), (8, .int .i64 fun _ => (t.1 : Int))],
              [(0, .row false [.bool] fun _ => tab (ds.length + 32) (flips (fun j => if j = n then false else rowS ds n j) n (pows.take t.1))), (1, .row true I64 fun _ => rowI pows)], 8⟩) (fun t => 14 - t.1) ⟨0, Nat.zero_le _⟩ ?_ ?_⟩
            · conv => cbv
              refine ⟨⟨rfl, rfl⟩, ⟨rfl, rfl⟩, ⟨rfl⟩, ⟨rfl⟩, ⟨rfl⟩, ⟨?_⟩, ⟨rfl⟩⟩
              simp only [dall_one, Nat.zero_add, Int.toNat_natCast, tab_set]
              rfl
            · intro ⟨t, ht⟩
              conv => cbv
              refine Split.mk (fun h4 => ?_) (fun h4 => ?_)
              · have h4 : (t : Int) < ((14 : Nat) : Int) := of_decide_eq_true h4
                have h4 : t < 14 := by omega
                have q1 := pow_lt t h4
                have q2 := pow_at h4
                have q3 := flips_next (fun j => if j = n then false else rowS ds n j) n t h4
                obtain ⟨p, hp⟩ : ∃ p, p = pows.getD t 0 := ⟨_, rfl⟩
                obtain ⟨F, hF⟩ : ∃ F, F = flips (fun j => if j = n then false else rowS ds n j) n (pows.take t) := ⟨_, rfl⟩
                rw [← hp] at q1 q2 q3
                rw [← hF] at q3
                have q2' : (lk (lk (rowI pows) (0 + ((t : Int)).toNat)) 0).toInt = (p : Int) := by rw [Nat.zero_add, Int.toNat_natCast]; exact q2
                have w1 : IntKind.i64.wrap (IntKind.i64.wrap ((n : Int) + 32) - (lk (lk (rowI pows) (0 + ((t : Int)).toNat)) 0).toInt) = ((n + 32 - p : Nat) : Int) := by
                  rw [q2', wrap_i64 (n := (n : Int) + 32) (by omega), wrap_i64 (by omega)]; omega
                have v5 : 0 ≤ (t : Int) ∧ (t : Int) < ((14 : Nat) : Int) := by omega
                have v6 : 0 + ((t : Int)).toNat < (rowI pows).length := by rw [Nat.zero_add, Int.toNat_natCast]; exact h4
                have v7 : 0 ≤ IntKind.i64.wrap (IntKind.i64.wrap ((n : Int) + 32) - (lk (lk (rowI pows) (0 + ((t : Int)).toNat)) 0).toInt) ∧ IntKind.i64.wrap (IntKind.i64.wrap ((n : Int) + 32) - (lk (lk (rowI pows) (0 + ((t : Int)).toNat)) 0).toInt) < ((ds.length + 32 : Nat) : Int) := by rw [w1]; omega
                have v8 : 0 + (IntKind.i64.wrap (IntKind.i64.wrap ((n : Int) + 32) - (lk (lk (rowI pows) (0 + ((t : Int)).toNat)) 0).toInt)).toNat < (tab (ds.length + 32) F).length := by rw [w1]; simp; omega
                have g2 : (lk (lk (tab (ds.length + 32) F) (0 + (IntKind.i64.wrap (IntKind.i64.wrap ((n : Int) + 32) - (lk (lk (rowI pows) (0 + ((t : Int)).toNat)) 0).toInt)).toNat)) 0).toBool = F (n + 32 - p) := by
                  rw [w1, Nat.zero_add, Int.toNat_natCast]; exact tab_get F (by omega)
                have g3 : (tab (ds.length + 32) F).set (0 + (IntKind.i64.wrap (IntKind.i64.wrap ((n : Int) + 32) - (lk (lk (rowI pows) (0 + ((t : Int)).toNat)) 0).toInt)).toNat) [D.bool (!(F (n + 32 - p)))] = tab (ds.length + 32) (flip F (n + 32 - p)) := by
                  rw [w1, Nat.zero_add, Int.toNat_natCast, tab_set]
                  refine tab_congr fun j _ => ?_
                  simp only [flip]
                  by_cases hj : j = n + 32 - p
                  · rw [if_pos hj, if_pos hj, hj]
                  · rw [if_neg hj, if_neg hj]
                have hw2 : IntKind.i64.wrap ((t : Int) + 1) = ((t + 1 : Nat) : Int) := by rw [wrap_i64 (by omega)]; omega
                have hlt2 : t + 1 ≤ 14 ∧ 14 - (t + 1) < 14 - t := by omega
                subst hF
                conv => cbv
                refine ⟨⟨v5⟩, ⟨v6⟩, ⟨v5⟩, ⟨v6⟩, ⟨v7⟩, ⟨v8⟩, ⟨v7⟩, ⟨v8⟩, ⟨t + 1, hlt2.1⟩, hlt2.2, ?_⟩
                conv => cbv
                refine ⟨⟨rfl, rfl⟩, ⟨rfl, rfl⟩, ⟨rfl⟩, ⟨rfl⟩, ⟨hw2⟩, ⟨?_⟩, ⟨rfl⟩⟩
                simp only [dall_one]
                rw [g2, g3, ← q3]
              · have h4 : ¬ (t : Int) < ((14 : Nat) : Int) := of_decide_eq_false h4
                have ht2 : t = 14 := by omega
                have e5 : tab (ds.length + 32) (flips (fun j => if j = n then false else rowS ds n j) n (pows.take t)) = tab (ds.length + 32) (rowS ds (n + 1)) := by
                  rw [ht2, show pows.take 14 = pows from rfl]
                  exact tab_congr fun k _ => by rw [hnx k, if_pos rfl]
                conv => cbv
                refine ⟨⟨n + 1, hlt.1⟩, hlt.2, ?_⟩
                conv => cbv
                exact ⟨⟨rfl, rfl⟩, ⟨rfl, rfl⟩, ⟨rfl⟩, ⟨hw1⟩, ⟨e5⟩, ⟨rfl⟩⟩
          · have h3 : rowS ds n n = false := g1.symm.trans h3
            have hnx := rowS_next h2
            rw [h3] at hnx
            have e4 : tab (ds.length + 32) (rowS ds n) = tab (ds.length + 32) (rowS ds (n + 1)) := tab_congr fun k _ => by rw [hnx k]; rfl
            conv => cbv
            refine ⟨⟨n + 1, hlt.1⟩, hlt.2, ?_⟩
            conv => cbv
            exact ⟨⟨rfl, rfl⟩, ⟨rfl, rfl⟩, ⟨rfl⟩, ⟨hw1⟩, ⟨e4⟩, ⟨rfl⟩⟩
        · have h2 : ¬ (n : Int) < (ds.length : Int) := of_decide_eq_false h2
          have hn2 : n = ds.length := by omega
          obtain ⟨X, hX⟩ : ∃ X : B32, X = crcs 0 (bn x) := ⟨_, rfl⟩
          have hreg : ~~~ X = reg ds n := by
            rw [hX, crcs_digits _ _ (bn_lt hw), ← hds, reg, hn2, List.take_length]
            rfl
          conv => cbv
          refine LoopP.mk {j : Nat // j ≤ 32} (fun j => ⟨ev 84 [(3, .ms 0 (fun _ => 0) (fun _ => ds.length + 32)), (6, .int .i64 fun _ => (ds.length : Int)), (9, .int .u32 fun _ => ((X >>> j.1).toNat : Int)), (10, .int .i64 fun _ => (j.1 : Int) - 1)],
            [(0, .row false [.bool] fun _ => tab (ds.length + 32) (rowS ds n))], 8⟩) (fun j => j.1) ⟨32, Nat.le_refl _⟩ ?_ ?_
          · have e6 : (0 : Int) = ((X >>> 32).toNat : Int) := by
              have : X >>> 32 = 0#32 := BitVec.ushiftRight_eq_zero (by decide)
              rw [this]; rfl
            conv => cbv
            exact ⟨⟨rfl, rfl⟩, ⟨rfl⟩, ⟨e6⟩, ⟨rfl⟩, ⟨rfl⟩⟩
          · intro ⟨j, hj⟩
            conv => cbv
            refine Split.mk (fun h5 => ?_) (fun h5 => ?_)
            · have h5 : (0 : Int) ≤ (j : Int) - 1 := of_decide_eq_true h5
              obtain ⟨i2, rfl⟩ : ∃ i2, j = i2 + 1 := ⟨j - 1, by omega⟩
              have w1 : IntKind.i64.wrap ((ds.length : Int) + (((i2 + 1 : Nat) : Int) - 1)) = ((n + i2 : Nat) : Int) := by rw [wrap_i64 (by omega)]; omega
              have v3 : 0 ≤ IntKind.i64.wrap ((ds.length : Int) + (((i2 + 1 : Nat) : Int) - 1)) ∧ IntKind.i64.wrap ((ds.length : Int) + (((i2 + 1 : Nat) : Int) - 1)) < ((ds.length + 32 : Nat) : Int) := by rw [w1]; omega
              have v4 : 0 + (IntKind.i64.wrap ((ds.length : Int) + (((i2 + 1 : Nat) : Int) - 1))).toNat < (tab (ds.length + 32) (rowS ds n)).length := by rw [w1]; simp; omega
              have hbit : (~~~ X).getLsbD i2 = !(X.getLsbD i2) := by
                rw [BitVec.getLsbD_not]
                have : i2 < 32 := by omega
                simp [this]
              have g1 : (lk (lk (tab (ds.length + 32) (rowS ds n)) (0 + (IntKind.i64.wrap ((ds.length : Int) + (((i2 + 1 : Nat) : Int) - 1))).toNat)) 0).toBool = !(X.getLsbD i2) := by
                rw [w1, Nat.zero_add, Int.toNat_natCast, tab_get (rowS ds n) (by omega), rowS, if_neg (by omega), ← hreg, show n + i2 - n = i2 by omega, hbit]
                simp [List.getD, List.getElem?_eq_none (show ds.length ≤ n + i2 by omega)]
              have hs := shr_next X i2
              have hlt := (X >>> i2).isLt
              have w2 : IntKind.u32.wrap (((X >>> (i2 + 1)).toNat : Int) * 2) = (((X >>> (i2 + 1)).toNat * 2 : Nat) : Int) := by
                rw [wrap_u32_mod]
                have : (X >>> (i2 + 1)).toNat * 2 ≤ (X >>> i2).toNat := by rw [← hs]; exact Nat.le_add_right _ _
                omega
              have w3 : IntKind.i64.wrap ((((i2 + 1 : Nat) : Int) - 1) - 1) = (i2 : Int) - 1 := by rw [wrap_i64 (by omega)]; omega
              have hj2 : i2 ≤ 32 ∧ i2 < i2 + 1 := by omega
              conv => cbv
              refine ⟨⟨v3⟩, ⟨v4⟩, Split.mk (fun h6 => ?_) (fun h6 => ?_)⟩
              · simp only [g1, Bool.not_not] at h6
                rw [h6, if_pos rfl] at hs
                have w4 : IntKind.u32.wrap (IntKind.u32.wrap (((X >>> (i2 + 1)).toNat : Int) * 2) + 1) = ((X >>> i2).toNat : Int) := by
                  rw [w2, wrap_u32_mod, ← hs]
                  omega
                conv => cbv
                refine ⟨⟨i2, hj2.1⟩, hj2.2, ?_⟩
                conv => cbv
                exact ⟨⟨rfl, rfl⟩, ⟨rfl⟩, ⟨w4⟩, ⟨w3⟩, ⟨rfl⟩⟩
              · simp only [g1, Bool.not_not] at h6
                rw [h6] at hs
                have hs : (X >>> (i2 + 1)).toNat * 2 = (X >>> i2).toNat := hs
                have w4 : IntKind.u32.wrap (((X >>> (i2 + 1)).toNat : Int) * 2) = ((X >>> i2).toNat : Int) := by rw [w2, hs]
                conv => cbv
                refine ⟨⟨i2, hj2.1⟩, hj2.2, ?_⟩
                conv => cbv
                exact ⟨⟨rfl, rfl⟩, ⟨rfl⟩, ⟨w4⟩, ⟨w3⟩, ⟨rfl⟩⟩
            · have h5 : ¬ (0 : Int) ≤ (j : Int) - 1 := of_decide_eq_false h5
              have hj0 : j = 0 := by omega
              conv => cbv
              refine ⟨?_⟩
              show ((X >>> j).toNat : Int) = ((crcs 0 (bn x)).toNat : Int)
              rw [hj0, ← hX]
              simp
end Go.Am
/- alibilaw02.CrcOpens keeps its contract: it returns true. -/
namespace Go.Am
set_option linter.all false
set_option linter.deprecated false
open Go.Proofs
set_option maxRecDepth 100000
set_option maxHeartbeats 4000000
def opensC : Contract := { modes := [], fn := fun args M => match args, M with
  | [.sl _ [.int .u8] _], [] => some ⟨[], .bool (fun _ => true), []⟩
  | _, _ => none }
def Lo1 : List (Nat × Contract) := [(27, trueC), (20, ownC), (28, openC), (30, rsumC), (29, stC), (22, sameC), (25, spoilC), (31, cputC)]
def Go1 : Ctx := fun f => gget Lo1 f
theorem Go1_ok : ∀ f C, Go1 f = some C → CSound Try.prog f C := gget_cons works2_ok (gget_cons own_ok (gget_cons open_ok (gget_cons rsum_ok (gget_cons rstands_ok (gget_cons same_ok (gget_cons spoil_ok (gget_cons cput_ok (gget_nil _))))))))
theorem openS_put (xs : List (List D)) : openS (xs ++ rowB (crcB xs)) = (xs, 0) := by
  have hl : (xs ++ rowB (crcB xs)).length = xs.length + 4 := by simp
  rw [openS, if_neg (by omega), hl, Nat.add_sub_cancel, List.drop_left, List.take_left, bn_rowB, if_pos rfl]
theorem opens_ok : CSound Try.prog 5 opensC := by
  refine fsound' (G := Go1) (c := codeOf Try.f5) mixed tyT Go1_ok Try.func5 (by rfl) (by kernel_rfl) (by kernel_rfl) fun args M r hr hvc hw hm => ?_
  unfold opensC at hr
  simp only at hr
  split at hr <;> cases hr
  rename_i nn b
  clear hvc hm
  have hx : b = fun _ => b () := rfl
  generalize b () = b at hx
  subst hx
  simp only [WfVs, WfV, and_true] at hw
  have hT : List.take b.length (List.drop 0 b) = b := by simp
  conv => cbv
  refine Split.mk (fun h => ?_) (fun h => ?_)
  · conv => cbv
    exact ⟨rfl⟩
  · have h : ¬ (400 : Int) < b.length := of_decide_eq_false h
    have hb : b.length ≤ 400 := by omega
    have v1 : b.length ≤ big := by simp only [big]; omega
    conv => cbv
    refine ⟨⟨v1⟩, LoopP.mk Nat (fun t => ⟨ev 92 [(0, .sl false U8 fun _ => b), (2, .bool fun _ => false), (3, .ms 0 (fun _ => 0) (fun _ => b.length)), (4, .int .i64 fun _ => (t : Int))], [(0, .row false U8 fun _ => b)], 8⟩) (fun t => 2 - t) 0 ?_ ?_⟩
    · conv => cbv
      exact ⟨⟨rfl⟩, ⟨rfl⟩, ⟨rfl, rfl⟩, ⟨rfl⟩, ⟨rfl⟩⟩
    · intro t
      conv => cbv
      refine Split.mk (fun h => ?_) (fun h => ?_)
      · have h : (t : Int) < 2 := of_decide_eq_true h
        have hw1 : IntKind.i64.wrap ((t : Int) + 1) = ((t + 1 : Nat) : Int) := by rw [wrap_i64 (by omega)]; omega
        have hlt : 2 - (t + 1) < 2 - t := by omega
        conv => cbv
        refine ⟨⟨v1⟩, Split.mk (fun h2 => ?_) (fun h2 => ?_)⟩
        · have h2 : (b.length : Int) < 4 := of_decide_eq_true h2
          have e : openS b = ([], 4) := by rw [openS, if_pos (by omega)]
          conv => cbv
          repeat (first | (refine .ofF ?_ ?_; (focus (simp [e]; done)); conv => cbv) | (refine .ofT ?_ ?_; (focus (simp [e]; done)); conv => cbv) | (refine ⟨⟨?_⟩, ?_⟩; (focus (simp [e]; done))))
          refine ⟨t + 1, hlt, ?_⟩
          conv => cbv
          exact ⟨⟨rfl⟩, ⟨rfl⟩, ⟨rfl, rfl⟩, ⟨hw1⟩, ⟨rfl⟩⟩
        · have h2 : ¬ (b.length : Int) < 4 := of_decide_eq_false h2
          obtain ⟨n, hn⟩ : ∃ n, b.length = n + 4 := ⟨b.length - 4, by omega⟩
          have hw2 : IntKind.i64.wrap ((b.length : Int) - 4) = (n : Int) := by rw [wrap_i64 (by omega)]; omega
          have e1 : openS b = if bn (b.drop n) = crcB (b.take n) then (b.take n, 0) else ([], 20) := by rw [openS, if_neg (by omega), show b.length - 4 = n by omega]
          have v2 : 0 ≤ IntKind.i64.wrap ((b.length : Int) - 4) ∧ IntKind.i64.wrap ((b.length : Int) - 4) ≤ (b.length : Int) ∧ (b.length : Int) ≤ (b.length : Int) ∧ (b.length : Int) ≤ (b.length : Int) := by rw [hw2]; omega
          have v3 : (0 : Int) ≤ 0 ∧ (0 : Int) ≤ IntKind.i64.wrap ((b.length : Int) - 4) ∧ IntKind.i64.wrap ((b.length : Int) - 4) ≤ IntKind.i64.wrap ((b.length : Int) - 4) ∧ IntKind.i64.wrap ((b.length : Int) - 4) ≤ (b.length : Int) := by rw [hw2]; omega
          have hn4 : (b.drop n).take (b.length - n) = b.drop n := List.take_of_length_le (by simp)
          have hn5 : n ≤ b.length := by omega
          have hn6 : n + (b.length - n) ≤ b.length := by omega
          have hnm : min n b.length = n := by omega
          have hn7 : 8 * min n b.length + 32 ≤ big := by simp only [big]; omega
          conv => cbv
          refine ⟨⟨v2⟩, ⟨v3⟩, ⟨by simp [hw2]; exact hn5⟩, ⟨by simp [hw2]; exact hn7⟩, ⟨by simp [hw2]; exact hn6⟩, ⟨by simp [st4]⟩, Split.mk (fun h3 => ?_) (fun h3 => ?_)⟩
          · simp [hw2, hn4] at h3
            have h3 : bn (b.drop n) = crcB (b.take n) := h3
            rw [if_pos h3] at e1
            conv => cbv
            refine .ofF (by simp [e1]) ?_
            conv => cbv
            refine ⟨⟨v3⟩, ⟨by simp [e1]⟩, ⟨by simp [hw2]; exact hn5⟩, ?_⟩
            repeat (first | (refine .ofF ?_ ?_; (focus (simp [e1, hw2, hnm, List.take_take]; done)); conv => cbv) | (refine .ofT ?_ ?_; (focus (simp [e1, hw2, hnm, List.take_take]; done)); conv => cbv) | (refine ⟨⟨?_⟩, ?_⟩; (focus (simp [e1, hw2, hnm, List.take_take]; done))))
            refine ⟨t + 1, hlt, ?_⟩
            conv => cbv
            exact ⟨⟨rfl⟩, ⟨rfl⟩, ⟨rfl, rfl⟩, ⟨hw1⟩, ⟨rfl⟩⟩
          · simp [hw2, hn4] at h3
            have h3 : bn (b.drop n) ≠ crcB (b.take n) := h3
            rw [if_neg h3] at e1
            conv => cbv
            repeat (first | (refine .ofF ?_ ?_; (focus (simp [e1]; done)); conv => cbv) | (refine .ofT ?_ ?_; (focus (simp [e1]; done)); conv => cbv) | (refine ⟨⟨?_⟩, ?_⟩; (focus (simp [e1]; done))))
            refine ⟨t + 1, hlt, ?_⟩
            conv => cbv
            exact ⟨⟨rfl⟩, ⟨rfl⟩, ⟨rfl, rfl⟩, ⟨hw1⟩, ⟨rfl⟩⟩
      · have h : ¬ (t : Int) < 2 := of_decide_eq_false h
        have e := openS_put b
        have v5 : b.length + 4 ≤ big := by simp only [big]; omega
        have e2 : (b ++ rowB (crcB b)).length = b.length + 4 := by simp
        have e3 : List.take (b.length + 4) (b ++ rowB (crcB b)) = b ++ rowB (crcB b) := List.take_of_length_le (by omega)
        conv => cbv
        repeat (first | (refine .ofF ?_ ?_; (focus (simp [e, e3, v5, hT]; done)); conv => cbv) | (refine .ofT ?_ ?_; (focus (simp [e, e3, v5, hT]; done)); conv => cbv) | (refine ⟨⟨?_⟩, ?_⟩; (focus (simp [e, e3, v5, hT]; done))))
        exact ⟨rfl⟩
end Go.Am
/- The check of bytes: a short change is seen. -/
namespace Go.Am
set_option linter.all false
set_option linter.deprecated false
theorem csh_zero : csh 0#32 = 0#32 := by decide
theorem citer_zero : ∀ n, citer n 0#32 = 0#32
  | 0 => rfl
  | n + 1 => by rw [citer, csh_zero, citer_zero n]
theorem csh_inj0 {r : B32} (h : csh r = 0#32) : r = 0#32 := by
  rw [csh_eq] at h
  have hb : ∀ i, ((r >>> 1) ^^^ (if r.getLsbD 0 then cpoly else 0#32)).getLsbD i = false := fun i => by rw [h]; simp
  have h0 : r.getLsbD 0 = false := by
    have h31 := hb 31
    rw [BitVec.getLsbD_xor, BitVec.getLsbD_ushiftRight, BitVec.getLsbD_of_ge _ (1 + 31) (by decide)] at h31
    cases hr : r.getLsbD 0 with
    | false => rfl
    | true =>
      rw [hr] at h31
      exact absurd h31 (by decide)
  apply BitVec.eq_of_getLsbD_eq
  intro i hi
  cases i with
  | zero => rw [h0]; simp
  | succ i =>
    have := hb i
    rw [h0, BitVec.getLsbD_xor, BitVec.getLsbD_ushiftRight, Nat.add_comm] at this
    simpa using this
theorem citer_inj0 : ∀ (n : Nat) (r : B32), citer n r = 0#32 → r = 0#32
  | 0, _, h => h
  | n + 1, r, h => csh_inj0 (citer_inj0 n _ h)
theorem cstep_xor (r s : B32) (a b : Bool) : cstep (r ^^^ s) (a ^^ b) = cstep r a ^^^ cstep s b := by
  rw [cstep_eq, cstep_eq, cstep_eq, ← csh_xor]
  congr 1
  have : (if (a ^^ b) then 1#32 else 0#32) = (if a then 1#32 else 0#32) ^^^ (if b then 1#32 else 0#32) := by cases a <;> cases b <;> decide
  rw [this]
  generalize (if a then 1#32 else 0#32) = p
  generalize (if b then 1#32 else 0#32) = q
  ac_rfl
theorem fold_xor : ∀ (ws bs : List Bool) (r s : B32), ws.length = bs.length → (List.zipWith xor ws bs).foldl cstep (r ^^^ s) = ws.foldl cstep r ^^^ bs.foldl cstep s
  | [], [], _, _, _ => rfl
  | a :: ws, b :: bs, r, s, h => by
    simp only [List.zipWith_cons_cons, List.foldl_cons, cstep_xor]
    exact fold_xor ws bs _ _ (by simpa using h)
  | [], _ :: _, _, _, h => by simp at h
  | _ :: _, [], _, _, h => by simp at h
theorem cstep_false (r : B32) : cstep r false = csh r := by rw [cstep_eq]; simp
theorem fold_false : ∀ (n : Nat) (r : B32), (List.replicate n false).foldl cstep r = citer n r
  | 0, _ => rfl
  | n + 1, r => by rw [List.replicate_succ, List.foldl_cons, cstep_false, fold_false n]; rfl
theorem bits_get : ∀ (n c j : Nat), j < n → (bits n c)[j]? = some (c.testBit j)
  | n + 1, c, 0, _ => by
    rw [bits, List.getElem?_cons_zero, Nat.testBit_zero]
    rcases Nat.mod_two_eq_zero_or_one c with h | h <;> rw [h] <;> rfl
  | n + 1, c, j + 1, h => by
    rw [bits, List.getElem?_cons_succ, bits_get n (c / 2) j (by omega), Nat.testBit_succ]
theorem digits_get : ∀ (o : List Nat) (p : Nat), p < 8 * o.length → (digits o)[p]? = some ((o.getD (p / 8) 0).testBit (p % 8))
  | [], p, h => by simp at h
  | x :: o, p, h => by
    simp only [digits, List.flatMap_cons]
    by_cases hp : p < 8
    · rw [List.getElem?_append_left (by simpa using hp), bits_get 8 x p hp, Nat.div_eq_of_lt hp, Nat.mod_eq_of_lt hp]
      rfl
    · rw [List.getElem?_append_right (by simpa using Nat.le_of_not_lt hp), bits_len]
      have := digits_get o (p - 8) (by simp at h; omega)
      simp only [digits] at this
      rw [this]
      have e1 : p / 8 = (p - 8) / 8 + 1 := by omega
      have e2 : p % 8 = (p - 8) % 8 := by omega
      rw [e1, e2]
      rfl
/-- a short change is seen in the check -/
theorem crc_finds {o b : List Nat} {a c : Nat} (ho : ∀ x ∈ o, x < 256) (hb : ∀ x ∈ b, x < 256) (hl : o.length = b.length) (ha : a ≤ 8 * b.length)
    (h : ∀ p, p < 8 * b.length → (o.getD (p / 8) 0).testBit (p % 8) = ((b.getD (p / 8) 0).testBit (p % 8) ^^ (decide (a ≤ p ∧ p < a + 32) && c.testBit (p - a)))) :
    (crcs 0 o = crcs 0 b) ↔ c % 2 ^ (min 32 (8 * b.length - a)) = 0 := by
  obtain ⟨m, hm⟩ : ∃ m, m = min 32 (8 * b.length - a) := ⟨_, rfl⟩
  rw [← hm]
  have hE : digits o = List.zipWith xor (digits b) (List.replicate a false ++ bits m (c % 2 ^ m) ++ List.replicate (8 * b.length - a - m) false) := by
    apply List.ext_getElem?
    intro p
    by_cases hp : p < 8 * b.length
    · rw [digits_get o p (by omega), h p hp, List.getElem?_zipWith, digits_get b p hp]
      have e : (List.replicate a false ++ bits m (c % 2 ^ m) ++ List.replicate (8 * b.length - a - m) false)[p]? = some (decide (a ≤ p ∧ p < a + 32) && c.testBit (p - a)) := by
        rw [List.append_assoc]
        by_cases h1 : p < a
        · have : ¬ a ≤ p := by omega
          rw [List.getElem?_append_left (by simpa using h1)]
          simp [h1, this]
        · rw [List.getElem?_append_right (by simpa using Nat.le_of_not_lt h1), List.length_replicate]
          by_cases h2 : p - a < m
          · have h3 : a ≤ p ∧ p < a + 32 := by omega
            rw [List.getElem?_append_left (by simpa using h2), bits_get m _ _ h2, Nat.testBit_mod_two_pow]
            simp [h2, h3]
          · have h3 : ¬ (a ≤ p ∧ p < a + 32) := by omega
            rw [List.getElem?_append_right (by simpa using Nat.le_of_not_lt h2), bits_len, List.getElem?_replicate, if_pos (by omega)]
            simp [h3]
      rw [e]
    · rw [List.getElem?_eq_none (by rw [digits_len]; omega), List.getElem?_eq_none]
      rw [List.length_zipWith, digits_len]; omega
  have hlen : (digits b).length = (List.replicate a false ++ bits m (c % 2 ^ m) ++ List.replicate (8 * b.length - a - m) false).length := by
    simp; omega
  have h1 : ~~~ (crcs 0#32 o) = (digits o).foldl cstep (~~~ 0#32) := crcs_digits o 0 ho
  have h2 : ~~~ (crcs 0#32 b) = (digits b).foldl cstep (~~~ 0#32) := crcs_digits b 0 hb
  show (crcs 0#32 o = crcs 0#32 b) ↔ _
  have hx := fold_xor (digits b) _ (~~~ 0#32) 0#32 hlen
  rw [BitVec.xor_zero, ← hE, ← h1, ← h2] at hx
  have hF : (List.replicate a false ++ bits m (c % 2 ^ m) ++ List.replicate (8 * b.length - a - m) false).foldl cstep 0#32 = citer (8 * b.length - a - m) (citer m (BitVec.ofNat 32 (c % 2 ^ m))) := by
    rw [List.foldl_append, List.foldl_append, fold_false, fold_false, citer_zero, ← citer_bits m 0#32 _ (Nat.mod_lt _ (Nat.two_pow_pos m)) (by omega), BitVec.zero_xor]
  rw [hF] at hx
  have hc : c % 2 ^ m < 2 ^ 32 := Nat.lt_of_lt_of_le (Nat.mod_lt _ (Nat.two_pow_pos m)) (Nat.pow_le_pow_right (by decide) (by omega))
  constructor
  · intro e
    rw [e] at hx
    have h0 : citer (8 * b.length - a - m) (citer m (BitVec.ofNat 32 (c % 2 ^ m))) = 0#32 := by
      have : ∀ x y : B32, x = x ^^^ y → y = 0#32 := fun x y hxy => by
        have h5 : x ^^^ x = x ^^^ (x ^^^ y) := by rw [← hxy]
        rw [BitVec.xor_self, ← BitVec.xor_assoc, BitVec.xor_self, BitVec.zero_xor] at h5
        exact h5.symm
      exact this _ _ hx
    have h6 := citer_inj0 _ _ (citer_inj0 _ _ h0)
    have h7 := congrArg BitVec.toNat h6
    rw [BitVec.toNat_ofNat, Nat.mod_eq_of_lt hc] at h7
    simpa using h7
  · intro e
    rw [e] at hx
    have h8 : citer (8 * b.length - a - m) (citer m (BitVec.ofNat 32 0)) = 0#32 := by
      rw [show BitVec.ofNat 32 0 = 0#32 from rfl, citer_zero, citer_zero]
    rw [h8, BitVec.xor_zero] at hx
    have h9 := congrArg (fun z : B32 => ~~~ z) hx
    simpa using h9
theorem mod_next (c i : Nat) : c % 2 ^ (i + 1) = 0 ↔ (c % 2 ^ i = 0 ∧ c.testBit i = false) := by
  have h1 := Nat.mod_add_div c (2 ^ i)
  have h2 : c % 2 ^ (i + 1) = c % 2 ^ i + 2 ^ i * (c / 2 ^ i % 2) := by rw [Nat.pow_succ, Nat.mod_mul]
  have h3 := Nat.two_pow_pos i
  rw [h2, Nat.testBit_eq_decide_div_mod_eq]
  rcases Nat.mod_two_eq_zero_or_one (c / 2 ^ i) with h | h <;> rw [h] <;> simp
end Go.Am
/- alibikit.Pick, alibilaw02.CrcFinds keep their contracts. -/
namespace Go.Am
set_option linter.all false
set_option linter.deprecated false
open Go.Proofs
set_option maxRecDepth 100000
set_option maxHeartbeats 4000000
def pickS (i n : Int) : Int := if n ≤ 0 then 0 else i % n
def pickC : Contract := { modes := [.ro, .ro], fn := fun args M => match args, M with
  | [.int .i64 i, .int .i64 n], [] => some ⟨[fun _ => n () < 4611686018427387904], .int .i64 fun _ => pickS (i ()) (n ()), []⟩
  | _, _ => none }
theorem pick_ok : CSound Try.prog 32 pickC := by
  refine fsound' (G := G0) (c := codeOf Try.f32) mixed tyT (gget_nil _) Try.func32 (by rfl) (by kernel_rfl) (by kernel_rfl) fun args M r hr hvc hw hm => ?_
  unfold pickC at hr
  simp only at hr
  split at hr <;> cases hr
  rename_i i n
  have hb : n () < 4611686018427387904 := hvc _ (List.mem_singleton.2 rfl)
  clear hvc hm
  have hx : i = fun _ => i () := rfl
  generalize i () = i at hx
  subst hx
  have hx : n = fun _ => n () := rfl
  generalize n () = n at hx hb
  subst hx
  simp only [WfVs, WfV, and_true, i64_iff] at hw
  conv => cbv
  refine Split.mk (fun h => ?_) (fun h => ?_)
  · have h : n ≤ 0 := of_decide_eq_true h
    have e : pickS i n = 0 := if_pos h
    conv => cbv
    simp only [Hold.iff, e]
  · have h : ¬ n ≤ 0 := of_decide_eq_false h
    have hn : n ≠ 0 := by omega
    have e : pickS i n = i % n := if_neg h
    have e1 := Int.emod_nonneg i hn
    have e2 := Int.emod_lt_of_pos i (show 0 < n by omega)
    have key : (IntKind.i64.wrap (i.tmod n + n)).tmod n = pickS i n := by
      rw [e]
      by_cases hi : 0 ≤ i
      · rw [Int.tmod_eq_emod_of_nonneg hi, wrap_i64 (by omega), Int.tmod_eq_emod_of_nonneg (by omega), Int.add_emod_right, Int.emod_emod_of_dvd _ (Int.dvd_refl n)]
      · have h1 : i.tmod n = -((-i) % n) := by
          have : i = -(-i) := by omega
          rw [this, Int.neg_tmod, Int.tmod_eq_emod_of_nonneg (by omega), Int.neg_neg]
        have h3 := Int.emod_nonneg (-i) hn
        have h4 := Int.emod_lt_of_pos (-i) (show 0 < n by omega)
        rw [h1, wrap_i64 (by omega), Int.tmod_eq_emod_of_nonneg (by omega), Int.add_emod_right]
        have h5 : (-((-i) % n)) % n = i % n := by
          have : -((-i) % n) = i + n * ((-i) / n) := by
            have := Int.emod_add_mul_ediv (-i) n
            omega
          rw [this, Int.add_mul_emod_self_left]
        exact h5
    conv => cbv
    exact ⟨⟨hn⟩, ⟨hn⟩, ⟨key⟩⟩
def findsC : Contract := { modes := [], fn := fun args M => match args, M with
  | [.sl _ [.int .u8] _, .int .i64 _, .int .u32 _], [] => some ⟨[], .bool (fun _ => true), []⟩
  | _, _ => none }
def Lf1 : List (Nat × Contract) := [(27, trueC), (20, ownC), (32, pickC), (33, sumC)]
def Gf1 : Ctx := fun f => gget Lf1 f
theorem Gf1_ok : ∀ f C, Gf1 f = some C → CSound Try.prog f C := gget_cons works2_ok (gget_cons own_ok (gget_cons pick_ok (gget_cons sum_ok (gget_nil _))))
theorem bn_set (o : List (List D)) (k v : Nat) : bn (o.set k [D.int (v : Int)]) = (bn o).set k v := by
  simp only [bn, List.map_set]
  rfl
theorem WfR.set8 {o : List (List D)} (h : WfR U8 o) (k v : Nat) (hv : v < 256) : WfR U8 (o.set k [D.int (v : Int)]) := by
  refine ⟨by simpa using h.1, fun i hi => ?_⟩
  rw [List.length_set] at hi
  by_cases hk : k = i
  · subst hk
    have : lk (o.set k [D.int (v : Int)]) k = [D.int (v : Int)] := by simp [lk, List.getD, hi]
    rw [this]
    simp only [WfDs, WfD, and_true, lk, List.getD, List.getElem?_cons_zero, Option.getD_some, D.toInt, u8_iff]
    omega
  · have : lk (o.set k [D.int (v : Int)]) i = lk o i := by simp only [lk, List.getD]; rw [List.getElem?_set_ne hk]
    rw [this]
    exact h.2 i hi
structure FnI (b : List (List D)) (a c : Nat) where
  i : Nat
  o : List (List D)
  hi : i ≤ 32
  hl : o.length = b.length
  ho : WfR U8 o
  h : ∀ p, p < 8 * b.length → ((bn o).getD (p / 8) 0).testBit (p % 8) = (((bn b).getD (p / 8) 0).testBit (p % 8) ^^ (decide (a ≤ p ∧ p < a + i) && c.testBit (p - a)))
theorem fn_yes {b : List (List D)} {a c : Nat} (s : FnI b a c) (h1 : s.i < 32) (hc : c.testBit s.i = true) (h2 : a + s.i < 8 * b.length) :
    ∃ s' : FnI b a c, s'.i = s.i + 1 ∧ s'.o = s.o.set ((a + s.i) / 8) [D.int (((bn s.o).getD ((a + s.i) / 8) 0 ^^^ 2 ^ ((a + s.i) % 8) : Nat) : Int)] := by
  obtain ⟨i, o, hi, hl, ho, h⟩ := s
  simp only at h1 hc h2 ⊢
  have hk : (a + i) / 8 < o.length := by omega
  have hv : (bn o).getD ((a + i) / 8) 0 < 256 := bn_lt ho _ (by simp [List.getD, hk])
  have hv2 : (bn o).getD ((a + i) / 8) 0 ^^^ 2 ^ ((a + i) % 8) < 256 := Nat.xor_lt_two_pow (n := 8) hv (Nat.pow_lt_pow_right (by decide) (Nat.mod_lt _ (by decide)))
  refine ⟨⟨i + 1, o.set ((a + i) / 8) [D.int (((bn o).getD ((a + i) / 8) 0 ^^^ 2 ^ ((a + i) % 8) : Nat) : Int)], by omega, by simpa using hl, ho.set8 _ _ hv2, fun p hp => ?_⟩, rfl, rfl⟩
  have hk' : (a + i) / 8 < (bn o).length := by simpa using hk
  have hp' := h p hp
  rw [bn_set]
  by_cases hq : p / 8 = (a + i) / 8
  · have e1 : ((bn o).set ((a + i) / 8) ((bn o).getD ((a + i) / 8) 0 ^^^ 2 ^ ((a + i) % 8))).getD (p / 8) 0 = (bn o).getD (p / 8) 0 ^^^ 2 ^ ((a + i) % 8) := by
      rw [hq]
      simp only [List.getD]
      rw [List.getElem?_set_self hk']
      rfl
    rw [e1, Nat.testBit_xor, hp', Nat.testBit_two_pow]
    by_cases hr : p = a + i
    · subst hr
      have d1 : decide (a ≤ a + i ∧ a + i < a + i) = false := by simp
      have d2 : decide (a ≤ a + i ∧ a + i < a + (i + 1)) = true := by rw [decide_eq_true_iff]; omega
      rw [d1, d2, Nat.add_sub_cancel_left, hc]
      simp
    · have d1 : decide (a ≤ p ∧ p < a + i) = decide (a ≤ p ∧ p < a + (i + 1)) := by rw [decide_eq_decide]; omega
      have d2 : decide ((a + i) % 8 = p % 8) = false := by rw [decide_eq_false_iff_not]; omega
      rw [d1, d2]
      simp
  · have e1 : ((bn o).set ((a + i) / 8) ((bn o).getD ((a + i) / 8) 0 ^^^ 2 ^ ((a + i) % 8))).getD (p / 8) 0 = (bn o).getD (p / 8) 0 := by
      simp only [List.getD]
      rw [List.getElem?_set_ne (Ne.symm hq)]
    have d1 : decide (a ≤ p ∧ p < a + i) = decide (a ≤ p ∧ p < a + (i + 1)) := by rw [decide_eq_decide]; omega
    rw [e1, hp', d1]
theorem fn_no {b : List (List D)} {a c : Nat} (s : FnI b a c) (h1 : s.i < 32) (hc : c.testBit s.i = false ∨ ¬ a + s.i < 8 * b.length) : ∃ s' : FnI b a c, s'.i = s.i + 1 ∧ s'.o = s.o := by
  obtain ⟨i, o, hi, hl, ho, h⟩ := s
  simp only at h1 hc ⊢
  refine ⟨⟨i + 1, o, by omega, hl, ho, fun p hp => ?_⟩, rfl, rfl⟩
  rw [h p hp]
  by_cases hr : p = a + i
  · subst hr
    have hc : c.testBit i = false := hc.resolve_right (by omega)
    rw [Nat.add_sub_cancel_left, hc]
    simp
  · have d1 : decide (a ≤ p ∧ p < a + i) = decide (a ≤ p ∧ p < a + (i + 1)) := by rw [decide_eq_decide]; omega
    rw [d1]
theorem ishl8 (t : Nat) (h : t < 8) : ishl .u8 1 (t : Int) = ((2 ^ t : Nat) : Int) := by
  have : ∀ t : Nat, t < 8 → ishl .u8 1 (t : Int) = ((2 ^ t : Nat) : Int) := by decide
  exact this t h
theorem finds_ok : CSound Try.prog 6 findsC := by
  refine fsound' (G := Gf1) (c := codeOf Try.f6) mixed tyT Gf1_ok Try.func6 (by rfl) (by kernel_rfl) (by kernel_rfl) fun args M r hr hvc hw hm => ?_
  unfold findsC at hr
  simp only at hr
  split at hr <;> cases hr
  rename_i nn b at_ c
  clear hvc hm
  have hx : b = fun _ => b () := rfl
  generalize b () = b at hx
  subst hx
  have hx : at_ = fun _ => at_ () := rfl
  generalize at_ () = q at hx
  subst hx
  have hx : c = fun _ => c () := rfl
  generalize c () = c at hx
  subst hx
  simp only [WfVs, WfV, and_true, i64_iff, u32_iff] at hw
  obtain ⟨hb, hq, hc⟩ := hw
  have ⟨c, hcc⟩ := Int.eq_ofNat_of_zero_le hc.1
  subst hcc
  conv => cbv
  refine Split.mk (fun h => ?_) (fun h => ?_)
  · conv => cbv
    refine .yes ?_
    conv => cbv
    refine .yes ?_
    conv => cbv
    exact ⟨rfl⟩
  · have h : ¬ (400 : Int) < b.length := of_decide_eq_false h
    have hb4 : b.length ≤ 400 := by omega
    conv => cbv
    refine Split.mk (fun h2 => ?_) (fun h2 => ?_)
    · conv => cbv
      refine .yes ?_
      conv => cbv
      exact ⟨rfl⟩
    · have h2 : (b.length : Int) ≠ 0 := eq_f h2
      conv => cbv
      refine Split.mk (fun h3 => ?_) (fun h3 => ?_)
      · conv => cbv
        exact ⟨rfl⟩
      · have h3 : (c : Int) ≠ 0 := eq_f h3
        have v1 : b.length ≤ big := by simp only [big]; omega
        have w8 : IntKind.i64.wrap (8 * (b.length : Int)) = ((8 * b.length : Nat) : Int) := by rw [wrap_i64 (by omega)]; omega
        have v2 : IntKind.i64.wrap (8 * (b.length : Int)) < 4611686018427387904 := by rw [w8]; omega
        obtain ⟨a, ha⟩ : ∃ a : Nat, pickS q (IntKind.i64.wrap (8 * (b.length : Int))) = (a : Int) := by
          rw [w8, pickS, if_neg (by omega)]
          exact ⟨(q % ((8 * b.length : Nat) : Int)).toNat, by have := Int.emod_nonneg q (show ((8 * b.length : Nat) : Int) ≠ 0 by omega); omega⟩
        have hal : a < 8 * b.length := by
          have h4 := Int.emod_lt_of_pos q (show (0 : Int) < ((8 * b.length : Nat) : Int) by omega)
          rw [w8, pickS, if_neg (by omega)] at ha
          omega
        have hbi : 8 * b.length - a > 0 := by omega
        conv => cbv
        refine ⟨⟨v1⟩, ⟨v2⟩, LoopP.mk (FnI b a c) (fun s => ⟨ev 78 [(0, .sl false U8 fun _ => b), (1, .int .i64 fun _ => (a : Int)), (2, .int .u32 fun _ => ((c / 2 ^ s.i : Nat) : Int)), (6, .bool fun _ => false), (7, .ms 0 (fun _ => 0) (fun _ => b.length)), (8, .bool fun _ => decide (c % 2 ^ (min s.i (8 * b.length - a)) ≠ 0)), (9, .int .i64 fun _ => (s.i : Int))], [(0, .row false U8 fun _ => s.o)], 8⟩) (fun s => 32 - s.i) ⟨0, b, by omega, rfl, hb, fun p hp => by
          have : decide (a ≤ p ∧ p < a + 0) = false := by rw [decide_eq_false_iff_not]; omega
          rw [this]; simp⟩ ?_ ?_⟩
        · have e1 : (c : Int) = ((c / 2 ^ 0 : Nat) : Int) := by simp
          have e2 : false = decide (c % 2 ^ (min 0 (8 * b.length - a)) ≠ 0) := by simp [Nat.mod_one]
          conv => cbv
          exact ⟨⟨rfl⟩, ⟨ha⟩, ⟨e1⟩, ⟨rfl⟩, ⟨rfl, rfl⟩, ⟨e2⟩, ⟨rfl⟩, ⟨rfl⟩⟩
        · intro s
          have hsi := s.hi
          have hsl := s.hl
          have t1 : (((c / 2 ^ s.i : Nat) : Int).tmod 2 == 1) = c.testBit s.i := by
            have e : (((c / 2 ^ s.i : Nat) : Int).tmod 2) = ((c / 2 ^ s.i % 2 : Nat) : Int) := (Int.ofNat_tmod _ 2).symm
            rw [e, Nat.testBit_eq_decide_div_mod_eq]
            rcases Nat.mod_two_eq_zero_or_one (c / 2 ^ s.i) with h | h <;> rw [h] <;> rfl
          have t2 : IntKind.u32.wrap (((c / 2 ^ s.i : Nat) : Int).tdiv 2) = ((c / 2 ^ (s.i + 1) : Nat) : Int) := by
            have e : (((c / 2 ^ s.i : Nat) : Int).tdiv 2) = ((c / 2 ^ s.i / 2 : Nat) : Int) := (Int.ofNat_tdiv _ 2).symm
            have e2 : c / 2 ^ s.i / 2 = c / 2 ^ (s.i + 1) := by rw [Nat.div_div_eq_div_mul, ← Nat.pow_succ]
            have e3 : c / 2 ^ (s.i + 1) ≤ c := Nat.div_le_self _ _
            rw [e, e2, wrap_u32_mod]
            generalize c / 2 ^ (s.i + 1) = z at *
            omega
          have n2 : (2 : Int) ≠ 0 := by decide
          have n8 : (8 : Int) ≠ 0 := by decide
          conv => cbv
          refine Split.mk (fun h4 => ?_) (fun h4 => ?_)
          · have h4 : (s.i : Int) < 32 := of_decide_eq_true h4
            have h4 : s.i < 32 := by omega
            have w1 : IntKind.i64.wrap ((s.i : Int) + 1) = ((s.i + 1 : Nat) : Int) := by rw [wrap_i64 (by omega)]; omega
            have w2 : IntKind.i64.wrap ((a : Int) + (s.i : Int)) = ((a + s.i : Nat) : Int) := by rw [wrap_i64 (by omega)]; omega
            have hlt : 32 - (s.i + 1) < 32 - s.i := by omega
            have hmn := mod_next c s.i
            conv => cbv
            refine ⟨⟨n2⟩, Split.mk (fun h5 => ?_) (fun h5 => ?_)⟩
            · have h5 : c.testBit s.i = true := t1.symm.trans h5
              conv => cbv
              refine Split.mk (fun h6 => ?_) (fun h6 => ?_)
              · have h6 : IntKind.i64.wrap ((a : Int) + (s.i : Int)) < IntKind.i64.wrap (8 * (b.length : Int)) := of_decide_eq_true h6
                rw [w2, w8] at h6
                have h6 : a + s.i < 8 * b.length := by omega
                obtain ⟨s', g1, g2⟩ := fn_yes s h4 h5 h6
                have wq : IntKind.i64.wrap ((IntKind.i64.wrap ((a : Int) + (s.i : Int))).tdiv 8) = (((a + s.i) / 8 : Nat) : Int) := by
                  have e : (((a + s.i : Nat) : Int).tdiv 8) = (((a + s.i) / 8 : Nat) : Int) := (Int.ofNat_tdiv _ 8).symm
                  rw [w2, e, wrap_i64 (by omega)]
                have wm : (IntKind.i64.wrap ((a : Int) + (s.i : Int))).tmod 8 = (((a + s.i) % 8 : Nat) : Int) := by
                  have e : (((a + s.i : Nat) : Int).tmod 8) = (((a + s.i) % 8 : Nat) : Int) := (Int.ofNat_tmod _ 8).symm
                  rw [w2, e]
                have v3 : 0 ≤ IntKind.i64.wrap ((IntKind.i64.wrap ((a : Int) + (s.i : Int))).tdiv 8) ∧ IntKind.i64.wrap ((IntKind.i64.wrap ((a : Int) + (s.i : Int))).tdiv 8) < (b.length : Int) := by rw [wq]; omega
                have v4 : 0 + (IntKind.i64.wrap ((IntKind.i64.wrap ((a : Int) + (s.i : Int))).tdiv 8)).toNat < s.o.length := by rw [wq]; omega
                have v5 : 0 ≤ (IntKind.i64.wrap ((a : Int) + (s.i : Int))).tmod 8 := by rw [wm]; omega
                have hk : (a + s.i) / 8 < s.o.length := by omega
                have hld : (lk (lk s.o (0 + (IntKind.i64.wrap ((IntKind.i64.wrap ((a : Int) + (s.i : Int))).tdiv 8)).toNat)) 0).toInt = (((bn s.o).getD ((a + s.i) / 8) 0 : Nat) : Int) := by
                  rw [wq, Nat.zero_add, Int.toNat_natCast]; exact bn_at s.ho hk
                have hvv : (bn s.o).getD ((a + s.i) / 8) 0 < 256 := bn_lt s.ho _ (by simp [List.getD, hk])
                have hx8 : ibits .xor .u8 ((lk (lk s.o (0 + (IntKind.i64.wrap ((IntKind.i64.wrap ((a : Int) + (s.i : Int))).tdiv 8)).toNat)) 0).toInt) (ishl .u8 1 ((IntKind.i64.wrap ((a : Int) + (s.i : Int))).tmod 8)) = (((bn s.o).getD ((a + s.i) / 8) 0 ^^^ 2 ^ ((a + s.i) % 8) : Nat) : Int) := by
                  rw [hld, wm, ishl8 _ (Nat.mod_lt _ (by decide)), ib_xor8 _ _ hvv (Nat.pow_lt_pow_right (by decide) (Nat.mod_lt _ (by decide)))]
                have ech : true = decide (c % 2 ^ (min s'.i (8 * b.length - a)) ≠ 0) := by
                  symm
                  rw [decide_eq_true_iff, g1, show min (s.i + 1) (8 * b.length - a) = s.i + 1 by omega, Ne, hmn, h5]
                  simp
                have g3 : IntKind.u32.wrap (((c / 2 ^ s.i : Nat) : Int).tdiv 2) = ((c / 2 ^ s'.i : Nat) : Int) := by rw [g1]; exact t2
                have g4 : IntKind.i64.wrap ((s.i : Int) + 1) = (s'.i : Int) := by rw [g1]; exact w1
                have g5 : 32 - s'.i < 32 - s.i := by rw [g1]; exact hlt
                have g6 : s.o.set (0 + (IntKind.i64.wrap ((IntKind.i64.wrap ((a : Int) + (s.i : Int))).tdiv 8)).toNat) [D.int (ibits .xor .u8 ((lk (lk s.o (0 + (IntKind.i64.wrap ((IntKind.i64.wrap ((a : Int) + (s.i : Int))).tdiv 8)).toNat)) 0).toInt) (ishl .u8 1 ((IntKind.i64.wrap ((a : Int) + (s.i : Int))).tmod 8)))] = s'.o := by
                  rw [hx8, g2, wq, Nat.zero_add, Int.toNat_natCast]
                conv => cbv
                refine ⟨⟨n8⟩, ⟨v3⟩, ⟨v4⟩, ⟨n8⟩, ⟨v5⟩, ⟨v3⟩, ⟨v4⟩, ⟨n2⟩, ⟨s', g5, ?_⟩⟩
                conv => cbv
                exact ⟨⟨rfl⟩, ⟨rfl⟩, ⟨g3⟩, ⟨rfl⟩, ⟨rfl, rfl⟩, ⟨ech⟩, ⟨g4⟩, ⟨g6⟩⟩
              · have h6 : ¬ IntKind.i64.wrap ((a : Int) + (s.i : Int)) < IntKind.i64.wrap (8 * (b.length : Int)) := of_decide_eq_false h6
                rw [w2, w8] at h6
                have h6 : ¬ a + s.i < 8 * b.length := by omega
                obtain ⟨s', g1, g2⟩ := fn_no s h4 (.inr h6)
                have ech : decide (c % 2 ^ (min s.i (8 * b.length - a)) ≠ 0) = decide (c % 2 ^ (min s'.i (8 * b.length - a)) ≠ 0) := by
                  rw [g1, show min (s.i + 1) (8 * b.length - a) = min s.i (8 * b.length - a) by omega]
                have g3 : IntKind.u32.wrap (((c / 2 ^ s.i : Nat) : Int).tdiv 2) = ((c / 2 ^ s'.i : Nat) : Int) := by rw [g1]; exact t2
                have g4 : IntKind.i64.wrap ((s.i : Int) + 1) = (s'.i : Int) := by rw [g1]; exact w1
                have g5 : 32 - s'.i < 32 - s.i := by rw [g1]; exact hlt
                conv => cbv
                refine ⟨⟨n2⟩, ⟨s', g5, ?_⟩⟩
                conv => cbv
                exact ⟨⟨rfl⟩, ⟨rfl⟩, ⟨g3⟩, ⟨rfl⟩, ⟨rfl, rfl⟩, ⟨ech⟩, ⟨g4⟩, ⟨g2.symm⟩⟩
            · have h5 : c.testBit s.i = false := t1.symm.trans h5
              obtain ⟨s', g1, g2⟩ := fn_no s h4 (.inl h5)
              have ech : decide (c % 2 ^ (min s.i (8 * b.length - a)) ≠ 0) = decide (c % 2 ^ (min s'.i (8 * b.length - a)) ≠ 0) := by
                rw [g1]
                by_cases h7 : s.i < 8 * b.length - a
                · rw [show min (s.i + 1) (8 * b.length - a) = s.i + 1 by omega, show min s.i (8 * b.length - a) = s.i by omega, decide_eq_decide, Ne, Ne, hmn, h5]
                  simp
                · rw [show min (s.i + 1) (8 * b.length - a) = min s.i (8 * b.length - a) by omega]
              have g3 : IntKind.u32.wrap (((c / 2 ^ s.i : Nat) : Int).tdiv 2) = ((c / 2 ^ s'.i : Nat) : Int) := by rw [g1]; exact t2
              have g4 : IntKind.i64.wrap ((s.i : Int) + 1) = (s'.i : Int) := by rw [g1]; exact w1
              have g5 : 32 - s'.i < 32 - s.i := by rw [g1]; exact hlt
              conv => cbv
              refine .no ?_
              conv => cbv
              refine ⟨⟨n2⟩, ⟨s', g5, ?_⟩⟩
              conv => cbv
              exact ⟨⟨rfl⟩, ⟨rfl⟩, ⟨g3⟩, ⟨rfl⟩, ⟨rfl, rfl⟩, ⟨ech⟩, ⟨g4⟩, ⟨g2.symm⟩⟩
          · have h4 : ¬ (s.i : Int) < 32 := of_decide_eq_false h4
            have h32 : s.i = 32 := by omega
            have hfin := crc_finds (c := c) (a := a) (bn_lt s.ho) (bn_lt hb) (by simpa using s.hl) (by rw [bn_len]; omega) (fun p hp => by
              have := s.h p (by simpa using hp)
              rw [h32] at this
              exact this)
            rw [bn_len] at hfin
            have e1 : s.o.take b.length = s.o := List.take_of_length_le (by omega)
            have e2 : ((((crcs 0 (bn s.o)).toNat : Int) != ((crcs 0 (bn b)).toNat : Int)) == decide (c % 2 ^ (min s.i (8 * b.length - a)) ≠ 0)) = true := by
              rw [h32, beq_iff_eq]
              by_cases hz : c % 2 ^ (min 32 (8 * b.length - a)) = 0
              · rw [hfin.2 hz]
                simp [hz]
              · have hne : crcs 0 (bn s.o) ≠ crcs 0 (bn b) := fun hh => hz (hfin.1 hh)
                have : ((crcs 0 (bn s.o)).toNat : Int) ≠ ((crcs 0 (bn b)).toNat : Int) := fun hh => hne (BitVec.eq_of_toNat_eq (by omega))
                rw [bne_iff_ne.2 this]
                simp [hz]
            conv => cbv
            refine ⟨⟨by simp; omega⟩, ⟨by simp⟩, ⟨?_⟩, ⟨by simp⟩, ⟨?_⟩, .ofT ?_ ?_⟩
            · simp; omega
            · simp; omega
            · simp only [chunk11, List.drop_zero, List.take_succ_cons, List.take_zero, fl_one, e1]
              exact e2
            · conv => cbv
              exact ⟨rfl⟩
end Go.Am
/- alibilaw02.joined keeps its contract. -/
namespace Go.Am
set_option linter.all false
set_option linter.deprecated false
open Go.Proofs
set_option maxRecDepth 100000
set_option maxHeartbeats 4000000
def jgo : List (List D) → Nat → List (List D) → Option (List (List D))
  | [], _, out => some out
  | _ :: _, 0, out => some out
  | r :: rs, k + 1, out => if 400 < (lk r 0).toList.length ∨ 400 < out.length then none else jgo rs k (out ++ (lk r 0).toList)
def joinedS (xs : List (List D)) : List (List D) × Bool :=
  match jgo xs 21 [] with
  | none => ([], false)
  | some out => (out, decide (xs.length ≤ 20) && decide (out.length ≤ 400))
theorem jgo_full : ∀ (xs : List (List D)) (k : Nat) (out o : List (List D)), xs.length ≤ k → jgo xs k out = some o → o = out ++ fl xs
  | [], _, out, o, _, h => by simp only [jgo, Option.some.injEq] at h; simp [fl, h]
  | r :: rs, 0, _, _, h, _ => by simp at h
  | r :: rs, k + 1, out, o, h, hj => by
    simp only [jgo] at hj
    split at hj
    · cases hj
    · have := jgo_full rs k _ o (by simpa using h) hj
      rw [this, List.append_assoc]
      rfl
theorem joinedS_ok {xs : List (List D)} (h : (joinedS xs).2 = true) : (joinedS xs).1 = fl xs ∧ (fl xs).length ≤ 400 ∧ xs.length ≤ 20 := by
  unfold joinedS at h ⊢
  cases hj : jgo xs 21 [] with
  | none => rw [hj] at h; cases h
  | some out =>
    rw [hj] at h
    simp only [Bool.and_eq_true, decide_eq_true_eq] at h ⊢
    have := jgo_full xs 21 [] out (by omega) hj
    rw [List.nil_append] at this
    exact ⟨this, this ▸ h.2, h.1⟩
def joinedC : Contract := { modes := [.ro], fn := fun args M => match args, M with
  | [.sl _ [.slice [.int .u8]] xs], [] => some ⟨[], .tup [.ms 0 (fun _ => 0) (fun _ => (joinedS (xs ())).1.length), .bool fun _ => (joinedS (xs ())).2], [(0, some (.row false U8 fun _ => (joinedS (xs ())).1))]⟩
  | _, _ => none }
structure JnI (x : List (List D)) where
  i : Nat
  hi : i ≤ x.length
  hk : i ≤ 21
  h : jgo x 21 [] = jgo (x.drop i) (21 - i) (fl (x.take i))
  hl : (fl (x.take i)).length ≤ 800
theorem joined_ok : CSound Try.prog 40 joinedC := by
  refine fsound' (G := G0) (c := codeOf Try.f40) mixed tyT (gget_nil _) Try.func40 (by rfl) (by kernel_rfl) (by kernel_rfl) fun args M r hr hvc hw hm => ?_
  unfold joinedC at hr
  simp only at hr
  split at hr <;> cases hr
  rename_i nn xs
  clear hvc hm
  have hx : xs = fun _ => xs () := rfl
  generalize xs () = x at hx
  subst hx
  simp only [WfVs, WfV, and_true] at hw
  have hx := hw.1
  conv => cbv
  refine LoopP.mk (JnI x) (fun s => ⟨ev 42 [(0, .sl false [.slice U8] fun _ => x), (2, .nils), (3, .bool fun _ => false), (4, .ms 0 (fun _ => 0) (fun _ => (fl (x.take s.i)).length)), (5, .int .i64 fun _ => (s.i : Int))], [(0, .row false U8 fun _ => fl (x.take s.i))], 8⟩) (fun s => 21 - s.i) ⟨0, Nat.zero_le _, Nat.zero_le _, by simp [fl], by simp [fl]⟩ ?_ ?_
  · conv => cbv
    exact ⟨⟨rfl⟩, ⟨rfl⟩, ⟨rfl, rfl⟩, ⟨rfl⟩, ⟨rfl⟩⟩
  · intro ⟨i, hi, hk, h, hl⟩
    have fin : ¬ (i < x.length ∧ i < 21) → joinedS x = (fl (x.take i), decide (x.length ≤ 20) && decide ((fl (x.take i)).length ≤ 400)) := fun hn => by
      have : jgo x 21 [] = some (fl (x.take i)) := by
        rw [h]
        by_cases h1 : i < x.length
        · have h2 : 21 - i = 0 := by omega
          rw [h2, List.drop_eq_getElem_cons h1]
          rfl
        · rw [List.drop_of_length_le (by omega)]
          rfl
      unfold joinedS
      rw [this]
    conv => cbv
    refine Split.mk (fun h1 => ?_) (fun h1 => ?_)
    · have h1 : (i : Int) < (x.length : Int) := of_decide_eq_true h1
      have h1 : i < x.length := by omega
      conv => cbv
      refine Split.mk (fun h2 => ?_) (fun h2 => ?_)
      · have h2 : (i : Int) < 21 := of_decide_eq_true h2
        have h2 : i < 21 := by omega
        have v1 : 0 ≤ (i : Int) ∧ (i : Int) < (x.length : Int) := by omega
        have hd : x.drop i = x[i] :: x.drop (i + 1) := List.drop_eq_getElem_cons h1
        have he : lk x i = x[i] := by simp [lk, List.getD, h1]
        have hft := fl_take h1
        rw [hd, show 21 - i = (21 - (i + 1)) + 1 by omega, jgo, ← he] at h
        obtain ⟨r, hr⟩ : ∃ r, r = (lk (lk x i) 0).toList := ⟨_, rfl⟩
        rw [← hr] at h hft
        have hr' : (lk (lk x ((i : Int)).toNat) 0).toList = r := by rw [Int.toNat_natCast, hr]
        have bad : (400 < r.length ∨ 400 < (fl (x.take i)).length) → joinedS x = ([], false) := fun hh => by
          unfold joinedS
          rw [h, if_pos hh]
        conv => cbv
        refine ⟨⟨v1⟩, Split.mk (fun h3 => ?_) (fun h3 => ?_)⟩
        · have h3 : (400 : Int) < (((lk (lk x ((i : Int)).toNat) 0).toList).length : Int) := of_decide_eq_true h3
          rw [hr'] at h3
          have e := bad (.inl (by omega))
          conv => cbv
          refine .yes ?_
          conv => cbv
          simp [Hold.iff, e]
        · have h3 : ¬ (400 : Int) < (((lk (lk x ((i : Int)).toNat) 0).toList).length : Int) := of_decide_eq_false h3
          rw [hr'] at h3
          conv => cbv
          refine Split.mk (fun h4 => ?_) (fun h4 => ?_)
          · have h4 : (400 : Int) < ((fl (x.take i)).length : Int) := of_decide_eq_true h4
            have e := bad (.inr (by omega))
            conv => cbv
            simp [Hold.iff, e]
          · have h4 : ¬ (400 : Int) < ((fl (x.take i)).length : Int) := of_decide_eq_false h4
            rw [if_neg (by omega), ← hft] at h
            have hw1 : IntKind.i64.wrap ((i : Int) + 1) = ((i + 1 : Nat) : Int) := by rw [wrap_i64 (by omega)]; omega
            have hlt : 21 - (i + 1) < 21 - i := by omega
            have hi1 : i + 1 ≤ x.length := by omega
            have hi2 : i + 1 ≤ 21 := by omega
            have hi3 : (fl (x.take (i + 1))).length ≤ 800 := by rw [hft, List.length_append]; omega
            have v2 : (fl (x.take i)).length + (lk (lk x ((i : Int)).toNat) 0).toList.length ≤ big := by rw [hr']; simp only [big]; omega
            have g1 : (fl (x.take i)).length + (lk (lk x ((i : Int)).toNat) 0).toList.length = (fl (x.take (i + 1))).length := by rw [hr', hft, List.length_append]
            have g2 : (fl (x.take i)).take (fl (x.take i)).length ++ (lk (lk x ((i : Int)).toNat) 0).toList = fl (x.take (i + 1)) := by rw [hr', hft, List.take_length]
            conv => cbv
            refine ⟨⟨v1⟩, ⟨rfl⟩, ⟨Nat.le_refl _⟩, ⟨v2⟩, ⟨i + 1, hi1, hi2, h, hi3⟩, hlt, ?_⟩
            conv => cbv
            exact ⟨⟨rfl⟩, ⟨rfl⟩, ⟨rfl, g1⟩, ⟨hw1⟩, ⟨g2⟩⟩
      · have h2 : ¬ (i : Int) < 21 := of_decide_eq_false h2
        have e := fin (by omega)
        conv => cbv
        refine Split.mk (fun h3 => ?_) (fun h3 => ?_)
        · have h3 : (x.length : Int) ≤ 20 := of_decide_eq_true h3
          exfalso; omega
        · have h3 : ¬ (x.length : Int) ≤ 20 := of_decide_eq_false h3
          have hd : decide (x.length ≤ 20) = false := by rw [decide_eq_false_iff_not]; omega
          conv => cbv
          simp [Hold.iff, e, hd]
    · have h1 : ¬ (i : Int) < (x.length : Int) := of_decide_eq_false h1
      have e := fin (by omega)
      conv => cbv
      refine .no ?_
      conv => cbv
      refine Split.mk (fun h3 => ?_) (fun h3 => ?_)
      · have h3 : (x.length : Int) ≤ 20 := of_decide_eq_true h3
        have hd : decide (x.length ≤ 20) = true := by rw [decide_eq_true_iff]; omega
        conv => cbv
        simp [Hold.iff, e, hd]
        exact ⟨fun h => Int.ofNat_le.1 h, fun h => Int.ofNat_le.2 h⟩
      · have h3 : ¬ (x.length : Int) ≤ 20 := of_decide_eq_false h3
        have hd : decide (x.length ≤ 20) = false := by rw [decide_eq_false_iff_not]; omega
        conv => cbv
        simp [Hold.iff, e, hd]
end Go.Am
/- alibilaw02.CrcTells keeps its contract: it returns true. -/
namespace Go.Am
set_option linter.all false
set_option linter.deprecated false
open Go.Proofs
set_option maxRecDepth 100000
set_option maxHeartbeats 4000000
def tellsC : Contract := { modes := [], fn := fun args M => match args, M with
  | [.sl _ [.slice [.int .u8]] _], [] => some ⟨[], .bool (fun _ => true), []⟩
  | _, _ => none }
def Lt1 : List (Nat × Contract) := [(40, joinedC), (27, trueC), (30, rsumC), (41, copyC), (42, valueC), (43, lenC), (44, addC), (31, cputC), (22, sameC), (29, stC), (25, spoilC), (33, sumC)]
def Gt1 : Ctx := fun f => gget Lt1 f
theorem Gt1_ok : ∀ f C, Gt1 f = some C → CSound Try.prog f C := gget_cons joined_ok (gget_cons works2_ok (gget_cons rsum_ok (gget_cons rcopy_ok (gget_cons value_ok (gget_cons len_ok (gget_cons add_ok (gget_cons cput_ok (gget_cons same_ok (gget_cons rstands_ok (gget_cons spoil_ok (gget_cons sum_ok (gget_nil _))))))))))))
theorem tells_ok : CSound Try.prog 9 tellsC := by
  refine fsound' (G := Gt1) (c := codeOf Try.f9) mixed tyT Gt1_ok Try.func9 (by rfl) (by kernel_rfl) (by kernel_rfl) fun args M r hr hvc hw hm => ?_
  unfold tellsC at hr
  simp only at hr
  split at hr <;> cases hr
  rename_i nn xs
  clear hvc hm
  have hx : xs = fun _ => xs () := rfl
  generalize xs () = x at hx
  subst hx
  simp only [WfVs, WfV, and_true] at hw
  conv => cbv
  refine Split.mk (fun h => ?_) (fun h => ?_)
  · conv => cbv
    exact ⟨rfl⟩
  · have h : (joinedS x).2 = true := by simpa using h
    obtain ⟨e1, e2, e3⟩ := joinedS_ok h
    have e : joinedS x = (fl x, true) := Prod.ext e1 h
    obtain ⟨F, hF⟩ : ∃ F, F = fl x := ⟨_, rfl⟩
    rw [← hF] at e e1 e2
    have v1 : 8 * F.length + 32 ≤ big := by simp only [big]; omega
    have v2 : F.length + 4 ≤ big := by simp only [big]; omega
    conv => cbv
    refine ⟨⟨by simp [e]⟩, ⟨by simp [e]; exact v1⟩, LoopP.mk {i : Nat // i ≤ x.length} (fun i => ⟨ev 155 [(0, .sl false [.slice U8] fun _ => x), (2, .bool fun _ => false), (3, .ms 0 (fun _ => 0) (fun _ => F.length)), (5, .int .u32 fun _ => ((crcs 0 (bn F)).toNat : Int)), (6, .mp 1 0), (7, .nilp), (8, .int .i64 fun _ => (i.1 : Int))],
      [(0, .row false U8 fun _ => F), (1, .obj [.int .u32 fun _ => ((crcs 0 (bn (fl (x.take i.1)))).toNat : Int), .int .i64 fun _ => ((fl (x.take i.1)).length : Int)])], 8⟩) (fun i => x.length - i.1) ⟨0, Nat.zero_le _⟩ ?_ ?_⟩
    · conv => cbv
      simp [Hold.iff, e, crcs, bn, fl]
    · intro ⟨i, hi⟩
      conv => cbv
      refine Split.mk (fun h1 => ?_) (fun h1 => ?_)
      · have h1 : (i : Int) < (x.length : Int) := of_decide_eq_true h1
        have h1 : i < x.length := by omega
        have v3 : 0 ≤ (i : Int) ∧ (i : Int) < (x.length : Int) := by omega
        have hw1 : IntKind.i64.wrap ((i : Int) + 1) = ((i + 1 : Nat) : Int) := by rw [wrap_i64 (by omega)]; omega
        have hlt : i + 1 ≤ x.length ∧ x.length - (i + 1) < x.length - i := by omega
        have h3 := fl_len_take h1
        have h4 := fl_take h1
        rw [← hF] at h3
        have v4 : 0 ≤ ((fl (x.take i)).length : Int) ∧ ((fl (x.take i)).length : Int) + (((lk (lk x ((i : Int)).toNat) 0).toList).length : Int) < 9223372036854775808 := by rw [Int.toNat_natCast]; omega
        have w4 : IntKind.i64.wrap (((fl (x.take i)).length : Int) + (((lk (lk x i) 0).toList).length : Int)) = ((fl (x.take i)).length : Int) + (((lk (lk x i) 0).toList).length : Int) := by rw [wrap_i64 (by omega)]
        conv => cbv
        refine ⟨⟨v3⟩, ⟨v4⟩, ⟨v3⟩, ?_⟩
        repeat (first | (refine .ofF ?_ ?_; (focus (simp [w4]; done)); conv => cbv) | (refine .ofT ?_ ?_; (focus (simp [w4]; done)); conv => cbv) | (refine ⟨⟨?_⟩, ?_⟩; (focus (first | exact v3 | (simp [w4]; done)))))
        have hs1 : (((crcs (BitVec.ofNat 32 (((crcs 0 (bn (fl (x.take i)))).toNat : Int)).toNat) (bn (lk (lk x ((i : Int)).toNat) 0).toList)).toNat : Nat) : Int) = (((crcs 0 (bn (fl (x.take (i + 1))))).toNat : Nat) : Int) := by
          rw [h4, bn_append, crcs_append, ofNat_toNat32, Int.toNat_natCast]
        have hs2 : ((fl (x.take i)).length : Int) + (((lk (lk x ((i : Int)).toNat) 0).toList).length : Int) = ((fl (x.take (i + 1))).length : Int) := by
          rw [h4, Int.toNat_natCast]; simp
        refine ⟨⟨i + 1, hlt.1⟩, hlt.2, ?_⟩
        conv => cbv
        exact ⟨⟨rfl⟩, ⟨rfl⟩, ⟨rfl, rfl⟩, ⟨rfl⟩, ⟨hw1⟩, ⟨rfl⟩, ⟨hs1⟩, ⟨hs2⟩⟩
      · have h1 : ¬ (i : Int) < (x.length : Int) := of_decide_eq_false h1
        have hi2 : i = x.length := by omega
        have e4 : fl (x.take i) = F := by rw [List.take_of_length_le (by omega), hF]
        have hF' := hF.symm
        have w5 : IntKind.i64.wrap ((F.length : Int) + 4) = (F.length : Int) + 4 := wrap_i64 (by omega)
        conv => cbv
        refine LoopP.mk Nat (fun t => ⟨ev 155 [(0, .sl false [.slice U8] fun _ => x), (2, .bool fun _ => false), (3, .ms 0 (fun _ => 0) (fun _ => F.length)), (5, .int .u32 fun _ => ((crcs 0 (bn F)).toNat : Int)), (6, .mp 1 0), (7, .nilp), (12, .int .i64 fun _ => (t : Int))],
          [(0, .row false U8 fun _ => F), (1, .obj [.int .u32 fun _ => ((crcs 0 (bn F)).toNat : Int), .int .i64 fun _ => (F.length : Int)])], 8⟩) (fun t => 2 - t) 0 ?_ ?_
        · conv => cbv
          simp [Hold.iff, e4]
        · intro t
          conv => cbv
          refine Split.mk (fun h5 => ?_) (fun h5 => ?_)
          · have h5 : (t : Int) < 2 := of_decide_eq_true h5
            have hw1 : IntKind.i64.wrap ((t : Int) + 1) = ((t + 1 : Nat) : Int) := by rw [wrap_i64 (by omega)]; omega
            have hlt : 2 - (t + 1) < 2 - t := by omega
            have w6 : ((F.length : Int) + 4).toNat = F.length + 4 := by omega
            have w7 : F.length + 4 - F.length = 4 := by omega
            have v6 : (0 : Int) ≤ 0 ∧ (0 : Int) ≤ (F.length : Int) ∧ (F.length : Int) ≤ (F.length : Int) ∧ (F.length : Int) ≤ (((fl x).length + 4 : Nat) : Int) := by rw [hF']; omega
            have v7 : (0 : Int) ≤ (F.length : Int) ∧ (F.length : Int) ≤ (((fl x).length + 4 : Nat) : Int) ∧ (((fl x).length + 4 : Nat) : Int) ≤ (((fl x).length + 4 : Nat) : Int) ∧ (((fl x).length + 4 : Nat) : Int) ≤ (((fl x).length + 4 : Nat) : Int) := by rw [hF']; omega
            conv => cbv
            repeat (first | (refine .ofF ?_ ?_; (focus (simp [hF', w5, w6, w7, crcB]; done)); conv => cbv) | (refine .ofT ?_ ?_; (focus (simp [hF', w5, w6, w7, crcB]; done)); conv => cbv) | (refine ⟨⟨?_⟩, ?_⟩; (focus (first | exact v6 | exact v7 | (simp [hF', w5, w6, w7, v2, crcB, st4]; done)))))
            refine ⟨t + 1, hlt, ?_⟩
            conv => cbv
            exact ⟨⟨rfl⟩, ⟨rfl⟩, ⟨rfl, rfl⟩, ⟨rfl⟩, ⟨hw1⟩, ⟨rfl⟩, ⟨rfl⟩, ⟨rfl⟩⟩
          · have h5 : ¬ (t : Int) < 2 := of_decide_eq_false h5
            conv => cbv
            repeat (first | (refine .ofF ?_ ?_; (focus (simp [hF', e]; done)); conv => cbv) | (refine .ofT ?_ ?_; (focus (simp [hF', e]; done)); conv => cbv) | (refine ⟨⟨?_⟩, ?_⟩; (focus (first | (simp [hF', e]; done) | (simp [hF']; omega)))))
            exact ⟨rfl⟩
end Go.Am
/- alibilaw02.CrcKnown keeps its contract: it returns true. -/
namespace Go.Am
set_option linter.all false
set_option linter.deprecated false
open Go.Proofs
set_option maxRecDepth 100000
set_option maxHeartbeats 4000000
def tellsC' : Contract := { modes := [.ro], fn := fun args M => match args, M with
  | [.nils], [] => some ⟨[], .bool (fun _ => true), []⟩
  | [.sl _ [.slice [.int .u8]] _], [] => some ⟨[], .bool (fun _ => true), []⟩
  | _, _ => none }
theorem tells_ok' : CSound Try.prog 9 tellsC' := by
  have h := tells_ok
  have h2 : CSound Try.prog 9 { tellsC with modes := [.ro] } := ⟨h.det, h.nd⟩
  refine csound_weak h2 fun args M r hr hvc hw => ?_
  unfold tellsC' at hr
  simp only at hr
  split at hr <;> cases hr
  · refine ⟨[.sl false [.slice U8] fun _ => []], _, rfl, by simp, rfl, rfl, fun w I σ vs h => ?_⟩
    simp only [VRs] at h ⊢
    obtain ⟨u, us, rfl, h1, rfl⟩ := h
    exact ⟨u, [], rfl, nils_sl (by decide) h1, rfl⟩
  · exact ⟨_, _, rfl, by simp, rfl, rfl, fun w I σ vs h => h⟩
def opensC' : Contract := { opensC with modes := [.ro] }
def joinsC' : Contract := { joinsC with modes := [.ro, .ro, .ro] }
def findsC' : Contract := { findsC with modes := [.ro, .ro, .ro] }
theorem opens_ok' : CSound Try.prog 5 opensC' := ⟨opens_ok.det, opens_ok.nd⟩
theorem joins_ok' : CSound Try.prog 7 joinsC' := ⟨joins_ok.det, joins_ok.nd⟩
theorem finds_ok' : CSound Try.prog 6 findsC' := ⟨finds_ok.det, finds_ok.nd⟩
def Lk1 : List (Nat × Contract) := [(9, tellsC'), (5, opensC'), (31, cputC), (7, joinsC'), (6, findsC'), (27, trueC)]
def Gk1 : Ctx := fun f => gget Lk1 f
theorem Gk1_ok : ∀ f C, Gk1 f = some C → CSound Try.prog f C := gget_cons tells_ok' (gget_cons opens_ok' (gget_cons cput_ok (gget_cons joins_ok' (gget_cons finds_ok' (gget_cons works2_ok (gget_nil _))))))
theorem known2_ok : CSound Try.prog 10 trueC := by
  refine fsound' (G := Gk1) (c := codeOf Try.f10) mixed tyT Gk1_ok Try.func10 (by rfl) (by kernel_rfl) (by kernel_rfl) fun args M r hr hvc hw hm => ?_
  unfold trueC at hr
  simp only at hr
  split at hr <;> cases hr
  clear hvc hm hw
  conv => cbv
  refine ⟨⟨rfl⟩, ⟨by decide⟩, LoopP.mk {s : Nat × List (List D) // s.2.length = 70} (fun s => ⟨ev 94 [(1, .ms 0 (fun _ => 0) (fun _ => 70)), (2, .int .i64 fun _ => (s.1.1 : Int))], [(0, .row true U8 fun _ => s.1.2)], 8⟩) (fun s => 70 - s.1.1) ⟨(0, List.replicate 70 [D.int 0]), by simp⟩ ?_ ?_⟩
  · conv => cbv
    exact ⟨⟨rfl, rfl⟩, ⟨rfl⟩, ⟨rfl⟩⟩
  · intro ⟨⟨i, xs⟩, hl⟩
    have hl : xs.length = 70 := hl
    conv => cbv
    refine Split.mk (fun h => ?_) (fun h => ?_)
    · have h : (i : Int) < 70 := of_decide_eq_true h
      have v1 : 0 ≤ (i : Int) ∧ (i : Int) < ((70 : Nat) : Int) := by omega
      have v2 : 0 + ((i : Int)).toNat < xs.length := by omega
      have hw1 : IntKind.i64.wrap ((i : Int) + 1) = ((i + 1 : Nat) : Int) := by rw [wrap_i64 (by omega)]; omega
      have hlt : 70 - (i + 1) < 70 - i := by omega
      conv => cbv
      refine ⟨⟨v1⟩, ⟨v2⟩, ⟨⟨(i + 1, xs.set (0 + ((i : Int)).toNat) [D.int (IntKind.u8.wrap (IntKind.i64.wrap (IntKind.i64.wrap ((i : Int) * (i : Int)) * 3)))]), by simpa using hl⟩, hlt, ?_⟩⟩
      conv => cbv
      exact ⟨⟨rfl, rfl⟩, ⟨hw1⟩, ⟨rfl⟩⟩
    · conv => cbv
      refine LoopP.mk Nat (fun s => ⟨ev 94 [(1, .ms 0 (fun _ => 0) (fun _ => 70)), (3, .int .i64 fun _ => (s : Int))], [(0, .imm true U8 fun _ => xs)], 8⟩) (fun s => 70 - s) 0 ?_ ?_
      · conv => cbv
        exact ⟨⟨rfl, rfl⟩, ⟨rfl⟩, ⟨rfl⟩⟩
      · intro n
        conv => cbv
        refine Split.mk (fun h2 => ?_) (fun h2 => ?_)
        · have h2 : (n : Int) < 70 := of_decide_eq_true h2
          have h2' : n < 70 := by omega
          have hw1 : IntKind.i64.wrap ((n : Int) + 1) = ((n + 1 : Nat) : Int) := by rw [wrap_i64 (by omega)]; omega
          have hlt : 70 - (n + 1) < 70 - n := by omega
          have q2 : IntKind.i64.wrap ((n : Int).tdiv 2) = ((n / 2 : Nat) : Int) := by
            have e : ((n : Int).tdiv 2) = ((n / 2 : Nat) : Int) := (Int.ofNat_tdiv n 2).symm
            rw [e, wrap_i64 (by omega)]
          have q3 : IntKind.i64.wrap (1 + (n : Int)) = ((n + 1 : Nat) : Int) := by rw [wrap_i64 (by omega)]; omega
          have q4 : 0 ≤ ((n : Int).tmod 32) := by
            have e : ((n : Int).tmod 32) = ((n % 32 : Nat) : Int) := (Int.ofNat_tmod n 32).symm
            rw [e]; omega
          have fA : (0 : Int) ≤ 0 ∧ (0 : Int) ≤ IntKind.i64.wrap ((n : Int).tdiv 2) ∧ IntKind.i64.wrap ((n : Int).tdiv 2) ≤ IntKind.i64.wrap ((n : Int).tdiv 2) ∧ IntKind.i64.wrap ((n : Int).tdiv 2) ≤ ((70 : Nat) : Int) := by rw [q2]; omega
          have fB : 0 ≤ IntKind.i64.wrap ((n : Int).tdiv 2) ∧ IntKind.i64.wrap ((n : Int).tdiv 2) ≤ (n : Int) ∧ (n : Int) ≤ (n : Int) ∧ (n : Int) ≤ ((70 : Nat) : Int) := by rw [q2]; omega
          have fD : (0 : Int) ≤ 0 ∧ (0 : Int) ≤ (n : Int) ∧ (n : Int) ≤ (n : Int) ∧ (n : Int) ≤ ((70 : Nat) : Int) := by omega
          have fE : 0 ≤ (n : Int) ∧ (n : Int) ≤ ((70 : Nat) : Int) ∧ ((70 : Nat) : Int) ≤ ((70 : Nat) : Int) ∧ ((70 : Nat) : Int) ≤ ((70 : Nat) : Int) := by omega
          have fF : 0 ≤ IntKind.i64.wrap ((n : Int).tdiv 2) ∧ IntKind.i64.wrap ((n : Int).tdiv 2) ≤ ((70 : Nat) : Int) ∧ ((70 : Nat) : Int) ≤ ((70 : Nat) : Int) ∧ ((70 : Nat) : Int) ≤ ((70 : Nat) : Int) := by rw [q2]; omega
          have fG : (0 : Int) ≤ 0 ∧ (0 : Int) ≤ IntKind.i64.wrap (1 + (n : Int)) ∧ IntKind.i64.wrap (1 + (n : Int)) ≤ IntKind.i64.wrap (1 + (n : Int)) ∧ IntKind.i64.wrap (1 + (n : Int)) ≤ ((70 : Nat) : Int) := by rw [q3]; omega
          have q3' : IntKind.i64.wrap (1 + (n : Int)) = (n : Int) + 1 := by rw [q3]; omega
          have q2' : (IntKind.i64.wrap ((n : Int).tdiv 2)).toNat = n / 2 := by rw [q2, Int.toNat_natCast]
          have q3'' : (IntKind.i64.wrap (1 + (n : Int))).toNat = n + 1 := by rw [q3, Int.toNat_natCast]
          have t0 : (0 : Int).toNat = 0 := rfl
          have tn : ((n : Int)).toNat = n := Int.toNat_natCast n
          have t70 : (((70 : Nat) : Int)).toNat = 70 := rfl
          have g1 : 0 + (0 : Int).toNat + ((IntKind.i64.wrap ((n : Int).tdiv 2)).toNat - (0 : Int).toNat) ≤ xs.length := by rw [q2', hl, t0]; omega
          have g2 : 0 + (IntKind.i64.wrap ((n : Int).tdiv 2)).toNat + (((n : Int)).toNat - (IntKind.i64.wrap ((n : Int).tdiv 2)).toNat) ≤ xs.length := by rw [q2', hl, tn]; omega
          have g3 : 0 + (0 : Int).toNat + (((n : Int)).toNat - (0 : Int).toNat) ≤ xs.length := by rw [hl, t0, tn]; omega
          have g4 : 0 + ((n : Int)).toNat + ((((70 : Nat) : Int)).toNat - ((n : Int)).toNat) ≤ xs.length := by rw [hl, t70, tn]; omega
          have g5 : 0 + (IntKind.i64.wrap ((n : Int).tdiv 2)).toNat + ((((70 : Nat) : Int)).toNat - (IntKind.i64.wrap ((n : Int).tdiv 2)).toNat) ≤ xs.length := by rw [q2', hl, t70]; omega
          have g6 : 0 + (0 : Int).toNat + ((IntKind.i64.wrap (1 + (n : Int))).toNat - (0 : Int).toNat) ≤ xs.length := by rw [q3'', hl, t0]; omega
          have g7 : 0 + 70 ≤ xs.length := by omega
          conv => cbv
          repeat (first | (refine .ofF rfl ?_; conv => cbv) | (refine ⟨⟨?_⟩, ?_⟩; (focus (first | exact fA | exact fB | exact fD | exact fE | exact fF | exact fG | exact q4 | exact g1 | exact g2 | exact g3 | exact g4 | exact g5 | exact g6 | exact g7 | (simp [chunk]; done) | (simp [tn, hl, big]; done) | (simp [tn, hl, big]; omega)))))
          refine ⟨n + 1, hlt, ?_⟩
          conv => cbv
          exact ⟨⟨rfl, rfl⟩, ⟨hw1⟩, ⟨rfl⟩⟩
        · conv => cbv
          repeat (first | (refine .ofT rfl ?_; conv => cbv) | (refine ⟨⟨?_⟩, ?_⟩; (focus (first | rfl | (simp [big]; done)))))
          exact ⟨rfl⟩
end Go.Am
