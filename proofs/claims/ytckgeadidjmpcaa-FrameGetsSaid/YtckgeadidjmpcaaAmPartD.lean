/- The document's Get keeps the same contract as varint.Get. -/
import Derived.Test.YtckgeadidjmpcaaAmPartC
namespace Go.Am
set_option linter.all false
set_option linter.deprecated false
open Go.Proofs
set_option maxRecDepth 100000
set_option maxHeartbeats 4000000
def L5 : List (Nat × Contract) := [(23, rputC')]
def G5 : Ctx := fun f => gget L5 f
theorem G5_ok : ∀ f C, G5 f = some C → CSound Try.prog f C := gget_cons rput_ok (gget_nil _)
def gfin (c : List Nat) (a : Int) : Nat × Int × Int :=
  match idx c with
  | none => if c.length = 10 then (0, 0, 10) else (0, 0, 4)
  | some n => if putB (valN (c.take (n + 1))) = c.take (n + 1) then (valN (c.take (n + 1)), a + n + 1, 0) else (0, 0, 10)
theorem getS_in {b : List Nat} {a : Int} (h : ¬ (a < 0 ∨ (b.length : Int) < a)) : getS b a = gfin ((b.drop a.toNat).take 10) a := by
  rw [getS, if_neg h]; rfl
structure RgI (c : List Nat) where
  n : Nat
  hn : n ≤ c.length
  h : ∀ j, j < n → 128 ≤ c.getD j 0
theorem gfin_none {c : List Nat} {a : Int} (h : ∀ j, j < c.length → 128 ≤ c.getD j 0) : gfin c a = if c.length = 10 then (0, 0, 10) else (0, 0, 4) := by
  rw [gfin, idx_none h]
theorem gfin_some {c : List Nat} {a : Int} {n : Nat} (hn : n < c.length) (h : ∀ j, j < n → 128 ≤ c.getD j 0) (hl : c.getD n 0 < 128) :
    gfin c a = if putB (valN (c.take (n + 1))) = c.take (n + 1) then (valN (c.take (n + 1)), a + n + 1, 0) else (0, 0, 10) := by
  rw [gfin, idx_some hn h hl]
structure RcI (p c : List Nat) (n : Nat) where
  i : Nat
  hi : i ≤ n + 1
  h : p.take i = c.take i
theorem mulrem (v b : Nat) (hv : v < 18446744073709551616) (hb : b < 256) :
    IntKind.u64.wrap (IntKind.u64.wrap ((v : Int) * 128) + IntKind.u64.wrap ((b : Int).tmod 128)) = ((v * 128 % 18446744073709551616 + b % 128 : Nat) : Int) := by
  rw [Int.tmod_eq_emod_of_nonneg (by omega)]
  simp only [wrap_u64_mod]
  omega
theorem rget_ok : CSound Try.prog 26 getC := by
  refine fsound' (G := G5) (c := codeOf Try.f26) mixed tyT G5_ok Try.func26 (by rfl) (by kernel_rfl) (by kernel_rfl) fun args M r hr hvc hw hm => ?_
  unfold getC at hr
  simp only at hr
  split at hr <;> cases hr
  rename_i xs a
  obtain ⟨x, rfl⟩ : ∃ x, xs = fun _ => x := ⟨xs (), rfl⟩
  obtain ⟨a, rfl⟩ : ∃ x, a = fun _ => x := ⟨a (), rfl⟩
  clear hvc hm
  simp only [WfVs, WfV, and_true, i64_iff] at hw
  have hx := hw.1.1
  obtain ⟨c, hc⟩ : ∃ c, c = (x.drop a.toNat).take 10 := ⟨_, rfl⟩
  conv => cbv
  refine Split.mk (fun h => ?_) (fun h => ?_)
  · have h : a < 0 := of_decide_eq_true h
    have e : getS (bn x) a = (0, 0, 2) := by rw [getS, if_pos (.inl h)]
    conv => cbv
    refine .yes ?_
    conv => cbv
    simp only [Hold.iff, e]
    decide
  · have h : ¬ a < 0 := of_decide_eq_false h
    conv => cbv
    refine Split.mk (fun h2 => ?_) (fun h2 => ?_)
    · have h2 : (x.length : Int) < a := of_decide_eq_true h2
      have e : getS (bn x) a = (0, 0, 2) := by rw [getS, if_pos (.inr (by simpa using h2))]
      conv => cbv
      simp only [Hold.iff, e]
      decide
    · have h2 : ¬ (x.length : Int) < a := of_decide_eq_false h2
      have hwc : WfR U8 c := by rw [hc]; exact (hw.1.drop _).take _
      have hcl : c.length = min 10 (x.length - a.toNat) := by rw [hc]; simp
      obtain ⟨al, hal⟩ : ∃ al : Nat, a = al := Int.eq_ofNat_of_zero_le (by omega)
      have hcx : ∀ i, i < c.length → (bn x).getD (al + i) 0 = (bn c).getD i 0 := fun i hi => by
        rw [hc, bn_take, bn_drop, hal]
        have : i < 10 := by omega
        simp [List.getD, List.getElem?_take, List.getElem?_drop, this]
      have hS : getS (bn x) a = gfin (bn c) a := by
        rw [getS_in (by simp; omega), hc, bn_take, bn_drop]
      clear hc
      subst hal
      simp only [Int.toNat_natCast] at hcl
      conv => cbv
      refine LoopP.mk (RgI (bn c)) (fun s => ⟨finit 93 [.sl false U8 fun _ => x, .int .i64 fun _ => al, .un, .un, .int .u64 fun _ => 0, .int .i64 fun _ => 0, .int .i64 fun _ => 0, .int .i64 fun _ => s.n], [], 8⟩) (fun s => 10 - s.n) ⟨0, Nat.zero_le _, fun _ h => by omega⟩ ?_ ?_
      · conv => cbv
        exact ⟨⟨rfl⟩, ⟨rfl⟩, ⟨rfl⟩, ⟨rfl⟩, ⟨rfl⟩, ⟨rfl⟩⟩
      · intro ⟨n, hn, he⟩
        rw [bn_len] at hn
        have hw0 : IntKind.i64.wrap ((al : Int) + n) = al + n := wrap_i64 (by omega)
        conv => cbv
        refine Split.mk (fun h3 => ?_) (fun h3 => ?_)
        · have h3 : (n : Int) < 10 := of_decide_eq_true h3
          conv => cbv
          refine Split.mk (fun h4 => ?_) (fun h4 => ?_)
          · have h4 : IntKind.i64.wrap ((al : Int) + n) < x.length := of_decide_eq_true h4
            have hB : 0 ≤ IntKind.i64.wrap ((al : Int) + n) ∧ IntKind.i64.wrap ((al : Int) + n) < x.length := by rw [hw0] at h4 ⊢; omega
            rw [hw0] at h4
            have hv : (lk (lk x (IntKind.i64.wrap ((al : Int) + n)).toNat) 0).toInt = (((bn c).getD n 0 : Nat) : Int) := by
              rw [hw0, show ((al : Int) + n).toNat = al + n by omega, bn_at hw.1 (by omega), hcx n (by omega)]
            have hnc : n < c.length := by omega
            have hnc' : n < (bn c).length := by simpa using hnc
            conv => cbv
            refine ⟨⟨hB⟩, Split.mk (fun h5 => ?_) (fun h5 => ?_)⟩
            · have h5 := of_decide_eq_true h5
              rw [hv] at h5
              have h5 : 128 ≤ (bn c).getD n 0 := Int.ofNat_le.1 h5
              have he' : ∀ j, j < n + 1 → 128 ≤ (bn c).getD j 0 := fun j hj => by
                by_cases hji : j = n
                · subst hji; exact h5
                · exact he j (by omega)
              have hw1 : IntKind.i64.wrap ((n : Int) + 1) = ((n + 1 : Nat) : Int) := by rw [wrap_i64 (by omega)]; omega
              have hlt : 10 - (n + 1) < 10 - n := by omega
              conv => cbv
              refine ⟨⟨n + 1, hnc', he'⟩, hlt, ?_⟩
              conv => cbv
              exact ⟨⟨rfl⟩, ⟨rfl⟩, ⟨rfl⟩, ⟨rfl⟩, ⟨rfl⟩, ⟨hw1⟩⟩
            · have h5 := of_decide_eq_false h5
              rw [hv] at h5
              have h5 : (bn c).getD n 0 < 128 := Nat.lt_of_not_le fun hh => h5 (Int.ofNat_le.2 hh)
              rw [gfin_some hnc' he h5] at hS
              have h6 : ¬ (n : Int) = 10 := by omega
              have h7 : ¬ ((x.length : Int) ≤ IntKind.i64.wrap ((al : Int) + n)) := by rw [hw0]; omega
              conv => cbv
              refine .ofF (beq_eq_false_iff_ne.2 h6) ?_
              conv => cbv
              refine .ofF (decide_eq_false h7) ?_
              conv => cbv
              refine LoopP.mk (GetI (bn c) n) (fun s => ⟨finit 93 [.sl false U8 fun _ => x, .int .i64 fun _ => al, .un, .un, .int .u64 fun _ => 0, .int .i64 fun _ => 0, .int .i64 fun _ => 0, .int .i64 fun _ => n, .int .u64 fun _ => s.v, .int .i64 fun _ => (s.i : Int) - 1], [], 8⟩) (fun s => s.i) ⟨n + 1, 0, Nat.le_refl _, by simp [valN]⟩ ?_ ?_
              · conv => cbv
                refine ⟨⟨rfl⟩, ⟨rfl⟩, ⟨rfl⟩, ⟨rfl⟩, ⟨rfl⟩, ⟨rfl⟩, ⟨rfl⟩, ⟨?_⟩⟩
                show (n : Int) = ((n + 1 : Nat) : Int) - 1
                omega
              · intro ⟨i, v, hi, hv⟩
                have hv64 : v < 18446744073709551616 := by rw [hv]; exact valN_lt _
                conv => cbv
                refine Split.mk (fun h8 => ?_) (fun h8 => ?_)
                · have h8 : (0 : Int) ≤ (i : Int) - 1 := of_decide_eq_true h8
                  obtain ⟨j, rfl⟩ : ∃ j, i = j + 1 := ⟨i - 1, by omega⟩
                  have hjc : j < c.length := by omega
                  have hb256 : (bn c).getD j 0 < 256 := bn_lt hwc _ (by simp [List.getD, hjc])
                  have hwi : IntKind.i64.wrap ((al : Int) + (((j + 1 : Nat) : Int) - 1)) = al + j := by rw [wrap_i64 (by omega)]; omega
                  have hidx : 0 ≤ IntKind.i64.wrap ((al : Int) + (((j + 1 : Nat) : Int) - 1)) ∧ IntKind.i64.wrap ((al : Int) + (((j + 1 : Nat) : Int) - 1)) < (x.length : Int) := by rw [hwi]; omega
                  have hbj : (lk (lk x (IntKind.i64.wrap ((al : Int) + (((j + 1 : Nat) : Int) - 1))).toNat) 0).toInt = (((bn c).getD j 0 : Nat) : Int) := by
                    rw [hwi, show ((al : Int) + j).toNat = al + j by omega, bn_at hw.1 (by omega), hcx j (by omega)]
                  have hval : valN (((bn c).take (n + 1)).drop j) = v * 128 % 18446744073709551616 + (bn c).getD j 0 % 128 := by
                    have hlt : j < ((bn c).take (n + 1)).length := by simp; omega
                    rw [List.drop_eq_getElem_cons hlt, valN, ← hv]
                    simp [List.getD, hjc]
                  have hw1 : IntKind.i64.wrap (((j + 1 : Nat) : Int) - 1 - 1) = (j : Int) - 1 := by rw [wrap_i64 (by omega)]; omega
                  have hstep := mulrem v _ hv64 hb256
                  have hn1 : j ≤ n + 1 := by omega
                  have hlt : j < j + 1 := by omega
                  have h9 : (128 : Int) ≠ 0 := by decide
                  conv => cbv
                  refine ⟨⟨hidx⟩, ⟨h9⟩, ⟨j, _, hn1, hval.symm⟩, hlt, ?_⟩
                  conv => cbv
                  refine ⟨⟨rfl⟩, ⟨rfl⟩, ⟨rfl⟩, ⟨rfl⟩, ⟨rfl⟩, ⟨rfl⟩, ⟨?_⟩, ⟨hw1⟩⟩
                  simp only [hbj]
                  exact hstep
                · have h8 : ¬ (0 : Int) ≤ (i : Int) - 1 := of_decide_eq_false h8
                  obtain rfl : i = 0 := by omega
                  have hv0 : v = valN ((bn c).take (n + 1)) := by simpa using hv
                  rw [← hv0] at hS
                  have hw1 : IntKind.i64.wrap ((n : Int) + 1) = n + 1 := wrap_i64 (by omega)
                  conv => cbv
                  refine Split.mk (fun h10 => ?_) (fun h10 => ?_)
                  · have h10 : ((putB v).length : Int) ≠ IntKind.i64.wrap ((n : Int) + 1) := ne_t h10
                    have hne : putB v ≠ (bn c).take (n + 1) := fun e => h10 (by rw [hw1, e]; simp; omega)
                    rw [if_neg hne] at hS
                    conv => cbv
                    simp only [Hold.iff, hS]
                    decide
                  · have h10 : ((putB v).length : Int) = IntKind.i64.wrap ((n : Int) + 1) := ne_f h10
                    have h10 : (putB v).length = n + 1 := by rw [hw1] at h10; omega
                    conv => cbv
                    refine LoopP.mk (RcI (putB v) (bn c) n) (fun s => ⟨finit 93 [.sl false U8 fun _ => x, .int .i64 fun _ => al, .un, .un, .int .u64 fun _ => 0, .int .i64 fun _ => 0, .int .i64 fun _ => 0, .int .i64 fun _ => n, .int .u64 fun _ => v, .un, .ms 0 (fun _ => 0) (fun _ => (putB v).length), .int .i64 fun _ => s.i], [(0, .row false U8 fun _ => rowB (putB v))], 8⟩) (fun s => n + 1 - s.i) ⟨0, Nat.zero_le _, rfl⟩ ?_ ?_
                    · conv => cbv
                      exact ⟨⟨rfl⟩, ⟨rfl⟩, ⟨rfl⟩, ⟨rfl⟩, ⟨rfl⟩, ⟨rfl⟩, ⟨rfl⟩, ⟨rfl, rfl⟩, ⟨rfl⟩, ⟨rfl⟩⟩
                    · intro ⟨i, hi, hpc⟩
                      conv => cbv
                      refine Split.mk (fun h11 => ?_) (fun h11 => ?_)
                      · have h11 : (i : Int) ≤ n := of_decide_eq_true h11
                        have h11 : i ≤ n := by omega
                        have hwi : IntKind.i64.wrap ((al : Int) + i) = al + i := wrap_i64 (by omega)
                        have hB1 : (0 : Int) ≤ (i : Int) ∧ (i : Int) < ((putB v).length : Int) := by omega
                        have hB2 : 0 + ((i : Int)).toNat < (rowB (putB v)).length := by simp; omega
                        have hB3 : 0 ≤ IntKind.i64.wrap ((al : Int) + i) ∧ IntKind.i64.wrap ((al : Int) + i) < (x.length : Int) := by rw [hwi]; omega
                        have hv1 : (lk (lk x (IntKind.i64.wrap ((al : Int) + i)).toNat) 0).toInt = (((bn c).getD i 0 : Nat) : Int) := by
                          rw [hwi, show ((al : Int) + i).toNat = al + i by omega, bn_at hw.1 (by omega), hcx i (by omega)]
                        have hv2 : (lk (lk (rowB (putB v)) (0 + ((i : Int)).toNat)) 0).toInt = (((putB v).getD i 0 : Nat) : Int) := by
                          have e1 : i < (putB v).length := by omega
                          simp [rowB, lk, List.getD, e1, D.toInt]
                        conv => cbv
                        refine ⟨⟨hB1⟩, ⟨hB2⟩, ⟨hB3⟩, Split.mk (fun h12 => ?_) (fun h12 => ?_)⟩
                        · have h12 := ne_t h12
                          rw [hv1, hv2] at h12
                          have hne : putB v ≠ (bn c).take (n + 1) := fun e => h12 (by
                            have : i < n + 1 := by omega
                            rw [e]; simp [List.getD, List.getElem?_take, this])
                          rw [if_neg hne] at hS
                          conv => cbv
                          simp only [Hold.iff, hS]
                          decide
                        · have h12 := ne_f h12
                          rw [hv1, hv2] at h12
                          have h12 : (putB v).getD i 0 = (bn c).getD i 0 := Int.ofNat_inj.1 h12
                          have hn2 := take_next (by omega) (show i < (bn c).length by simp; omega) hpc h12
                          have hi2 : i + 1 ≤ n + 1 := by omega
                          have hlt : n + 1 - (i + 1) < n + 1 - i := by omega
                          have hw2 : IntKind.i64.wrap ((i : Int) + 1) = ((i + 1 : Nat) : Int) := by rw [wrap_i64 (by omega)]; omega
                          conv => cbv
                          refine ⟨⟨i + 1, hi2, hn2⟩, hlt, ?_⟩
                          conv => cbv
                          exact ⟨⟨rfl⟩, ⟨rfl⟩, ⟨rfl⟩, ⟨rfl⟩, ⟨rfl⟩, ⟨rfl⟩, ⟨rfl⟩, ⟨rfl, rfl⟩, ⟨hw2⟩, ⟨rfl⟩⟩
                      · have h11 : ¬ (i : Int) ≤ n := of_decide_eq_false h11
                        obtain rfl : i = n + 1 := by omega
                        have heq : putB v = (bn c).take (n + 1) := by rw [← hpc, List.take_of_length_le (by omega)]
                        rw [if_pos heq] at hS
                        have hs1 : IntKind.i64.wrap (IntKind.i64.wrap ((al : Int) + n) + 1) = al + n + 1 := by rw [wrap_i64 (n := (al : Int) + n) (by omega), wrap_i64 (by omega)]
                        conv => cbv
                        simp only [Hold.iff, hS]
                        exact ⟨trivial, hs1, trivial⟩
          · have h4 : ¬ IntKind.i64.wrap ((al : Int) + n) < x.length := of_decide_eq_false h4
            rw [hw0] at h4
            have hnc : c.length = n := by omega
            rw [gfin_none (fun j hj => he j (by simp at hj; omega)), bn_len, if_neg (by omega)] at hS
            have h6 : ¬ (n : Int) = 10 := by omega
            have h7 : ((x.length : Int) ≤ IntKind.i64.wrap ((al : Int) + n)) := by rw [hw0]; omega
            conv => cbv
            refine .no ?_
            conv => cbv
            refine .ofF (beq_eq_false_iff_ne.2 h6) ?_
            conv => cbv
            refine .ofT (decide_eq_true h7) ?_
            conv => cbv
            simp only [Hold.iff, hS]
            decide
        · have h3 : ¬ (n : Int) < 10 := of_decide_eq_false h3
          have h6 : (n : Int) = 10 := by omega
          rw [gfin_none (fun j hj => he j (by simp at hj; omega)), bn_len, if_pos (by omega)] at hS
          conv => cbv
          refine .no ?_
          conv => cbv
          refine .no ?_
          conv => cbv
          refine .ofT (beq_iff_eq.2 h6) ?_
          conv => cbv
          simp only [Hold.iff, hS]
          decide
end Go.Am
/- alibilaw01.VarintGets keeps its contract: it returns true. -/
namespace Go.Am
set_option linter.all false
set_option linter.deprecated false
open Go.Proofs
set_option maxRecDepth 100000
set_option maxHeartbeats 4000000
def getsC : Contract := { modes := [], fn := fun args M => match args, M with
  | [.int .u64 _, .sl _ [.int .u8] _, .int .i64 _], [] => some ⟨[], .bool (fun _ => true), []⟩
  | _, _ => none }
def L6 : List (Nat × Contract) := [(18, trueC), (19, putC), (20, ownC), (21, getC), (22, sameC), (23, rputC'), (24, sizeC), (25, spoilC), (26, getC)]
def G6 : Ctx := fun f => gget L6 f
theorem G6_ok : ∀ f C, G6 f = some C → CSound Try.prog f C := gget_cons works_ok (gget_cons put_ok (gget_cons own_ok (gget_cons get_ok (gget_cons same_ok (gget_cons rput_ok (gget_cons size_ok (gget_cons spoil_ok (gget_cons rget_ok (gget_nil _)))))))))
theorem gets_ok : CSound Try.prog 4 getsC := by
  refine fsound' (G := G6) (c := codeOf Try.f4) mixed tyT G6_ok Try.func4 (by rfl) (by kernel_rfl) (by kernel_rfl) fun args M r hr hvc hw hm => ?_
  unfold getsC at hr
  simp only at hr
  split at hr <;> cases hr
  rename_i v nn b a
  obtain ⟨b, rfl⟩ : ∃ x, b = fun _ => x := ⟨b (), rfl⟩
  obtain ⟨v, rfl⟩ : ∃ x, v = fun _ => x := ⟨v (), rfl⟩
  obtain ⟨a, rfl⟩ : ∃ x, a = fun _ => x := ⟨a (), rfl⟩
  clear hvc hm
  simp only [WfVs, WfV, and_true, u64_iff] at hw
  obtain ⟨hv, hb, ha⟩ := hw
  obtain ⟨v, rfl⟩ := Int.eq_ofNat_of_zero_le hv.1
  have lv := put1_len 9 v
  rw [← putB] at lv
  have hT : List.take b.length (List.drop 0 b) = b := by simp
  have hP : List.take (putB v).length (List.drop 0 (rowB (putB v))) = rowB (putB v) := by simp
  conv => cbv
  refine Split.mk (fun h => ?_) (fun h => ?_)
  · conv => cbv
    exact ⟨rfl⟩
  · have h : ¬ (200 : Int) < b.length := of_decide_eq_false h
    have h1 : b.length ≤ big := by simp only [big]; omega
    conv => cbv
    refine ⟨⟨h1⟩, LoopP.mk Nat (fun s => ⟨finit 79 [.int .u64 fun _ => v, .sl false U8 fun _ => b, .int .i64 fun _ => a, .un, .un, .un, .bool fun _ => false, .ms 0 (fun _ => 0) (fun _ => b.length), .ms 1 (fun _ => 0) (fun _ => (putB v).length), .int .i64 fun _ => (s : Int)], [(0, .row false U8 fun _ => b), (1, .row false U8 fun _ => rowB (putB v))], 8⟩) (fun s => 2 - s) 0 ?_ ?_⟩
    · conv => cbv
      exact ⟨⟨rfl⟩, ⟨rfl⟩, ⟨rfl⟩, ⟨rfl⟩, ⟨rfl, rfl⟩, ⟨rfl, rfl⟩, ⟨rfl⟩, ⟨rfl⟩, ⟨rfl⟩⟩
    · intro n
      conv => cbv
      refine Split.mk (fun h => ?_) (fun h => ?_)
      · have h : (n : Int) < 2 := of_decide_eq_true h
        have hw1 : IntKind.i64.wrap ((n : Int) + 1) = ((n + 1 : Nat) : Int) := by rw [wrap_i64 (by omega)]; omega
        have hlt : 2 - (n + 1) < 2 - n := by omega
        have hB : 0 + (putB v).length ≤ (rowB (putB v)).length := by simp
        conv => cbv
        refine ⟨⟨by simp⟩, ⟨by simp⟩, .ofF (by simp) ?_⟩
        conv => cbv
        refine .ofF (by simp) ?_
        conv => cbv
        refine ⟨⟨by simp⟩, n + 1, hlt, ?_⟩
        conv => cbv
        exact ⟨⟨rfl⟩, ⟨rfl⟩, ⟨rfl⟩, ⟨rfl⟩, ⟨rfl, rfl⟩, ⟨rfl, rfl⟩, ⟨hw1⟩, ⟨rfl⟩, ⟨rfl⟩⟩
      · have h : ¬ (n : Int) < 2 := of_decide_eq_false h
        conv => cbv
        refine ⟨⟨by simp⟩, .ofT (by simp) ?_⟩
        conv => cbv
        refine .ofT (by simp) ?_
        conv => cbv
        refine .ofT (by simp) ?_
        conv => cbv
        refine ⟨⟨by simp⟩, .ofT (by simp) ?_⟩
        conv => cbv
        exact ⟨rfl⟩
end Go.Am
/- crc: the program's functions keep their contracts. -/
namespace Go.Am
set_option linter.all false
set_option linter.deprecated false
open Go.Proofs
set_option maxRecDepth 100000
set_option maxHeartbeats 4000000
def byteC : Contract := { modes := [.mut, .ro], fn := fun args M => match args, M with
  | [.mp 0 0, .int .u8 c], [(0, .obj [.int .u32 s, .int .i64 m])] => some ⟨[], .tup [], [(0, some (.obj [.int .u32 fun _ => ((cbyte (BitVec.ofNat 32 (s ()).toNat) (c ()).toNat).toNat : Int), .int .i64 fun _ => IntKind.i64.wrap (m () + 1)]))]⟩
  | _, _ => none }
structure BI (r : B32) where
  i : Nat
  v : B32
  hi : i ≤ 8
  h : citer (8 - i) v = citer 8 r
theorem byte_ok : CSound Try.prog 82 byteC := by
  refine fsound' (G := G0) (c := codeOf Try.f82) mixed tyT (gget_nil _) Try.func82 (by rfl) (by kernel_rfl) (by kernel_rfl) fun args M r hr hvc hw hm => ?_
  unfold byteC at hr
  simp only at hr
  split at hr <;> cases hr
  rename_i c s m
  obtain ⟨c, rfl⟩ : ∃ x, c = fun _ => x := ⟨c (), rfl⟩
  obtain ⟨s, rfl⟩ : ∃ x, s = fun _ => x := ⟨s (), rfl⟩
  obtain ⟨m, rfl⟩ : ∃ x, m = fun _ => x := ⟨m (), rfl⟩
  have hm := hm ⟨rfl, trivial⟩
  simp only [WfM, WfO, WfVs, WfV, and_true, u8_iff, u32_iff, true_and] at hm hw
  obtain ⟨b, rfl⟩ := b32_of hm.1
  obtain ⟨c, rfl⟩ := Int.eq_ofNat_of_zero_le hw.1
  have hc : c < 256 := by omega
  clear hvc
  have e1 := start32 b c hc
  conv => cbv
  refine LoopP.mk (BI (~~~ b ^^^ BitVec.ofNat 32 c)) (fun x => ⟨finit 35 [.mp 0 0, .un, .un, .un, .int .u32 fun _ => (x.v.toNat : Int), .un, .un, .un, .un, .un, .un, .un, .un, .int .i64 fun _ => (x.i : Int)], [(0, .obj [.int .u32 fun _ => (b.toNat : Int), .int .i64 fun _ => m])], 73⟩) (fun x => 8 - x.i) ⟨0, _, by omega, rfl⟩ ?_ ?_
  · conv => cbv
    exact ⟨⟨e1⟩, ⟨rfl⟩, ⟨rfl⟩, ⟨rfl⟩⟩
  · intro ⟨i, v, hi, h⟩
    conv => cbv
    refine Split.mk (fun h2 => ?_) (fun h2 => ?_)
    · have h2 : (i : Int) < 8 := of_decide_eq_true h2
      have hw1 : IntKind.i64.wrap ((i : Int) + 1) = ((i + 1 : Nat) : Int) := by rw [wrap_i64 (by omega)]; omega
      have h3 : citer (8 - (i + 1)) (csh v) = citer 8 (~~~ b ^^^ BitVec.ofNat 32 c) := by
        rw [← h, show 8 - i = (8 - (i + 1)) + 1 by omega]; rfl
      have h4 : i + 1 ≤ 8 ∧ 8 - (i + 1) < 8 - i := by omega
      have h5 : (0 : Int) ≤ 1 := by decide
      conv => cbv
      refine ⟨⟨h5⟩, ⟨i + 1, csh v, h4.1, h3⟩, h4.2, ?_⟩
      conv => cbv
      exact ⟨⟨step32 v⟩, ⟨hw1⟩, ⟨rfl⟩, ⟨rfl⟩⟩
    · have h2 : ¬ (i : Int) < 8 := of_decide_eq_false h2
      obtain rfl : i = 8 := by omega
      have h : v = citer 8 (~~~ b ^^^ BitVec.ofNat 32 c) := h
      have h3 : cbyte (BitVec.ofNat 32 ((b.toNat : Int)).toNat) ((c : Int)).toNat = ~~~ v := by rw [h, ofNat_toNat32]; rfl
      conv => cbv
      refine ⟨⟨?_⟩, ⟨rfl⟩⟩
      show _ = (((cbyte (BitVec.ofNat 32 ((b.toNat : Int)).toNat) ((c : Int)).toNat).toNat : Nat) : Int)
      rw [h3]
      exact ib_not v
def addC : Contract := { modes := [.mut, .ro], fn := fun args M => match args, M with
  | [.nilp, .sl _ [.int .u8] _], [] => some ⟨[], .tup [], []⟩
  | [.mp 0 0, .sl _ [.int .u8] xs], [(0, .obj [.int .u32 s, .int .i64 m])] => some ⟨[fun _ => 0 ≤ m () ∧ m () + (xs ()).length < 9223372036854775808], .tup [],
      [(0, some (.obj [.int .u32 fun _ => ((crcs (BitVec.ofNat 32 (s ()).toNat) (bn (xs ()))).toNat : Int), .int .i64 fun _ => m () + (xs ()).length]))]⟩
  | _, _ => none }
def Lc1 : List (Nat × Contract) := [(82, byteC)]
def Gc1 : Ctx := fun f => gget Lc1 f
theorem Gc1_ok : ∀ f C, Gc1 f = some C → CSound Try.prog f C := gget_cons byte_ok (gget_nil _)
theorem add_ok : CSound Try.prog 44 addC := by
  refine fsound' (G := Gc1) (c := codeOf Try.f44) mixed tyT Gc1_ok Try.func44 (by rfl) (by kernel_rfl) (by kernel_rfl) fun args M r hr hvc hw hm => ?_
  unfold addC at hr
  simp only at hr
  split at hr <;> cases hr
  · conv => cbv
    refine .yes ?_
    conv => cbv
    trivial
  · rename_i xs s m
    obtain ⟨x, rfl⟩ : ∃ x, xs = fun _ => x := ⟨xs (), rfl⟩
    obtain ⟨s, rfl⟩ : ∃ x, s = fun _ => x := ⟨s (), rfl⟩
    obtain ⟨m, rfl⟩ : ∃ x, m = fun _ => x := ⟨m (), rfl⟩
    have hb : 0 ≤ m ∧ m + x.length < 9223372036854775808 := hvc _ (List.mem_singleton.2 rfl)
    have hm := hm ⟨rfl, trivial⟩
    simp only [WfM, WfO, WfVs, WfV, and_true, u32_iff, true_and] at hm hw
    obtain ⟨b, rfl⟩ := b32_of hm.1
    have hx := hw.1
    clear hvc
    conv => cbv
    refine .no ?_
    conv => cbv
    refine LoopP.mk {i : Nat // i ≤ x.length} (fun i => ⟨finit 20 [.mp 0 0, .un, .un, .un, .un, .un, .un, .un, .sl false U8 fun _ => x, .int .i64 fun _ => x.length, .int .i64 fun _ => (i.1 : Int)], [(0, .obj [.int .u32 fun _ => ((crcs b ((bn x).take i.1)).toNat : Int), .int .i64 fun _ => m + (i.1 : Int)])], 25⟩) (fun i => x.length - i.1) ⟨0, Nat.zero_le _⟩ ?_ ?_
    · have e1 : m = m + ((0 : Nat) : Int) := by omega
      conv => cbv
      exact ⟨⟨rfl⟩, ⟨rfl⟩, ⟨rfl⟩, ⟨rfl⟩, ⟨e1⟩⟩
    · intro ⟨i, hi⟩
      conv => cbv
      refine Split.mk (fun h => ?_) (fun h => ?_)
      · have h : (i : Int) < x.length := of_decide_eq_true h
        have h : i < x.length := by omega
        have hB : 0 ≤ (i : Int) ∧ (i : Int) < (x.length : Int) := by omega
        have hv := bn_at hw h
        have hw1 : IntKind.i64.wrap ((i : Int) + 1) = ((i + 1 : Nat) : Int) := by rw [wrap_i64 (by omega)]; omega
        have hw2 : IntKind.i64.wrap (m + (i : Int) + 1) = m + ((i + 1 : Nat) : Int) := by rw [wrap_i64 (by omega)]; omega
        have hlt : i + 1 ≤ x.length ∧ x.length - (i + 1) < x.length - i := by omega
        have hc := crcs_take (s := b) (b := bn x) (i := i) (by simpa using h)
        have hs : (((cbyte (BitVec.ofNat 32 (((crcs b ((bn x).take i)).toNat : Int)).toNat) ((lk (lk x ((i : Int)).toNat) 0).toInt).toNat).toNat : Nat) : Int) = (((crcs b ((bn x).take (i + 1))).toNat : Nat) : Int) := by
          rw [hc]; simp [hv]
        conv => cbv
        refine ⟨⟨hB⟩, ⟨i + 1, hlt.1⟩, hlt.2, ?_⟩
        conv => cbv
        exact ⟨⟨rfl⟩, ⟨rfl⟩, ⟨hw1⟩, ⟨hs⟩, ⟨hw2⟩⟩
      · have h : ¬ (i : Int) < x.length := of_decide_eq_false h
        obtain rfl : i = x.length := by omega
        have e : (bn x).take x.length = bn x := List.take_of_length_le (by simp)
        conv => cbv
        simp only [Hold.iff, e, ofNat_toNat32]
        exact ⟨trivial, trivial⟩
def valueC : Contract := { modes := [.mut], fn := fun args M => match args, M with
  | [.nilp], [] => some ⟨[], .int .u32 fun _ => 0, []⟩
  | [.mp 0 0], [(0, .obj [.int .u32 s, .int .i64 _])] => some ⟨[], .int .u32 s, []⟩
  | _, _ => none }
theorem value_ok : CSound Try.prog 42 valueC := by
  refine fsound' (G := G0) (c := codeOf Try.f42) mixed tyT (gget_nil _) Try.func42 (by rfl) (by kernel_rfl) (by kernel_rfl) fun args M r hr hvc hw hm => ?_
  unfold valueC at hr
  simp only at hr
  split at hr <;> cases hr
  · conv => cbv
    refine .yes ?_
    conv => cbv
    exact ⟨rfl⟩
  · conv => cbv
    refine .no ?_
    conv => cbv
    exact ⟨⟨rfl⟩, ⟨rfl⟩, ⟨rfl⟩⟩
def lenC : Contract := { modes := [.mut], fn := fun args M => match args, M with
  | [.nilp], [] => some ⟨[], .int .i64 fun _ => 0, []⟩
  | [.mp 0 0], [(0, .obj [.int .u32 _, .int .i64 m])] => some ⟨[], .int .i64 m, []⟩
  | _, _ => none }
theorem lens_ok : CSound Try.prog 81 lenC := by
  refine fsound' (G := G0) (c := codeOf Try.f81) mixed tyT (gget_nil _) Try.func81 (by rfl) (by kernel_rfl) (by kernel_rfl) fun args M r hr hvc hw hm => ?_
  unfold lenC at hr
  simp only at hr
  split at hr <;> cases hr
  · conv => cbv
    refine .yes ?_
    conv => cbv
    exact ⟨rfl⟩
  · conv => cbv
    refine .no ?_
    conv => cbv
    exact ⟨⟨rfl⟩, ⟨rfl⟩, ⟨rfl⟩⟩
def Lc2 : List (Nat × Contract) := [(81, lenC)]
def Gc2 : Ctx := fun f => gget Lc2 f
theorem Gc2_ok : ∀ f C, Gc2 f = some C → CSound Try.prog f C := gget_cons lens_ok (gget_nil _)
theorem len_ok : CSound Try.prog 43 lenC := by
  refine fsound' (G := Gc2) (c := codeOf Try.f43) mixed tyT Gc2_ok Try.func43 (by rfl) (by kernel_rfl) (by kernel_rfl) fun args M r hr hvc hw hm => ?_
  unfold lenC at hr
  simp only at hr
  split at hr <;> cases hr
  · conv => cbv
    refine .yes ?_
    conv => cbv
    exact ⟨rfl⟩
  · conv => cbv
    refine .no ?_
    conv => cbv
    exact ⟨⟨rfl⟩, ⟨rfl⟩, ⟨rfl⟩⟩
def copyC : Contract := { modes := [.mut], fn := fun args M => match args, M with
  | [.nilp], [] => some ⟨[], .nilp, []⟩
  | [.mp 0 0], [(0, .obj [.int .u32 s, .int .i64 m])] => some ⟨[], .mp 1 0, [(1, some (.obj [.int .u32 s, .int .i64 m]))]⟩
  | _, _ => none }
theorem rcopy_ok : CSound Try.prog 41 copyC := by
  refine fsound' (G := G0) (c := codeOf Try.f41) mixed tyT (gget_nil _) Try.func41 (by rfl) (by kernel_rfl) (by kernel_rfl) fun args M r hr hvc hw hm => ?_
  unfold copyC at hr
  simp only at hr
  split at hr <;> cases hr
  · conv => cbv
    refine .yes ?_
    conv => cbv
    trivial
  · conv => cbv
    refine .no ?_
    conv => cbv
    exact ⟨⟨rfl⟩, ⟨rfl⟩, ⟨rfl⟩, ⟨rfl⟩⟩
def rb (xs : List (List D)) : List (List Nat) := xs.map fun c => bn (lk c 0).toList
def fl (xs : List (List D)) : List (List D) := (xs.map fun c => (lk c 0).toList).flatten
theorem bn_fl (xs : List (List D)) : bn (fl xs) = (rb xs).flatten := by
  induction xs with
  | nil => rfl
  | cons x xs ih => simp only [fl, rb, List.map_cons, List.flatten_cons, bn_append] at ih ⊢; rw [← ih]
theorem fl_take {xs : List (List D)} {i : Nat} (h : i < xs.length) : fl (xs.take (i + 1)) = fl (xs.take i) ++ (lk (lk xs i) 0).toList := by
  rw [List.take_add_one, List.getElem?_eq_getElem h]
  simp only [fl, List.map_append, List.flatten_append, Option.toList_some, List.map_cons, List.map_nil, List.flatten_cons, List.flatten_nil, List.append_nil]
  simp [lk, List.getD, h]
theorem fl_len_take {xs : List (List D)} {i : Nat} (h : i < xs.length) : (fl (xs.take i)).length + (lk (lk xs i) 0).toList.length ≤ (fl xs).length := by
  have h1 := fl_take h
  have h2 : fl xs = fl (xs.take (i + 1)) ++ fl (xs.drop (i + 1)) := by
    simp only [fl]
    rw [← List.flatten_append, ← List.map_append, List.take_append_drop]
  rw [h2, h1]
  simp
theorem WfR.row {xs : List (List D)} (h : WfR [.slice U8] xs) {i : Nat} (hi : i < xs.length) : WfR U8 (lk (lk xs i) 0).toList := by
  have := h.2 i hi
  simp only [WfDs, WfD, and_true] at this
  exact ⟨this.1, fun i hi => by simp only [WfDs, WfD, and_true]; exact this.2 i hi⟩
def sumC : Contract := { modes := [.ro], fn := fun args M => match args, M with
  | [.nils], [] => some ⟨[], .int .u32 fun _ => 0, []⟩
  | [.sl _ [.slice [.int .u8]] xs], [] => some ⟨[fun _ => (fl (xs ())).length < 9223372036854775808], .int .u32 fun _ => ((crcs 0 (bn (fl (xs ())))).toNat : Int), []⟩
  | _, _ => none }
def Lc3 : List (Nat × Contract) := [(42, valueC), (44, addC)]
def Gc3 : Ctx := fun f => gget Lc3 f
theorem Gc3_ok : ∀ f C, Gc3 f = some C → CSound Try.prog f C := gget_cons value_ok (gget_cons add_ok (gget_nil _))
theorem sum_ok : CSound Try.prog 33 sumC := by
  refine fsound' (G := Gc3) (c := codeOf Try.f33) mixed tyT Gc3_ok Try.func33 (by rfl) (by kernel_rfl) (by kernel_rfl) fun args M r hr hvc hw hm => ?_
  unfold sumC at hr
  simp only at hr
  split at hr <;> cases hr
  · conv => cbv
    refine LoopP.mk Unit (fun i => ⟨finit 16 [.un, .un, .un, .mp 0 0, .un, .un, .nils, .int .i64 fun _ => 0, .int .i64 fun _ => 0], [(0, .obj [.int .u32 fun _ => 0, .int .i64 fun _ => 0])], 8⟩) (fun _ => 0) () ?_ ?_
    · conv => cbv
      exact ⟨⟨rfl⟩, ⟨rfl⟩, ⟨rfl⟩, ⟨rfl⟩⟩
    · intro _
      conv => cbv
      refine .ofF (by decide) ?_
      conv => cbv
      exact ⟨rfl⟩
  · rename_i xs
    obtain ⟨x, rfl⟩ : ∃ x, xs = fun _ => x := ⟨xs (), rfl⟩
    have hb : (fl x).length < 9223372036854775808 := hvc _ (List.mem_singleton.2 rfl)
    simp only [WfVs, WfV, and_true] at hw
    have hx := hw.1
    clear hvc hm
    conv => cbv
    refine LoopP.mk {i : Nat // i ≤ x.length} (fun i => ⟨finit 16 [.un, .un, .un, .mp 0 0, .un, .un, .sl false [.slice U8] fun _ => x, .int .i64 fun _ => x.length, .int .i64 fun _ => (i.1 : Int)], [(0, .obj [.int .u32 fun _ => ((crcs 0 (bn (fl (x.take i.1)))).toNat : Int), .int .i64 fun _ => ((fl (x.take i.1)).length : Int)])], 8⟩) (fun i => x.length - i.1) ⟨0, Nat.zero_le _⟩ ?_ ?_
    · conv => cbv
      exact ⟨⟨rfl⟩, ⟨rfl⟩, ⟨rfl⟩, ⟨rfl⟩, ⟨rfl⟩⟩
    · intro ⟨i, hi⟩
      conv => cbv
      refine Split.mk (fun h => ?_) (fun h => ?_)
      · have h : (i : Int) < x.length := of_decide_eq_true h
        have h : i < x.length := by omega
        have hB : 0 ≤ (i : Int) ∧ (i : Int) < (x.length : Int) := by omega
        have hw1 : IntKind.i64.wrap ((i : Int) + 1) = ((i + 1 : Nat) : Int) := by rw [wrap_i64 (by omega)]; omega
        have hlt : i + 1 ≤ x.length ∧ x.length - (i + 1) < x.length - i := by omega
        have h3 := fl_len_take h
        have h4 := fl_take h
        have hB2 : 0 ≤ ((fl (x.take i)).length : Int) ∧ ((fl (x.take i)).length : Int) + (((lk (lk x ((i : Int)).toNat) 0).toList).length : Int) < 9223372036854775808 := by
          simp only [Int.toNat_natCast]; omega
        have hs1 : (((crcs (BitVec.ofNat 32 (((crcs 0 (bn (fl (x.take i)))).toNat : Int)).toNat) (bn (lk (lk x ((i : Int)).toNat) 0).toList)).toNat : Nat) : Int) = (((crcs 0 (bn (fl (x.take (i + 1))))).toNat : Nat) : Int) := by
          rw [h4, bn_append, crcs_append, ofNat_toNat32, Int.toNat_natCast]
        have hs2 : ((fl (x.take i)).length : Int) + (((lk (lk x ((i : Int)).toNat) 0).toList).length : Int) = ((fl (x.take (i + 1))).length : Int) := by
          rw [h4, Int.toNat_natCast]; simp
        conv => cbv
        refine ⟨⟨hB⟩, ⟨hB2⟩, ⟨i + 1, hlt.1⟩, hlt.2, ?_⟩
        conv => cbv
        exact ⟨⟨rfl⟩, ⟨rfl⟩, ⟨hw1⟩, ⟨hs1⟩, ⟨hs2⟩⟩
      · have h : ¬ (i : Int) < x.length := of_decide_eq_false h
        obtain rfl : i = x.length := by omega
        have e : x.take x.length = x := List.take_of_length_le (Nat.le_refl _)
        conv => cbv
        simp only [Hold.iff, e]
def st4 (n : Nat) : List Nat := [n / 16777216 % 256, n / 65536 % 256, n / 256 % 256, n % 256]
def stC : Contract := { modes := [.ro], fn := fun args M => match args, M with
  | [.int .u32 n], [] => some ⟨[], .ms 0 (fun _ => 0) (fun _ => 4), [(0, some (.row true U8 fun _ => rowB (st4 (n ()).toNat)))]⟩
  | _, _ => none }
theorem ishr_nat (k : IntKind) (n s : Nat) (h : s ≤ k.bits) : ishr k (n : Int) (s : Int) = ((n / 2 ^ s : Nat) : Int) := by
  simp only [ishr, Int.toNat_natCast, Nat.min_eq_left h]
  rw [Int.fdiv_eq_ediv_of_nonneg _ (by exact_mod_cast Nat.zero_le _)]
  rw [Int.natCast_ediv]
  congr 1
theorem stands_ok : CSound Try.prog 75 stC := by
  refine fsound' (G := G0) (c := codeOf Try.f75) mixed tyT (gget_nil _) Try.func75 (by rfl) (by kernel_rfl) (by kernel_rfl) fun args M r hr hvc hw hm => ?_
  unfold stC at hr
  simp only at hr
  split at hr <;> cases hr
  rename_i n0
  clear hvc hm
  obtain ⟨m0, rfl⟩ : ∃ x, n0 = fun _ => x := ⟨n0 (), rfl⟩
  simp only [WfVs, WfV, and_true, u32_iff] at hw
  have ⟨n, hk⟩ := Int.eq_ofNat_of_zero_le hw.1
  subst hk
  have e1 : IntKind.u8.wrap (ishr .u32 (n : Int) 24) = ((n / 16777216 % 256 : Nat) : Int) := by have h := ishr_nat .u32 n 24 (by decide); rw [show ((24 : Nat) : Int) = 24 from rfl] at h; rw [h, wrap_u8_mod]; omega
  have e2 : IntKind.u8.wrap (ishr .u32 (n : Int) 16) = ((n / 65536 % 256 : Nat) : Int) := by have h := ishr_nat .u32 n 16 (by decide); rw [show ((16 : Nat) : Int) = 16 from rfl] at h; rw [h, wrap_u8_mod]; omega
  have e3 : IntKind.u8.wrap (ishr .u32 (n : Int) 8) = ((n / 256 % 256 : Nat) : Int) := by have h := ishr_nat .u32 n 8 (by decide); rw [show ((8 : Nat) : Int) = 8 from rfl] at h; rw [h, wrap_u8_mod]; omega
  have e4 : IntKind.u8.wrap (n : Int) = ((n % 256 : Nat) : Int) := by rw [wrap_u8_mod]; omega
  conv => cbv
  simp only [Hold.iff, e1, e2, e3, e4, st4, rowB]
  simp [chunk]
theorem rstands_ok : CSound Try.prog 29 stC := by
  refine fsound' (G := G0) (c := codeOf Try.f29) mixed tyT (gget_nil _) Try.func29 (by rfl) (by kernel_rfl) (by kernel_rfl) fun args M r hr hvc hw hm => ?_
  unfold stC at hr
  simp only at hr
  split at hr <;> cases hr
  rename_i n0
  clear hvc hm
  obtain ⟨m0, rfl⟩ : ∃ x, n0 = fun _ => x := ⟨n0 (), rfl⟩
  simp only [WfVs, WfV, and_true, u32_iff] at hw
  have ⟨n, hk⟩ := Int.eq_ofNat_of_zero_le hw.1
  subst hk
  have qa : (n : Int).tdiv 16777216 = ((n / 16777216 : Nat) : Int) := (Int.ofNat_tdiv n 16777216).symm
  have qb : (n : Int).tdiv 65536 = ((n / 65536 : Nat) : Int) := (Int.ofNat_tdiv n 65536).symm
  have qc : (n : Int).tdiv 256 = ((n / 256 : Nat) : Int) := (Int.ofNat_tdiv n 256).symm
  have q2 : ∀ a : Nat, ((a : Int).tmod 256) = ((a % 256 : Nat) : Int) := fun a => (Int.ofNat_tmod a 256).symm
  have w1 : ∀ a : Nat, a ≤ n → IntKind.u32.wrap (a : Int) = a := fun a h => by rw [wrap_u32_mod]; omega
  have e1 : IntKind.u8.wrap (IntKind.u32.wrap ((n : Int).tdiv 16777216)) = ((n / 16777216 % 256 : Nat) : Int) := by rw [qa, w1 _ (Nat.div_le_self _ _), wrap_u8_mod]; omega
  have e2 : IntKind.u8.wrap ((IntKind.u32.wrap ((n : Int).tdiv 65536)).tmod 256) = ((n / 65536 % 256 : Nat) : Int) := by rw [qb, w1 _ (Nat.div_le_self _ _), q2, wrap_u8_mod]; omega
  have e3 : IntKind.u8.wrap ((IntKind.u32.wrap ((n : Int).tdiv 256)).tmod 256) = ((n / 256 % 256 : Nat) : Int) := by rw [qc, w1 _ (Nat.div_le_self _ _), q2, wrap_u8_mod]; omega
  have e4 : IntKind.u8.wrap ((n : Int).tmod 256) = ((n % 256 : Nat) : Int) := by rw [q2, wrap_u8_mod]; omega
  conv => cbv
  simp only [Hold.iff, e1, e2, e3, e4, st4, rowB]
  simp [chunk]
def cloneC : Contract := { modes := [.ro], fn := fun args M => match args, M with
  | [.nils], [] => some ⟨[], .nils, []⟩
  | [.sl _ [.int .u8] xs], [] => some ⟨[fun _ => (xs ()).length ≤ big], .ms 0 (fun _ => 0) (fun _ => (xs ()).length), [(0, some (.row false U8 fun _ => xs ()))]⟩
  | _, _ => none }
theorem clone_ok : CSound Try.prog 76 cloneC := by
  refine fsound' (G := G0) (c := codeOf Try.f76) mixed tyT (gget_nil _) Try.func76 (by rfl) (by kernel_rfl) (by kernel_rfl) fun args M r hr hvc hw hm => ?_
  unfold cloneC at hr
  simp only at hr
  split at hr <;> cases hr
  · conv => cbv
    refine .yes ?_
    conv => cbv
    trivial
  · rename_i nn xs
    have hb : (xs ()).length ≤ big := hvc _ (List.mem_singleton.2 rfl)
    clear hvc hm hw
    obtain ⟨x, rfl⟩ : ∃ x, xs = fun _ => x := ⟨xs (), rfl⟩
    have hb : x.length ≤ big := hb
    cases nn
    · conv => cbv
      intro d hd
      have hd : d.toBool = true → x = [] := hd
      conv => cbv
      refine Split.mk (fun h => ?_) (fun h => ?_)
      · have hx := hd (eq_of_beq h)
        conv => cbv
        subst hx
        exact ⟨⟨rfl, rfl⟩, ⟨rfl⟩⟩
      · conv => cbv
        simp [Hold.iff, chunk, big] at hb ⊢
        exact hb
    · conv => cbv
      refine .no ?_
      conv => cbv
      simp [Hold.iff, chunk, big] at hb ⊢
      exact hb
theorem sclone_ok : CSound Try.prog 80 cloneC := by
  refine fsound' (G := G0) (c := codeOf Try.f80) mixed tyT (gget_nil _) Try.func80 (by rfl) (by kernel_rfl) (by kernel_rfl) fun args M r hr hvc hw hm => ?_
  unfold cloneC at hr
  simp only at hr
  split at hr <;> cases hr
  · conv => cbv
    refine .yes ?_
    conv => cbv
    trivial
  · rename_i nn xs
    have hb : (xs ()).length ≤ big := hvc _ (List.mem_singleton.2 rfl)
    clear hvc hm hw
    obtain ⟨x, rfl⟩ : ∃ x, xs = fun _ => x := ⟨xs (), rfl⟩
    have hb : x.length ≤ big := hb
    cases nn
    · conv => cbv
      intro d hd
      have hd : d.toBool = true → x = [] := hd
      conv => cbv
      refine Split.mk (fun h => ?_) (fun h => ?_)
      · have hx := hd (eq_of_beq h)
        conv => cbv
        subst hx
        exact ⟨⟨rfl, rfl⟩, ⟨rfl⟩⟩
      · conv => cbv
        simp [Hold.iff, chunk, big] at hb ⊢
        exact hb
    · conv => cbv
      refine .no ?_
      conv => cbv
      simp [Hold.iff, chunk, big] at hb ⊢
      exact hb
theorem bytes_eq {x : List (List D)} (h : WfR U8 x) {y : List (List D)} (hy : WfR U8 y) : ((x.map fun c => UInt8.ofNat (lk c 0).toInt.toNat) == (y.map fun c => UInt8.ofNat (lk c 0).toInt.toNat)) = (bn x == bn y) := by
  have key : ∀ {z : List (List D)}, WfR U8 z → (z.map fun c => UInt8.ofNat (lk c 0).toInt.toNat).map (·.toNat) = bn z := fun {z} hz => by
    have := bn_lt hz
    simp only [bn, List.map_map] at this ⊢
    refine List.map_congr_left fun c hc => ?_
    have := this _ (List.mem_map.2 ⟨c, hc, rfl⟩)
    simp only [Function.comp]
    rw [UInt8.toNat_ofNat']
    omega
  rw [Bool.eq_iff_iff]
  simp only [beq_iff_eq]
  constructor
  · intro e
    rw [← key h, ← key hy, e]
  · intro e
    rw [← key h, ← key hy] at e
    exact (List.map_inj_right fun a b h => UInt8.toNat_inj.1 h).1 e
theorem bequal_ok : CSound Try.prog 74 sameC := by
  refine fsound' (G := G0) (c := codeOf Try.f74) mixed tyT (gget_nil _) Try.func74 (by rfl) (by kernel_rfl) (by kernel_rfl) fun args M r hr hvc hw hm => ?_
  unfold sameC at hr
  simp only at hr
  split at hr <;> cases hr
  rename_i xs _ ys
  clear hvc hm
  have hx : xs = fun _ => xs () := rfl
  generalize xs () = x at hx
  subst hx
  have hy : ys = fun _ => ys () := rfl
  generalize ys () = y at hy
  subst hy
  simp only [WfVs, WfV, and_true] at hw
  have e := bytes_eq hw.1 hw.2
  conv => cbv
  exact ⟨e⟩
end Go.Am
/- varint.Writer keeps its contracts. -/
namespace Go.Am
set_option linter.all false
set_option linter.deprecated false
open Go.Proofs
set_option maxRecDepth 100000
set_option maxHeartbeats 4000000
def un (ls : List (List D)) : List Nat := ls.map fun c => (lk c 0).toInt.toNat
def puts (ns : List Nat) : List Nat := ns.flatMap putB
theorem puts_len (ns : List Nat) : (puts ns).length ≤ 10 * ns.length := by
  induction ns with
  | nil => simp [puts]
  | cons n ns ih =>
    have := (put1_len 9 n).2
    simp only [puts, List.flatMap_cons, List.length_append, List.length_cons] at ih ⊢
    rw [← putB] at this
    omega
@[simp] theorem un_len (ls : List (List D)) : (un ls).length = ls.length := by simp [un]
theorem puts_take {ls : List (List D)} {i : Nat} (h : i < ls.length) : puts ((un ls).take (i + 1)) = puts ((un ls).take i) ++ putB ((lk (lk ls i) 0).toInt.toNat) := by
  have h' : i < (un ls).length := by simpa using h
  rw [List.take_add_one, List.getElem?_eq_getElem h']
  simp [puts, un, lk, List.getD, h]
theorem puts_take_len {ls : List (List D)} {i : Nat} : (puts ((un ls).take i)).length ≤ 10 * ls.length := by
  refine Nat.le_trans (puts_len _) ?_
  simp only [List.length_take, un_len]; omega
def numberC : Contract := { modes := [.mut, .ro], fn := fun args M => match args, M with
  | [.nilp, _], [] => some ⟨[], .int .i64 fun _ => 1, []⟩
  | [.mp 0 0, .sl _ [.int .u64] ls], [(0, .obj [.nils])] => some ⟨[fun _ => 10 * (ls ()).length ≤ big], .int .i64 fun _ => 0,
      [(0, some (.obj [.ms 1 (fun _ => 0) (fun _ => (puts (un (ls ()))).length)])), (1, some (.row false U8 fun _ => rowB (puts (un (ls ())))))]⟩
  | [.mp 0 0, .sl _ [.int .u64] ls], [(0, .obj [.ms 1 lo len]), (1, .row false [.int .u8] xs)] => some ⟨[fun _ => lo () = 0 ∧ len () = (xs ()).length ∧ (xs ()).length + 10 * (ls ()).length ≤ big], .int .i64 fun _ => 0,
      [(0, some (.obj [.ms 2 (fun _ => 0) (fun _ => (xs ()).length + (puts (un (ls ()))).length)])), (1, none), (2, some (.row false U8 fun _ => xs () ++ rowB (puts (un (ls ())))))]⟩
  | _, _ => none }
def Lw1 : List (Nat × Contract) := [(19, putC)]
def Gw1 : Ctx := fun f => gget Lw1 f
theorem Gw1_ok : ∀ f C, Gw1 f = some C → CSound Try.prog f C := gget_cons put_ok (gget_nil _)
theorem number_ok : CSound Try.prog 35 numberC := by
  refine fsound' (G := Gw1) (c := codeOf Try.f35) mixed tyT Gw1_ok Try.func35 (by rfl) (by kernel_rfl) (by kernel_rfl) fun args M r hr hvc hw hm => ?_
  unfold numberC at hr
  simp only at hr
  split at hr <;> cases hr
  · conv => cbv
    refine .yes ?_
    conv => cbv
    exact ⟨rfl⟩
  · rename_i nn ls
    have hb : 10 * (ls ()).length ≤ big := hvc _ (List.mem_singleton.2 rfl)
    clear hvc hm
    have hx : ls = fun _ => ls () := rfl
    generalize ls () = l at hx hb
    subst hx
    simp only [WfVs, WfV, and_true, true_and] at hw
    have hx := hw.1
    have hb : 10 * l.length ≤ 1099511627776 := hb
    conv => cbv
    refine .no ?_
    conv => cbv
    refine LoopP.mk {i : Nat // i ≤ l.length} (fun i => ⟨ev 26 [(0, .mp 0 0), (9, .sl false [.int .u64] fun _ => l), (10, .int .i64 fun _ => (l.length : Int)), (11, .int .i64 fun _ => (i.1 : Int))],
      [(0, .obj [.ms 1 (fun _ => 0) (fun _ => (puts ((un l).take i.1)).length)]), (1, .row false U8 fun _ => rowB (puts ((un l).take i.1)))], 9⟩) (fun i => l.length - i.1) ⟨0, Nat.zero_le _⟩ ?_ ?_
    · conv => cbv
      exact ⟨⟨rfl⟩, ⟨rfl⟩, ⟨rfl⟩, ⟨rfl, rfl⟩, ⟨rfl⟩⟩
    · intro ⟨i, hi⟩
      conv => cbv
      refine Split.mk (fun h => ?_) (fun h => ?_)
      · have h : (i : Int) < (l.length : Int) := of_decide_eq_true h
        have h : i < l.length := by omega
        have v1 : 0 ≤ (i : Int) ∧ (i : Int) < (l.length : Int) := by omega
        have hw1 : IntKind.i64.wrap ((i : Int) + 1) = ((i + 1 : Nat) : Int) := by rw [wrap_i64 (by omega)]; omega
        have hlt : i + 1 ≤ l.length ∧ l.length - (i + 1) < l.length - i := by omega
        have hp := puts_take h
        have hpl := @puts_take_len l (i + 1)
        rw [hp, List.length_append] at hpl
        have hP : List.take (putB ((lk (lk l i) 0).toInt).toNat).length (List.drop 0 (rowB (putB ((lk (lk l i) 0).toInt).toNat))) = rowB (putB ((lk (lk l i) 0).toInt).toNat) := by simp
        have v2 : (puts ((un l).take i)).length + (List.take (putB ((lk (lk l ((i : Int)).toNat) 0).toInt).toNat).length (List.drop 0 (rowB (putB ((lk (lk l ((i : Int)).toNat) 0).toInt).toNat)))).length ≤ big := by
          rw [Int.toNat_natCast, hP, rowB_len]; simp only [big]; omega
        have g1 : (puts ((un l).take i)).length + (List.take (putB ((lk (lk l ((i : Int)).toNat) 0).toInt).toNat).length (List.drop 0 (rowB (putB ((lk (lk l ((i : Int)).toNat) 0).toInt).toNat)))).length = (puts ((un l).take (i + 1))).length := by
          rw [Int.toNat_natCast, hP, rowB_len, hp, List.length_append]
        have g2 : (rowB (puts ((un l).take i))).take (puts ((un l).take i)).length ++ List.take (putB ((lk (lk l ((i : Int)).toNat) 0).toInt).toNat).length (List.drop 0 (rowB (putB ((lk (lk l ((i : Int)).toNat) 0).toInt).toNat))) = rowB (puts ((un l).take (i + 1))) := by
          rw [Int.toNat_natCast, hP, take_rowB, hp, rowB_append]
        conv => cbv
        refine ⟨⟨v1⟩, ⟨rfl⟩, ⟨by simp⟩, ⟨v2⟩, ⟨by simp⟩, ⟨i + 1, hlt.1⟩, hlt.2, ?_⟩
        conv => cbv
        exact ⟨⟨rfl⟩, ⟨rfl⟩, ⟨hw1⟩, ⟨rfl, g1⟩, ⟨g2⟩⟩
      · have h : ¬ (i : Int) < (l.length : Int) := of_decide_eq_false h
        have hi2 : i = l.length := by omega
        have e : (un l).take i = un l := List.take_of_length_le (by simp; omega)
        conv => cbv
        simp [Hold.iff, e]
  · rename_i nn ls lo len xs
    have hb : lo () = 0 ∧ len () = (xs ()).length ∧ (xs ()).length + 10 * (ls ()).length ≤ big := hvc _ (List.mem_singleton.2 rfl)
    clear hvc hm
    have hx : ls = fun _ => ls () := rfl
    generalize ls () = l at hx hb
    subst hx
    have hx : lo = fun _ => lo () := rfl
    generalize lo () = lo0 at hx hb
    subst hx
    have hx : len = fun _ => len () := rfl
    generalize len () = len0 at hx hb
    subst hx
    have hx : xs = fun _ => xs () := rfl
    generalize xs () = x at hx hb
    subst hx
    obtain ⟨h1, h2, hb⟩ := hb
    subst h1 h2
    simp only [WfVs, WfV, and_true, true_and] at hw
    have hx := hw.1
    have hb : x.length + 10 * l.length ≤ 1099511627776 := hb
    conv => cbv
    refine .no ?_
    conv => cbv
    refine LoopP.mk {i : Nat // i ≤ l.length} (fun i => ⟨ev 26 [(0, .mp 0 0), (9, .sl false [.int .u64] fun _ => l), (10, .int .i64 fun _ => (l.length : Int)), (11, .int .i64 fun _ => (i.1 : Int))],
      [(0, .obj [.ms 2 (fun _ => 0) (fun _ => x.length + (puts ((un l).take i.1)).length)]), (2, .row false U8 fun _ => x ++ rowB (puts ((un l).take i.1)))], 10⟩) (fun i => l.length - i.1) ⟨0, Nat.zero_le _⟩ ?_ ?_
    · have e0 : x = x ++ rowB (puts ((un l).take 0)) := by simp [puts, rowB]
      conv => cbv
      exact ⟨⟨rfl⟩, ⟨rfl⟩, ⟨rfl⟩, ⟨rfl, rfl⟩, ⟨e0⟩⟩
    · intro ⟨i, hi⟩
      conv => cbv
      refine Split.mk (fun h => ?_) (fun h => ?_)
      · have h : (i : Int) < (l.length : Int) := of_decide_eq_true h
        have h : i < l.length := by omega
        have v1 : 0 ≤ (i : Int) ∧ (i : Int) < (l.length : Int) := by omega
        have hw1 : IntKind.i64.wrap ((i : Int) + 1) = ((i + 1 : Nat) : Int) := by rw [wrap_i64 (by omega)]; omega
        have hlt : i + 1 ≤ l.length ∧ l.length - (i + 1) < l.length - i := by omega
        have hp := puts_take h
        have hpl := @puts_take_len l (i + 1)
        rw [hp, List.length_append] at hpl
        have hP : List.take (putB ((lk (lk l i) 0).toInt).toNat).length (List.drop 0 (rowB (putB ((lk (lk l i) 0).toInt).toNat))) = rowB (putB ((lk (lk l i) 0).toInt).toNat) := by simp
        have v2 : x.length + (puts ((un l).take i)).length + (List.take (putB ((lk (lk l ((i : Int)).toNat) 0).toInt).toNat).length (List.drop 0 (rowB (putB ((lk (lk l ((i : Int)).toNat) 0).toInt).toNat)))).length ≤ big := by
          rw [Int.toNat_natCast, hP, rowB_len]; simp only [big]; omega
        have g1 : x.length + (puts ((un l).take i)).length + (List.take (putB ((lk (lk l ((i : Int)).toNat) 0).toInt).toNat).length (List.drop 0 (rowB (putB ((lk (lk l ((i : Int)).toNat) 0).toInt).toNat)))).length = x.length + (puts ((un l).take (i + 1))).length := by
          rw [Int.toNat_natCast, hP, rowB_len, hp, List.length_append]; omega
        have g2 : (x ++ rowB (puts ((un l).take i))).take (x.length + (puts ((un l).take i)).length) ++ List.take (putB ((lk (lk l ((i : Int)).toNat) 0).toInt).toNat).length (List.drop 0 (rowB (putB ((lk (lk l ((i : Int)).toNat) 0).toInt).toNat))) = x ++ rowB (puts ((un l).take (i + 1))) := by
          rw [Int.toNat_natCast, hP, List.take_of_length_le (by simp), hp, rowB_append, List.append_assoc]
        conv => cbv
        refine ⟨⟨v1⟩, ⟨rfl⟩, ⟨by simp⟩, ⟨v2⟩, ⟨by simp⟩, ⟨i + 1, hlt.1⟩, hlt.2, ?_⟩
        conv => cbv
        exact ⟨⟨rfl⟩, ⟨rfl⟩, ⟨hw1⟩, ⟨rfl, g1⟩, ⟨g2⟩⟩
      · have h : ¬ (i : Int) < (l.length : Int) := of_decide_eq_false h
        have hi2 : i = l.length := by omega
        have e : (un l).take i = un l := List.take_of_length_le (by simp; omega)
        conv => cbv
        simp [Hold.iff, e]
end Go.Am
/- varint.Writer: Raw, Text, Bytes, Len keep their contracts. -/
namespace Go.Am
set_option linter.all false
set_option linter.deprecated false
open Go.Proofs
set_option maxRecDepth 100000
set_option maxHeartbeats 4000000
def rawC : Contract := { modes := [.mut, .ro], fn := fun args M => match args, M with
  | [.nilp, _], [] => some ⟨[], .int .i64 fun _ => 1, []⟩
  | [.mp 0 0, .sl _ [.int .u8] ys], [(0, .obj [.nils])] => some ⟨[fun _ => (ys ()).length ≤ big], .int .i64 fun _ => 0,
      [(0, some (.obj [.ms 1 (fun _ => 0) (fun _ => (ys ()).length)])), (1, some (.row false U8 fun _ => ys ()))]⟩
  | [.mp 0 0, .sl _ [.int .u8] ys], [(0, .obj [.ms 1 lo len]), (1, .row false [.int .u8] xs)] => some ⟨[fun _ => lo () = 0 ∧ len () = (xs ()).length ∧ (xs ()).length + (ys ()).length ≤ big], .int .i64 fun _ => 0,
      [(0, some (.obj [.ms 2 (fun _ => 0) (fun _ => (xs ()).length + (ys ()).length)])), (1, none), (2, some (.row false U8 fun _ => xs () ++ ys ()))]⟩
  | _, _ => none }
theorem raw_ok : CSound Try.prog 36 rawC := by
  refine fsound' (G := G0) (c := codeOf Try.f36) mixed tyT (gget_nil _) Try.func36 (by rfl) (by kernel_rfl) (by kernel_rfl) fun args M r hr hvc hw hm => ?_
  unfold rawC at hr
  simp only at hr
  split at hr <;> cases hr
  · conv => cbv
    refine .yes ?_
    conv => cbv
    exact ⟨rfl⟩
  · rename_i nn ls
    have hb : (ls ()).length ≤ big := hvc _ (List.mem_singleton.2 rfl)
    clear hvc hm hw
    have hx : ls = fun _ => ls () := rfl
    generalize ls () = l at hx hb
    subst hx
    conv => cbv
    refine .no ?_
    conv => cbv
    exact ⟨⟨hb⟩, ⟨rfl⟩, ⟨rfl, rfl⟩, ⟨rfl⟩⟩
  · rename_i nn ls lo len xs
    have hb : lo () = 0 ∧ len () = (xs ()).length ∧ (xs ()).length + (ls ()).length ≤ big := hvc _ (List.mem_singleton.2 rfl)
    clear hvc hm hw
    have hx : ls = fun _ => ls () := rfl
    generalize ls () = l at hx hb
    subst hx
    have hx : lo = fun _ => lo () := rfl
    generalize lo () = lo0 at hx hb
    subst hx
    have hx : len = fun _ => len () := rfl
    generalize len () = len0 at hx hb
    subst hx
    have hx : xs = fun _ => xs () := rfl
    generalize xs () = x at hx hb
    subst hx
    obtain ⟨h1, h2, hb⟩ := hb
    subst h1 h2
    have g : x.take x.length ++ l = x ++ l := by rw [List.take_length]
    conv => cbv
    refine .no ?_
    conv => cbv
    exact ⟨⟨rfl⟩, ⟨Nat.le_refl _⟩, ⟨hb⟩, ⟨rfl⟩, ⟨rfl, rfl⟩, ⟨g⟩⟩
def textC : Contract := { modes := [.mut, .ro], fn := fun args M => match args, M with
  | [.nilp, .sl _ [.int .u8] _], [] => some ⟨[], .int .i64 fun _ => 1, []⟩
  | [.mp 0 0, .sl _ [.int .u8] ys], [(0, .obj [.nils])] => some ⟨[fun _ => 10 + (ys ()).length ≤ big], .int .i64 fun _ => 0,
      [(0, some (.obj [.ms 1 (fun _ => 0) (fun _ => (putB (ys ()).length).length + (ys ()).length)])), (1, some (.row false U8 fun _ => rowB (putB (ys ()).length) ++ ys ()))]⟩
  | [.mp 0 0, .sl _ [.int .u8] ys], [(0, .obj [.ms 1 lo len]), (1, .row false [.int .u8] xs)] => some ⟨[fun _ => lo () = 0 ∧ len () = (xs ()).length ∧ (xs ()).length + 10 + (ys ()).length ≤ big], .int .i64 fun _ => 0,
      [(0, some (.obj [.ms 2 (fun _ => 0) (fun _ => (xs ()).length + (putB (ys ()).length).length + (ys ()).length)])), (1, none), (2, some (.row false U8 fun _ => xs () ++ rowB (putB (ys ()).length) ++ ys ()))]⟩
  | _, _ => none }
def Lw2 : List (Nat × Contract) := [(35, numberC), (36, rawC)]
def Gw2 : Ctx := fun f => gget Lw2 f
theorem Gw2_ok : ∀ f C, Gw2 f = some C → CSound Try.prog f C := gget_cons number_ok (gget_cons raw_ok (gget_nil _))
@[simp] theorem chunk64 (f : Unit → D) : List.map dall (chunk 1 1 [f]) = [[f ()]] := rfl
theorem un_one (n : Int) : un [[D.int n]] = [n.toNat] := rfl
theorem puts_one (n : Nat) : puts [n] = putB n := by simp [puts]
theorem text_ok : CSound Try.prog 37 textC := by
  refine fsound' (G := Gw2) (c := codeOf Try.f37) mixed tyT Gw2_ok Try.func37 (by rfl) (by kernel_rfl) (by kernel_rfl) fun args M r hr hvc hw hm => ?_
  unfold textC at hr
  simp only at hr
  split at hr <;> cases hr
  · conv => cbv
    refine ⟨⟨by simp⟩, .ofT (by rfl) ?_⟩
    conv => cbv
    exact ⟨rfl⟩
  · rename_i nn ls
    have hb : 10 + (ls ()).length ≤ big := hvc _ (List.mem_singleton.2 rfl)
    clear hvc hm hw
    have hx : ls = fun _ => ls () := rfl
    generalize ls () = l at hx hb
    subst hx
    have hb : 10 + l.length ≤ 1099511627776 := hb
    have hl := put1_len 9 l.length
    rw [← putB] at hl
    have hu : IntKind.u64.wrap (l.length : Int) = (l.length : Int) := wrap_u64 (by omega)
    have hu2 : puts (un [[D.int (IntKind.u64.wrap (l.length : Int))]]) = putB l.length := by rw [hu, un_one, puts_one]; simp
    conv => cbv
    refine ⟨⟨by simp⟩, ⟨by simp [big]⟩, .no ?_⟩
    have hv : (rowB (putB l.length)).length + l.length ≤ big := by rw [rowB_len]; simp only [big]; omega
    conv => cbv
    refine ⟨⟨rfl, ?_, ?_⟩, ⟨rfl⟩, ⟨rfl, ?_⟩, ⟨?_⟩⟩
    · exact (rowB_len _).symm
    · simp only [chunk64, List.drop_zero, List.take_succ_cons, List.take_zero, hu2]
      exact hv
    · simp only [chunk64, List.drop_zero, List.take_succ_cons, List.take_zero, hu2, rowB_len]
    · simp only [chunk64, List.drop_zero, List.take_succ_cons, List.take_zero, hu2]
  · rename_i nn ls lo len xs
    have hb : lo () = 0 ∧ len () = (xs ()).length ∧ (xs ()).length + 10 + (ls ()).length ≤ big := hvc _ (List.mem_singleton.2 rfl)
    clear hvc hm hw
    have hx : ls = fun _ => ls () := rfl
    generalize ls () = l at hx hb
    subst hx
    have hx : lo = fun _ => lo () := rfl
    generalize lo () = lo0 at hx hb
    subst hx
    have hx : len = fun _ => len () := rfl
    generalize len () = len0 at hx hb
    subst hx
    have hx : xs = fun _ => xs () := rfl
    generalize xs () = x at hx hb
    subst hx
    have h1 := hb.1
    have h2 := hb.2.1
    have hb := hb.2.2
    have hb : x.length + 10 + l.length ≤ 1099511627776 := hb
    have hl := put1_len 9 l.length
    rw [← putB] at hl
    have hu : IntKind.u64.wrap (l.length : Int) = (l.length : Int) := wrap_u64 (by omega)
    have hu2 : puts (un [[D.int (IntKind.u64.wrap (l.length : Int))]]) = putB l.length := by rw [hu, un_one, puts_one]; simp
    have hv : (x ++ rowB (putB l.length)).length + l.length ≤ big := by rw [List.length_append, rowB_len]; simp only [big]; omega
    have hv0 : x.length + 10 * 1 ≤ big := by simp only [big]; omega
    conv => cbv
    refine ⟨⟨by simp⟩, ⟨h1, h2, by simpa using hv0⟩, .no ?_⟩
    conv => cbv
    refine ⟨⟨rfl, ?_, ?_⟩, ⟨rfl⟩, ⟨rfl, ?_⟩, ⟨?_⟩⟩
    · simp
    · simp only [chunk64, List.drop_zero, List.take_succ_cons, List.take_zero, hu2]
      exact hv
    · simp only [chunk64, List.drop_zero, List.take_succ_cons, List.take_zero, hu2, rowB_len, List.length_append]
    · simp only [chunk64, List.drop_zero, List.take_succ_cons, List.take_zero, hu2]
def bytesC : Contract := { modes := [.mut], fn := fun args M => match args, M with
  | [.nilp], [] => some ⟨[], .nils, []⟩
  | [.mp 0 0], [(0, .obj [.nils])] => some ⟨[], .nils, []⟩
  | [.mp 0 0], [(0, .obj [.ms 1 lo len]), (1, .row false [.int .u8] xs)] => some ⟨[fun _ => lo () = 0 ∧ len () = (xs ()).length ∧ (xs ()).length ≤ big], .ms 2 (fun _ => 0) (fun _ => (xs ()).length), [(2, some (.row false U8 xs))]⟩
  | _, _ => none }
def Lw3 : List (Nat × Contract) := [(80, cloneC)]
def Gw3 : Ctx := fun f => gget Lw3 f
theorem Gw3_ok : ∀ f C, Gw3 f = some C → CSound Try.prog f C := gget_cons sclone_ok (gget_nil _)
theorem bytes_ok : CSound Try.prog 38 bytesC := by
  refine fsound' (G := Gw3) (c := codeOf Try.f38) mixed tyT Gw3_ok Try.func38 (by rfl) (by kernel_rfl) (by kernel_rfl) fun args M r hr hvc hw hm => ?_
  unfold bytesC at hr
  simp only at hr
  split at hr <;> cases hr
  · conv => cbv
    refine .yes ?_
    conv => cbv
    trivial
  · conv => cbv
    refine .no ?_
    conv => cbv
    trivial
  · rename_i lo len xs
    have hb : lo () = 0 ∧ len () = (xs ()).length ∧ (xs ()).length ≤ big := hvc _ (List.mem_singleton.2 rfl)
    clear hvc hm hw
    have hx : lo = fun _ => lo () := rfl
    generalize lo () = lo0 at hx hb
    subst hx
    have hx : len = fun _ => len () := rfl
    generalize len () = len0 at hx hb
    subst hx
    have hx : xs = fun _ => xs () := rfl
    generalize xs () = x at hx hb
    subst hx
    obtain ⟨h1, h2, hb⟩ := hb
    subst h1 h2
    conv => cbv
    refine .no ?_
    conv => cbv
    simp [Hold.iff, hb]
def wlenC : Contract := { modes := [.mut], fn := fun args M => match args, M with
  | [.nilp], [] => some ⟨[], .int .i64 fun _ => 0, []⟩
  | [.mp 0 0], [(0, .obj [.nils])] => some ⟨[], .int .i64 fun _ => 0, []⟩
  | [.mp 0 0], [(0, .obj [.ms 1 lo len]), (1, .row false [.int .u8] xs)] => some ⟨[], .int .i64 fun _ => (len () : Int), []⟩
  | _, _ => none }
theorem wlen_ok : CSound Try.prog 39 wlenC := by
  refine fsound' (G := G0) (c := codeOf Try.f39) mixed tyT (gget_nil _) Try.func39 (by rfl) (by kernel_rfl) (by kernel_rfl) fun args M r hr hvc hw hm => ?_
  unfold wlenC at hr
  simp only at hr
  split at hr <;> cases hr
  · conv => cbv
    refine .yes ?_
    conv => cbv
    exact ⟨rfl⟩
  · conv => cbv
    refine .no ?_
    conv => cbv
    exact ⟨rfl⟩
  · conv => cbv
    refine .no ?_
    conv => cbv
    simp [Hold.iff]
end Go.Am
/- alibilaw01.few; the reader that is not there; alibilaw01.VarintNone. -/
namespace Go.Am
set_option linter.all false
set_option linter.deprecated false
open Go.Proofs
set_option maxRecDepth 100000
set_option maxHeartbeats 4000000
abbrev ActS : List Sh := [.int .i64, .int .u64, .int .i64, .slice [.int .u8], .slice [.int .u64]]
def fewOk (c : List D) : Bool := !(decide (60 < (lk c 3).toList.length) || decide (60 < (lk c 4).toList.length) || (decide (100 < (lk c 2).toInt) && decide ((lk c 2).toInt < 1000000000)))
def fewS (xs : List (List D)) : Bool := (xs.take 31).all fewOk && decide (xs.length ≤ 30)
def fewC : Contract := { modes := [.ro], fn := fun args M => match args, M with
  | [.sl _ [.int .i64, .int .u64, .int .i64, .slice [.int .u8], .slice [.int .u64]] xs], [] => some ⟨[], .bool fun _ => fewS (xs ()), []⟩
  | _, _ => none }
structure FwI (x : List (List D)) where
  i : Nat
  hi : i ≤ x.length
  hk : i ≤ 31
  h : (x.take i).all fewOk = true
theorem few_bad {x : List (List D)} {i : Nat} (h1 : i < x.length) (h2 : i < 31) (h : fewOk (lk x i) = false) : fewS x = false := by
  have : (x.take 31).all fewOk = false := by
    rw [List.all_eq_false]
    refine ⟨lk x i, ?_, by rw [h]; simp⟩
    have e : lk x i = (x.take 31)[i]'(by simp; omega) := by simp [lk, List.getD, h1]
    rw [e]
    exact List.getElem_mem _
  rw [fewS, this]; rfl
theorem few_ok : CSound Try.prog 34 fewC := by
  refine fsound' (G := G0) (c := codeOf Try.f34) mixed tyT (gget_nil _) Try.func34 (by rfl) (by kernel_rfl) (by kernel_rfl) fun args M r hr hvc hw hm => ?_
  unfold fewC at hr
  simp only at hr
  split at hr <;> cases hr
  rename_i nn xs
  clear hvc hm
  have hx : xs = fun _ => xs () := rfl
  generalize xs () = x at hx
  subst hx
  simp only [WfVs, WfV, and_true] at hw
  have hx := hw.1
  conv => cbv
  refine LoopP.mk (FwI x) (fun s => ⟨ev 49 [(0, .sl false ActS fun _ => x), (2, .bool fun _ => false), (3, .int .i64 fun _ => (s.i : Int))], [], 8⟩) (fun s => 31 - s.i) ⟨0, Nat.zero_le _, Nat.zero_le _, by simp⟩ ?_ ?_
  · conv => cbv
    exact ⟨⟨rfl⟩, ⟨rfl⟩, ⟨rfl⟩⟩
  · intro ⟨i, hi, hk, h⟩
    have fin : ¬ (i < x.length ∧ i < 31) → fewS x = decide (x.length ≤ 30) := fun hn => by
      have : x.take 31 = x.take i := by
        by_cases h1 : i < x.length
        · have : i = 31 := by omega
          rw [this]
        · rw [List.take_of_length_le (by omega), List.take_of_length_le (by omega)]
      rw [fewS, this, h]; rfl
    conv => cbv
    refine Split.mk (fun h1 => ?_) (fun h1 => ?_)
    · have h1 : (i : Int) < (x.length : Int) := of_decide_eq_true h1
      have h1 : i < x.length := by omega
      conv => cbv
      refine Split.mk (fun h2 => ?_) (fun h2 => ?_)
      · have h2 : (i : Int) < 31 := of_decide_eq_true h2
        have h2 : i < 31 := by omega
        have v1 : 0 ≤ (i : Int) ∧ (i : Int) < (x.length : Int) := by omega
        have hw1 : IntKind.i64.wrap ((i : Int) + 1) = ((i + 1 : Nat) : Int) := by rw [wrap_i64 (by omega)]; omega
        have hlt : 31 - (i + 1) < 31 - i := by omega
        have hi1 : i + 1 ≤ x.length := by omega
        have hbad := few_bad h1 h2
        have hnext : fewOk (lk x i) = true → (x.take (i + 1)).all fewOk = true := fun hh => by
          rw [List.take_add_one, List.getElem?_eq_getElem h1, List.all_append, h]
          have : lk x i = x[i] := by simp [lk, List.getD, h1]
          rw [this] at hh
          simp [hh]
        conv => cbv
        refine ⟨⟨v1⟩, Split.mk (fun hA => ?_) (fun hA => ?_)⟩
        · have hA : (60 : Int) < ((lk (lk x ((i : Int)).toNat) 3).toList.length : Int) := of_decide_eq_true hA
          rw [Int.toNat_natCast] at hA
          have hA : 60 < (lk (lk x i) 3).toList.length := by omega
          have hb := hbad (by simp [fewOk, hA])
          conv => cbv
          repeat (refine .yes ?_; conv => cbv)
          exact ⟨hb.symm⟩
        · have hA : ¬ (60 : Int) < ((lk (lk x ((i : Int)).toNat) 3).toList.length : Int) := of_decide_eq_false hA
          rw [Int.toNat_natCast] at hA
          have hA : ¬ 60 < (lk (lk x i) 3).toList.length := by omega
          conv => cbv
          refine ⟨⟨v1⟩, Split.mk (fun hB => ?_) (fun hB => ?_)⟩
          · have hB : (60 : Int) < ((lk (lk x ((i : Int)).toNat) 4).toList.length : Int) := of_decide_eq_true hB
            rw [Int.toNat_natCast] at hB
            have hB : 60 < (lk (lk x i) 4).toList.length := by omega
            have hb := hbad (by simp [fewOk, hB])
            conv => cbv
            repeat (refine .yes ?_; conv => cbv)
            exact ⟨hb.symm⟩
          · have hB : ¬ (60 : Int) < ((lk (lk x ((i : Int)).toNat) 4).toList.length : Int) := of_decide_eq_false hB
            rw [Int.toNat_natCast] at hB
            have hB : ¬ 60 < (lk (lk x i) 4).toList.length := by omega
            conv => cbv
            refine ⟨⟨v1⟩, Split.mk (fun hC => ?_) (fun hC => ?_)⟩
            · have hC : (100 : Int) < (lk (lk x ((i : Int)).toNat) 2).toInt := of_decide_eq_true hC
              rw [Int.toNat_natCast] at hC
              conv => cbv
              refine ⟨⟨v1⟩, Split.mk (fun hD => ?_) (fun hD => ?_)⟩
              · have hD : (lk (lk x ((i : Int)).toNat) 2).toInt < 1000000000 := of_decide_eq_true hD
                rw [Int.toNat_natCast] at hD
                have hb := hbad (by simp [fewOk, hA, hB, hC, hD])
                conv => cbv
                repeat (refine .yes ?_; conv => cbv)
                exact ⟨hb.symm⟩
              · have hD : ¬ (lk (lk x ((i : Int)).toNat) 2).toInt < 1000000000 := of_decide_eq_false hD
                rw [Int.toNat_natCast] at hD
                have hn := hnext (by simp [fewOk, hA, hB, hC, hD])
                conv => cbv
                repeat (refine .no ?_; conv => cbv)
                refine ⟨⟨i + 1, hi1, h2, hn⟩, hlt, ?_⟩
                conv => cbv
                exact ⟨⟨rfl⟩, ⟨rfl⟩, ⟨hw1⟩⟩
            · have hC : ¬ (100 : Int) < (lk (lk x ((i : Int)).toNat) 2).toInt := of_decide_eq_false hC
              rw [Int.toNat_natCast] at hC
              have hn := hnext (by simp [fewOk, hA, hB, hC])
              conv => cbv
              repeat (refine .no ?_; conv => cbv)
              refine ⟨⟨i + 1, hi1, h2, hn⟩, hlt, ?_⟩
              conv => cbv
              exact ⟨⟨rfl⟩, ⟨rfl⟩, ⟨hw1⟩⟩
      · have h2 : ¬ (i : Int) < 31 := of_decide_eq_false h2
        have e := fin (by omega)
        have e2 : decide ((x.length : Int) ≤ 30) = fewS x := by rw [e, decide_eq_decide]; omega
        conv => cbv
        exact ⟨e2⟩
    · have h1 : ¬ (i : Int) < (x.length : Int) := of_decide_eq_false h1
      have e := fin (by omega)
      have e2 : decide ((x.length : Int) ≤ 30) = fewS x := by rw [e, decide_eq_decide]; omega
      conv => cbv
      refine .no ?_
      conv => cbv
      exact ⟨e2⟩
end Go.Am
/- bytes.Join, crc.Put, crc.Open keep their contracts. -/
namespace Go.Am
set_option linter.all false
set_option linter.deprecated false
open Go.Proofs
set_option maxRecDepth 100000
set_option maxHeartbeats 4000000
theorem noz : CSound Try.prog 89 nozC := noz_ok Try.func89 (by rfl) (by rfl) (by kernel_rfl) (ps := #[3]) (t := 23) (e := 5) (by kernel_rfl) Try.underlying23
def joinC0 : Contract := { modes := [.ro, .ro], fn := fun args M => match args, M with
  | [.sl _ [.slice [.int .u8]] xs, .sl _ [.int .u8] ys], [] => some ⟨[fun _ => (fl (xs ())).length ≤ big, fun _ => ys () = []], .ms 0 (fun _ => 0) (fun _ => (fl (xs ())).length), [(0, some (.row false U8 fun _ => fl (xs ())))]⟩
  | _, _ => none }
def Lj : List (Nat × Contract) := [(89, nozC)]
def Gj : Ctx := fun f => gget Lj f
theorem Gj_ok : ∀ f C, Gj f = some C → CSound Try.prog f C := gget_cons noz (gget_nil _)
theorem copy0 {α : Type} (R : List α) (lo len : Nat) : R.take lo ++ ([] : List α).take len ++ R.drop (lo + min len 0) = R := by simp
theorem copyY {α : Type} (A T Y : List α) (len : Nat) (h : Y.length ≤ len) (hA : A.length + len = T.length) : (A ++ T.drop A.length).take A.length ++ Y.take len ++ (A ++ T.drop A.length).drop (A.length + min len Y.length) = (A ++ Y) ++ T.drop (A ++ Y).length := by
  rw [List.take_left, List.take_of_length_le h, Nat.min_eq_right h, ← List.drop_drop, List.drop_left, List.drop_drop, List.length_append]
theorem join_ok0 : CSound Try.prog 79 joinC0 := by
  refine fsound' (G := Gj) (c := codeOf Try.f79) mixed tyT Gj_ok Try.func79 (by rfl) (by kernel_rfl) (by kernel_rfl) fun args M r hr hvc hw hm => ?_
  unfold joinC0 at hr
  simp only at hr
  split at hr <;> cases hr
  rename_i nn xs mm ys
  have hb : (fl (xs ())).length ≤ big := hvc _ List.mem_cons_self
  have hy : ys () = [] := hvc (fun _ => ys () = []) (List.mem_cons_of_mem _ List.mem_cons_self)
  clear hvc hm
  obtain ⟨x, rfl⟩ : ∃ x, xs = fun _ => x := ⟨xs (), rfl⟩
  obtain ⟨y, rfl⟩ : ∃ x, ys = fun _ => x := ⟨ys (), rfl⟩
  have hb : (fl x).length ≤ 1099511627776 := hb
  have hy : y = [] := hy
  subst hy
  simp only [WfVs, WfV, and_true] at hw
  have hx := hw.1.1
  conv => cbv
  refine Split.mk (fun h => ?_) (fun h => ?_)
  · have h : (x.length : Int) = 0 := eq_t h
    have h : x = [] := List.eq_nil_of_length_eq_zero (by omega)
    conv => cbv
    subst h
    simp [Hold.iff, fl, chunk]
  · have h : (x.length : Int) ≠ 0 := eq_f h
    conv => cbv
    refine Split.mk (fun h1 => ?_) (fun h1 => ?_)
    · have h1 : (x.length : Int) = 1 := eq_t h1
      have h2 : fl x = (lk (lk x 0) 0).toList := by
        match x, h1 with
        | [a], _ => simp [fl, lk]
      have hB : (0 : Int) ≤ 0 ∧ (0 : Int) < (x.length : Int) := by omega
      conv => cbv
      refine ⟨⟨hB⟩, ⟨?_⟩, ⟨rfl, ?_⟩, ⟨?_⟩⟩
      · show ((lk (lk x 0) 0).toList).length ≤ 1099511627776
        rw [← h2]; exact hb
      · show ((lk (lk x 0) 0).toList).length = (fl x).length
        rw [h2]
      · exact h2.symm
    · have h1 : (x.length : Int) ≠ 1 := eq_f h1
      conv => cbv
      refine .ofF (by decide) ?_
      conv => cbv
      refine LoopP.mk {i : Nat // i ≤ x.length} (fun i => ⟨ev 92 [(0, .sl false [.slice U8] fun _ => x), (1, .sl false U8 fun _ => []), (4, .nils), (5, .int .i64 fun _ => ((fl (x.take i.1)).length : Int)), (42, .sl false [.slice U8] fun _ => x), (43, .int .i64 fun _ => x.length), (44, .int .i64 fun _ => (i.1 : Int))], [], 8⟩) (fun i => x.length - i.1) ⟨0, Nat.zero_le _⟩ ?_ ?_
      · conv => cbv
        exact ⟨⟨rfl⟩, ⟨rfl⟩, ⟨rfl⟩, ⟨rfl⟩, ⟨rfl⟩, ⟨rfl⟩⟩
      · intro ⟨i, hi⟩
        conv => cbv
        refine Split.mk (fun h3 => ?_) (fun h3 => ?_)
        · have h3 : (i : Int) < x.length := of_decide_eq_true h3
          have h3 : i < x.length := by omega
          have hB : 0 ≤ (i : Int) ∧ (i : Int) < (x.length : Int) := by omega
          have h4 := fl_len_take h3
          have h5 := fl_take h3
          have hw1 : IntKind.i64.wrap ((i : Int) + 1) = ((i + 1 : Nat) : Int) := by rw [wrap_i64 (by omega)]; omega
          have hw2 : ¬ (IntKind.i64.wrap (9223372036854775807 - ((fl (x.take i)).length : Int)) < (((lk (lk x ((i : Int)).toNat) 0).toList).length : Int)) := by
            rw [wrap_i64 (by omega), Int.toNat_natCast]; omega
          have hlt : i + 1 ≤ x.length ∧ x.length - (i + 1) < x.length - i := by omega
          have hs2 : IntKind.i64.wrap (((fl (x.take i)).length : Int) + (((lk (lk x ((i : Int)).toNat) 0).toList).length : Int)) = ((fl (x.take (i + 1))).length : Int) := by
            rw [h5, Int.toNat_natCast, wrap_i64 (by omega)]; simp
          conv => cbv
          refine ⟨⟨hB⟩, .ofF (decide_eq_false hw2) ?_⟩
          conv => cbv
          refine ⟨⟨i + 1, hlt.1⟩, hlt.2, ?_⟩
          conv => cbv
          exact ⟨⟨rfl⟩, ⟨rfl⟩, ⟨hs2⟩, ⟨rfl⟩, ⟨rfl⟩, ⟨hw1⟩⟩
        · have h3 : ¬ (i : Int) < x.length := of_decide_eq_false h3
          have hi2 : i = x.length := by omega
          have e : x.take i = x := List.take_of_length_le (by omega)
          have hbig : ((big : Nat) : Int) = 1099511627776 := rfl
          have hp : 0 ≤ ((fl (x.take i)).length : Int) ∧ ((fl (x.take i)).length : Int) ≤ (big : Int) := by rw [e, hbig]; omega
          conv => cbv
          refine ⟨⟨hp⟩, fun d hd => ?_⟩
          have hdl : d.toList.length = (((fl (x.take i)).length : Int)).toNat := hd.1
          clear hd
          have hdl : d.toList.length = (fl x).length := by rw [hdl, e]; simp
          have v1 : (0 : Int) ≤ 0 ∧ (0 : Int) ≤ ((fl (x.take i)).length : Int) ∧ ((fl (x.take i)).length : Int) ≤ ((fl (x.take i)).length : Int) ∧ ((fl (x.take i)).length : Int) ≤ (((((fl (x.take i)).length : Int)).toNat : Nat) : Int) := by omega
          have v2 : (0 : Int) ≤ 0 ∧ (0 : Int) < (x.length : Int) := by omega
          have v3 : 0 + (0 : Int).toNat + ((((fl (x.take i)).length : Int)).toNat - (0 : Int).toNat) ≤ d.toList.length := by rw [hdl, e]; simp
          have v4 : (0 : Int) ≤ 1 ∧ (1 : Int) ≤ (x.length : Int) ∧ (x.length : Int) ≤ (x.length : Int) ∧ (x.length : Int) ≤ (x.length : Int) := by omega
          have hx0 : 0 < x.length := by omega
          have f1 := fl_take hx0
          have f2 := fl_len_take hx0
          simp only [List.take_zero, fl, List.map_nil, List.flatten_nil, List.nil_append, List.length_nil, Nat.zero_add] at f1 f2
          rw [← fl] at f1 f2
          conv => cbv
          refine ⟨⟨v1⟩, ⟨v2⟩, ⟨v3⟩, ⟨v4⟩, LoopP.mk {j : Nat // j + 1 ≤ x.length} (fun j => ⟨ev 92 [(0, .sl false [.slice U8] fun _ => x), (1, .sl false U8 fun _ => []), (8, .ms 0 (fun _ => 0) (fun _ => (fl x).length)), (9, .int .i64 fun _ => ((fl (x.take (j.1 + 1))).length : Int)), (70, .sl false [.slice U8] fun _ => x.drop 1), (71, .int .i64 fun _ => (x.length : Int) - 1), (72, .int .i64 fun _ => (j.1 : Int))],
            [(0, .row true U8 fun _ => fl (x.take (j.1 + 1)) ++ d.toList.drop (fl (x.take (j.1 + 1))).length)], 8⟩) (fun j => x.length - j.1) ⟨0, hx0⟩ ?_ ?_⟩
          · have w0 : (((fl (x.take i)).length : Int)).toNat - (0 : Int).toNat = (fl x).length := by rw [e]; simp
            have w1 : ((min ((((fl (x.take i)).length : Int)).toNat - (0 : Int).toNat) ((lk (lk x 0) 0).toList).length : Nat) : Int) = ((fl (x.take (0 + 1))).length : Int) := by
              rw [w0, f1]; omega
            have w2 : List.take ((x.length : Int).toNat - (1 : Int).toNat) (List.drop (1 : Int).toNat x) = x.drop 1 := List.take_of_length_le (by simp)
            have w3 : ((List.take ((x.length : Int).toNat - (1 : Int).toNat) (List.drop (1 : Int).toNat x)).length : Int) = (x.length : Int) - 1 := by rw [w2]; simp; omega
            have w4 := copyY [] d.toList (lk (lk x 0) 0).toList (fl x).length f2 (by simp; exact hdl.symm)
            simp only [List.length_nil, List.drop_zero, List.nil_append, List.take_zero, Nat.zero_add] at w4
            conv => cbv
            refine ⟨⟨rfl⟩, ⟨rfl⟩, ⟨rfl, w0⟩, ⟨w1⟩, ⟨w2⟩, ⟨w3⟩, ⟨rfl⟩, ⟨?_⟩⟩
            show d.toList.take (0 + (0 : Int).toNat) ++ ((lk (lk x 0) 0).toList).take ((((fl (x.take i)).length : Int)).toNat - (0 : Int).toNat) ++ d.toList.drop (0 + (0 : Int).toNat + min ((((fl (x.take i)).length : Int)).toNat - (0 : Int).toNat) ((lk (lk x 0) 0).toList).length) = fl (x.take (0 + 1)) ++ d.toList.drop (fl (x.take (0 + 1))).length
            rw [w0, f1]
            simpa using w4
          · intro ⟨j, hj⟩
            conv => cbv
            refine Split.mk (fun h4 => ?_) (fun h4 => ?_)
            · have h4 : (j : Int) < (x.length : Int) - 1 := of_decide_eq_true h4
              have hj1 : j + 1 < x.length := by omega
              have g1 := fl_take hj1
              have g2 := fl_len_take hj1
              have gd : lk (x.drop 1) j = lk x (j + 1) := by simp [lk, List.getD, List.getElem?_drop, Nat.add_comm]
              have y1 : 0 ≤ (j : Int) ∧ (j : Int) < ((x.drop 1).length : Int) := by simp; omega
              have y2 : 0 ≤ ((fl (x.take (j + 1))).length : Int) ∧ ((fl (x.take (j + 1))).length : Int) ≤ ((fl x).length : Int) ∧ ((fl x).length : Int) ≤ ((fl x).length : Int) ∧ ((fl x).length : Int) ≤ ((fl x).length : Int) := by omega
              have yl : (fl (x.take (j + 1)) ++ d.toList.drop (fl (x.take (j + 1))).length).length = (fl x).length := by simp; omega
              have y3 : 0 + (((fl (x.take (j + 1))).length : Int)).toNat + ((((fl x).length : Int)).toNat - (((fl (x.take (j + 1))).length : Int)).toNat) ≤ (fl (x.take (j + 1)) ++ d.toList.drop (fl (x.take (j + 1))).length).length := by rw [yl]; omega
              have yw : IntKind.i64.wrap (((fl (x.take (j + 1))).length : Int) + ((0 : Nat) : Int)) = ((fl (x.take (j + 1))).length : Int) := by rw [wrap_i64] <;> omega
              conv => cbv
              refine ⟨⟨y1⟩, ⟨y2⟩, ⟨y3⟩, ⟨?_⟩, ⟨?_⟩, ⟨j + 1, hj1⟩, ?_, ?_⟩
              · simp only [Int.toNat_natCast, List.length_nil, Nat.min_zero, yw]
                exact y2
              · simp only [Int.toNat_natCast, List.length_nil, Nat.min_zero, yw, List.take_nil, List.append_nil, Nat.add_zero, List.take_append_drop, yl]
                omega
              · simp only; omega
              · have k1 : IntKind.i64.wrap ((j : Int) + 1) = ((j + 1 : Nat) : Int) := by rw [wrap_i64 (by omega)]; omega
                have k2 : min ((fl x).length - (fl (x.take (j + 1))).length) ((lk (lk x (j + 1)) 0).toList).length = ((lk (lk x (j + 1)) 0).toList).length := by omega
                have k3 : IntKind.i64.wrap (((fl (x.take (j + 1))).length : Int) + (((lk (lk x (j + 1)) 0).toList).length : Int)) = ((fl (x.take (j + 1 + 1))).length : Int) := by
                  rw [g1, wrap_i64 (by omega)]; simp
                have k4 := copyY (fl (x.take (j + 1))) d.toList (lk (lk x (j + 1)) 0).toList ((fl x).length - (fl (x.take (j + 1))).length) (by omega) (by omega)
                rw [k2, ← g1] at k4
                conv => cbv
                refine ⟨⟨rfl⟩, ⟨rfl⟩, ⟨rfl, rfl⟩, ⟨?_⟩, ⟨rfl⟩, ⟨rfl⟩, ⟨k1⟩, ⟨?_⟩⟩
                · simp only [Int.toNat_natCast, List.length_nil, Nat.min_zero, yw, gd, k2]
                  exact k3
                · simp only [Int.toNat_natCast, List.length_nil, Nat.min_zero, yw, gd, k2, List.take_nil, List.append_nil, Nat.add_zero, Nat.zero_add, List.take_append_drop]
                  exact k4
            · have h4 : ¬ (j : Int) < (x.length : Int) - 1 := of_decide_eq_false h4
              have hjx : j + 1 = x.length := by omega
              have e2 : x.take (j + 1) = x := List.take_of_length_le (by omega)
              conv => cbv
              refine ⟨⟨rfl, rfl⟩, ⟨?_⟩⟩
              show fl (x.take (j + 1)) ++ d.toList.drop (fl (x.take (j + 1))).length = fl x
              rw [e2]
              simp [List.drop_of_length_le, hdl]
def joinC : Contract := { modes := [.ro, .ro], fn := fun args M => match args, M with
  | [.sl _ [.slice [.int .u8]] xs, .nils], [] => some ⟨[fun _ => (fl (xs ())).length ≤ big], .ms 0 (fun _ => 0) (fun _ => (fl (xs ())).length), [(0, some (.row false U8 fun _ => fl (xs ())))]⟩
  | _, _ => none }
theorem join_ok : CSound Try.prog 79 joinC := csound_weak join_ok0 fun args M r hr hvc hw => by
  unfold joinC at hr
  simp only at hr
  split at hr <;> cases hr
  rename_i nn xs
  have hb : (fl (xs ())).length ≤ big := hvc _ (List.mem_singleton.2 rfl)
  refine ⟨[.sl nn [.slice U8] xs, .sl false U8 fun _ => []], _, rfl, fun p hp => ?_, rfl, rfl, fun w I σ vs h => ?_⟩
  · rcases List.mem_cons.1 hp with rfl | hp
    · exact hb
    · rw [List.mem_singleton.1 hp]
  · simp only [VRs] at h ⊢
    obtain ⟨u, us, rfl, h1, u2, us2, rfl, h2, rfl⟩ := h
    exact ⟨u, [u2], rfl, h1, u2, [], rfl, nils_sl (by decide) h2, rfl⟩
end Go.Am
/- crc.Put, crc.Open keep their contracts. -/
namespace Go.Am
set_option linter.all false
set_option linter.deprecated false
open Go.Proofs
set_option maxRecDepth 100000
set_option maxHeartbeats 4000000
def crcB (xs : List (List D)) : List Nat := st4 (crcs 0 (bn xs)).toNat
@[simp] theorem crcB_len (xs : List (List D)) : (crcB xs).length = 4 := rfl
@[simp] theorem st4_take (k : Nat) : List.take 4 (rowB (st4 k)) = rowB (st4 k) := List.take_of_length_le (by simp [st4])
def cputC : Contract := { modes := [.ro], fn := fun args M => match args, M with
  | [.sl _ [.slice [.int .u8]] xs], [] => some ⟨[fun _ => (fl (xs ())).length + 4 ≤ big], .ms 0 (fun _ => 0) (fun _ => (fl (xs ())).length + 4), [(0, some (.row false U8 fun _ => fl (xs ()) ++ rowB (crcB (fl (xs ())))))]⟩
  | _, _ => none }
def Lc4 : List (Nat × Contract) := [(79, joinC), (33, sumC), (75, stC)]
def Gc4 : Ctx := fun f => gget Lc4 f
theorem Gc4_ok : ∀ f C, Gc4 f = some C → CSound Try.prog f C := gget_cons join_ok (gget_cons sum_ok (gget_cons stands_ok (gget_nil _)))
theorem cput_ok : CSound Try.prog 31 cputC := by
  refine fsound' (G := Gc4) (c := codeOf Try.f31) mixed tyT Gc4_ok Try.func31 (by rfl) (by kernel_rfl) (by kernel_rfl) fun args M r hr hvc hw hm => ?_
  unfold cputC at hr
  simp only at hr
  split at hr <;> cases hr
  rename_i nn xs
  have hb : (fl (xs ())).length + 4 ≤ big := hvc _ (List.mem_singleton.2 rfl)
  clear hvc hm hw
  have hx : xs = fun _ => xs () := rfl
  generalize xs () = x at hx hb
  subst hx
  have hb1 : (fl x).length ≤ big := by omega
  have hb2 : (fl x).length < 9223372036854775808 := by simp only [big] at hb; omega
  conv => cbv
  refine ⟨⟨hb1⟩, ⟨hb2⟩, ⟨rfl⟩, ⟨Nat.le_refl _⟩, ⟨hb⟩, ⟨by simp [st4]⟩, ⟨rfl, rfl⟩, ⟨?_⟩⟩
  show (fl x).take (fl x).length ++ _ = _
  rw [List.take_length]
  rfl
def openS (xs : List (List D)) : List (List D) × Int :=
  if xs.length < 4 then ([], 4) else
  if bn (xs.drop (xs.length - 4)) = crcB (xs.take (xs.length - 4)) then (xs.take (xs.length - 4), 0) else ([], 20)
def openC : Contract := { modes := [.ro], fn := fun args M => match args, M with
  | [.sl _ [.int .u8] xs], [] => some ⟨[fun _ => (xs ()).length ≤ big], .tup [.ms 0 (fun _ => 0) (fun _ => (openS (xs ())).1.length), .int .i64 fun _ => (openS (xs ())).2], [(0, some (.row false U8 fun _ => (openS (xs ())).1))]⟩
  | _, _ => none }
def Lc5 : List (Nat × Contract) := [(33, sumC), (75, stC), (74, sameC), (76, cloneC)]
def Gc5 : Ctx := fun f => gget Lc5 f
theorem Gc5_ok : ∀ f C, Gc5 f = some C → CSound Try.prog f C := gget_cons sum_ok (gget_cons stands_ok (gget_cons bequal_ok (gget_cons clone_ok (gget_nil _))))
theorem open_ok : CSound Try.prog 28 openC := by
  refine fsound' (G := Gc5) (c := codeOf Try.f28) mixed tyT Gc5_ok Try.func28 (by rfl) (by kernel_rfl) (by kernel_rfl) fun args M r hr hvc hw hm => ?_
  unfold openC at hr
  simp only at hr
  split at hr <;> cases hr
  rename_i nn xs
  have hb : (xs ()).length ≤ big := hvc _ (List.mem_singleton.2 rfl)
  clear hvc hm
  have hx : xs = fun _ => xs () := rfl
  generalize xs () = x at hx hb
  subst hx
  simp only [WfVs, WfV, and_true] at hw
  have hb : x.length ≤ 1099511627776 := hb
  have hw1 : IntKind.i64.wrap ((x.length : Int) - 4) = (x.length : Int) - 4 := wrap_i64 (by omega)
  conv => cbv
  refine Split.mk (fun h => ?_) (fun h => ?_)
  · have h := of_decide_eq_true h
    simp only [hw1] at h
    have e : openS x = ([], 4) := by rw [openS, if_pos (by omega)]
    conv => cbv
    simp [Hold.iff, e]
  · have h := of_decide_eq_false h
    simp only [hw1] at h
    obtain ⟨n, hn⟩ : ∃ n, x.length = n + 4 := ⟨x.length - 4, by omega⟩
    have hw2 : IntKind.i64.wrap ((x.length : Int) - 4) = (n : Int) := by rw [hw1]; omega
    have v1 : 0 ≤ IntKind.i64.wrap ((x.length : Int) - 4) ∧ IntKind.i64.wrap ((x.length : Int) - 4) ≤ (x.length : Int) ∧ (x.length : Int) ≤ (x.length : Int) ∧ (x.length : Int) ≤ (x.length : Int) := by rw [hw2]; omega
    have v2 : (0 : Int) ≤ 0 ∧ (0 : Int) ≤ IntKind.i64.wrap ((x.length : Int) - 4) ∧ IntKind.i64.wrap ((x.length : Int) - 4) ≤ IntKind.i64.wrap ((x.length : Int) - 4) ∧ IntKind.i64.wrap ((x.length : Int) - 4) ≤ (x.length : Int) := by rw [hw2]; omega
    have e1 : openS x = if bn (x.drop n) = crcB (x.take n) then (x.take n, 0) else ([], 20) := by rw [openS, if_neg (by omega), show x.length - 4 = n by omega]
    have hn4 : (x.drop n).take (x.length - n) = x.drop n := List.take_of_length_le (by simp)
    conv => cbv
    refine ⟨⟨v1⟩, ⟨v2⟩, ⟨by simp [chunk]⟩, ⟨?_⟩, ⟨by simp [st4]⟩, Split.mk (fun h2 => ?_) (fun h2 => ?_)⟩
    · simp [chunk, fl, lk, D.toList, hw2]; omega
    · simp [chunk, fl, lk, D.toList, hw2, hn4] at h2
      rw [if_neg (by intro hh; exact h2 (by simpa [crcB] using hh))] at e1
      conv => cbv
      simp [Hold.iff, e1]
    · simp [chunk, fl, lk, D.toList, hw2, hn4] at h2
      rw [if_pos (by simpa [crcB] using h2)] at e1
      conv => cbv
      simp [Hold.iff, e1, hw2]
      simp only [big]; omega
end Go.Am
/- alibilaw02.works keeps its contract: it returns true. -/
namespace Go.Am
set_option linter.all false
set_option linter.deprecated false
open Go.Proofs
set_option maxRecDepth 100000
set_option maxHeartbeats 4000000
def Lc6 : List (Nat × Contract) := [(28, openC), (33, sumC), (31, cputC), (22, sameC)]
def Gc6 : Ctx := fun f => gget Lc6 f
theorem Gc6_ok : ∀ f C, Gc6 f = some C → CSound Try.prog f C := gget_cons open_ok (gget_cons sum_ok (gget_cons cput_ok (gget_cons same_ok (gget_nil _))))
theorem works2_ok : CSound Try.prog 27 trueC := by
  refine fsound' (G := Gc6) (c := codeOf Try.f27) mixed tyT Gc6_ok Try.func27 (by rfl) (by kernel_rfl) (by kernel_rfl) fun args M r hr hvc hw hm => ?_
  unfold trueC at hr
  simp only at hr
  split at hr <;> cases hr
  clear hvc hm hw
  conv => cbv
  repeat (first | refine ⟨⟨by decide +kernel⟩, ?_⟩ | (refine .ofT (by decide +kernel) ?_; conv => cbv))
  exact ⟨by decide +kernel⟩
end Go.Am
/- The check of bytes: it is linear; a short change is seen. -/
namespace Go.Am
set_option linter.all false
set_option linter.deprecated false
theorem csh_xor (a b : B32) : csh (a ^^^ b) = csh a ^^^ csh b := by
  have e : ∀ r : B32, cpoly &&& -(r &&& 1#32) = if r.getLsbD 0 then cpoly else 0#32 := by
    intro r
    have h1 : r &&& 1#32 = if r.getLsbD 0 then 1#32 else 0#32 := by
      apply BitVec.eq_of_getLsbD_eq
      intro i hi
      cases i with
      | zero => cases h : r.getLsbD 0 <;> simp only [BitVec.getLsbD_and, h] <;> rfl
      | succ i => cases h : r.getLsbD 0 <;> simp [BitVec.getLsbD_one]
    rw [h1]
    split
    · simp only [cpoly]; decide
    · simp only [cpoly]; decide
  simp only [csh, e, BitVec.getLsbD_xor]
  apply BitVec.eq_of_getLsbD_eq
  intro i hi
  simp only [BitVec.getLsbD_xor, BitVec.getLsbD_ushiftRight]
  cases a.getLsbD 0 <;> cases b.getLsbD 0 <;> simp <;> cases a.getLsbD (1 + i) <;> cases b.getLsbD (1 + i) <;> cases cpoly.getLsbD i <;> rfl
theorem citer_xor : ∀ (n : Nat) (a b : B32), citer n (a ^^^ b) = citer n a ^^^ citer n b
  | 0, _, _ => rfl
  | n + 1, a, b => by simp only [citer, csh_xor, citer_xor n]
theorem ofNat_xor32 (a b : Nat) : BitVec.ofNat 32 (a ^^^ b) = BitVec.ofNat 32 a ^^^ BitVec.ofNat 32 b := by
  apply BitVec.eq_of_getLsbD_eq
  intro i hi
  simp [BitVec.getLsbD_ofNat, hi]
theorem not_xor3 (a b c : B32) : ~~~ (a ^^^ b ^^^ c) = ~~~ a ^^^ ~~~ b ^^^ ~~~ c := by
  apply BitVec.eq_of_getLsbD_eq
  intro i hi
  simp only [BitVec.getLsbD_not, BitVec.getLsbD_xor, hi, decide_true, Bool.true_and]
  cases a.getLsbD i <;> cases b.getLsbD i <;> cases c.getLsbD i <;> rfl
theorem cbyte_xor3 (s t u : B32) (a b c : Nat) : cbyte (s ^^^ t ^^^ u) (a ^^^ b ^^^ c) = cbyte s a ^^^ cbyte t b ^^^ cbyte u c := by
  simp only [cbyte, ofNat_xor32, not_xor3]
  have e : ∀ (p q r x y z : B32), p ^^^ q ^^^ r ^^^ (x ^^^ y ^^^ z) = (p ^^^ x) ^^^ (q ^^^ y) ^^^ (r ^^^ z) := by
    intro p q r x y z
    ac_rfl
  rw [e, citer_xor, citer_xor, not_xor3]
def xor3 : List Nat → List Nat → List Nat → List Nat
  | a :: ws, b :: bs, c :: cs => (a ^^^ b ^^^ c) :: xor3 ws bs cs
  | _, _, _ => []
theorem crcs_xor3 : ∀ (ws bs cs : List Nat) (s t u : B32), ws.length = bs.length → bs.length = cs.length → crcs (s ^^^ t ^^^ u) (xor3 ws bs cs) = crcs s ws ^^^ crcs t bs ^^^ crcs u cs
  | [], [], [], _, _, _, _, _ => rfl
  | a :: ws, b :: bs, c :: cs, s, t, u, h1, h2 => by
    simp only [xor3, crcs, List.foldl_cons, cbyte_xor3]
    exact crcs_xor3 ws bs cs _ _ _ (by simpa using h1) (by simpa using h2)
  | [], [], _ :: _, _, _, _, _, h => by simp at h
  | [], _ :: _, _, _, _, _, h, _ => by simp at h
  | _ :: _, [], _, _, _, _, h, _ => by simp at h
  | _ :: _, _ :: _, [], _, _, _, _, h => by simp at h
theorem xor3_len : ∀ (ws bs cs : List Nat), (xor3 ws bs cs).length = min ws.length (min bs.length cs.length)
  | [], _, _ => by simp [xor3]
  | _ :: _, [], _ => by simp [xor3]
  | _ :: _, _ :: _, [] => by simp [xor3]
  | _ :: ws, _ :: bs, _ :: cs => by simp [xor3, xor3_len ws bs cs]
theorem xor3_get : ∀ (ws bs cs : List Nat) (i : Nat), i < ws.length → i < bs.length → i < cs.length → (xor3 ws bs cs)[i]? = some (ws.getD i 0 ^^^ bs.getD i 0 ^^^ cs.getD i 0)
  | a :: ws, b :: bs, c :: cs, 0, _, _, _ => rfl
  | a :: ws, b :: bs, c :: cs, i + 1, h1, h2, h3 => by
    simp only [xor3, List.getElem?_cons_succ]
    rw [xor3_get ws bs cs i (by simpa using h1) (by simpa using h2) (by simpa using h3)]
    rfl
  | [], _, _, _, h, _, _ => by simp at h
  | _ :: _, [], _, _, _, h, _ => by simp at h
  | _ :: _, _ :: _, [], _, _, _, h => by simp at h
theorem ib_xor8 (a b : Nat) (ha : a < 256) (hb : b < 256) : ibits .xor .u8 (a : Int) (b : Int) = ((a ^^^ b : Nat) : Int) := by
  show IntKind.u8.wrap (((BitVec.ofInt 8 (a : Int) ^^^ BitVec.ofInt 8 (b : Int) : BitVec 8).toNat : Nat) : Int) = _
  have e : ∀ x : Nat, x < 256 → BitVec.ofInt 8 (x : Int) = BitVec.ofNat 8 x := fun x hx => by
    apply BitVec.eq_of_toNat_eq
    rw [BitVec.toNat_ofInt, BitVec.toNat_ofNat]
    omega
  have h : a ^^^ b < 256 := Nat.xor_lt_two_pow (n := 8) ha hb
  rw [e a ha, e b hb, BitVec.toNat_xor, BitVec.toNat_ofNat, BitVec.toNat_ofNat, Nat.mod_eq_of_lt ha, Nat.mod_eq_of_lt hb, wrap_u8_mod]
  omega
end Go.Am
/- alibilaw02.CrcJoins keeps its contract: it returns true. -/
namespace Go.Am
set_option linter.all false
set_option linter.deprecated false
open Go.Proofs
set_option maxRecDepth 100000
set_option maxHeartbeats 4000000
def joinsC : Contract := { modes := [], fn := fun args M => match args, M with
  | [.sl _ [.int .u8] _, .sl _ [.int .u8] _, .sl _ [.int .u8] _], [] => some ⟨[], .bool (fun _ => true), []⟩
  | _, _ => none }
def Lc7 : List (Nat × Contract) := [(27, trueC), (33, sumC)]
def Gc7 : Ctx := fun f => gget Lc7 f
theorem Gc7_ok : ∀ f C, Gc7 f = some C → CSound Try.prog f C := gget_cons works2_ok (gget_cons sum_ok (gget_nil _))
@[simp] theorem chunk11 (f : Unit → D) : List.map dall (chunk 1 1 [f]) = [[f ()]] := rfl
@[simp] theorem fl_one (ys : List (List D)) : fl [[D.list ys]] = ys := by simp [fl, lk, D.toList]
theorem getD_take {b : List Nat} {n i : Nat} (h : i < n) : (b.take n).getD i 0 = b.getD i 0 := by simp [List.getD, List.getElem?_take, h]
theorem set_next {α : Type} {A : List α} {m : Nat} {z v : α} {i : Nat} (h : A.length = i) : (A ++ List.replicate (m + 1) z).set i v = A ++ [v] ++ List.replicate m z := by
  subst h
  rw [List.set_append_right _ _ (Nat.le_refl _), Nat.sub_self, List.replicate_succ, List.set_cons_zero]
  simp
theorem joins_ok : CSound Try.prog 7 joinsC := by
  refine fsound' (G := Gc7) (c := codeOf Try.f7) mixed tyT Gc7_ok Try.func7 (by rfl) (by kernel_rfl) (by kernel_rfl) fun args M r hr hvc hw hm => ?_
  unfold joinsC at hr
  simp only at hr
  split at hr <;> cases hr
  rename_i n1 a n2 b n3 c
  clear hvc hm
  have hx : a = fun _ => a () := rfl
  generalize a () = a at hx
  subst hx
  have hx : b = fun _ => b () := rfl
  generalize b () = b at hx
  subst hx
  have hx : c = fun _ => c () := rfl
  generalize c () = c at hx
  subst hx
  simp only [WfVs, WfV, and_true] at hw
  obtain ⟨ha, hb, hc⟩ := hw
  have ha1 := ha.1
  have hb1 := hb.1
  have hc1 := hc.1
  obtain ⟨n, hn⟩ : ∃ n : Nat, n = min a.length (min b.length c.length) := ⟨_, rfl⟩
  have hmin : min (min (a.length : Int) (b.length : Int)) (c.length : Int) = (n : Int) := by omega
  conv => cbv
  refine Split.mk (fun h => ?_) (fun h => ?_)
  · conv => cbv
    exact ⟨rfl⟩
  · have h := of_decide_eq_false h
    simp only [hmin] at h
    have h400 : n ≤ 400 := by omega
    have hbg : ((big : Nat) : Int) = 1099511627776 := rfl
    have v1 : 0 ≤ min (min (a.length : Int) (b.length : Int)) (c.length : Int) ∧ min (min (a.length : Int) (b.length : Int)) (c.length : Int) ≤ (big : Int) := by rw [hmin, hbg]; omega
    conv => cbv
    refine ⟨⟨rfl⟩, ⟨v1⟩, LoopP.mk {i : Nat // i ≤ n} (fun i => ⟨ev 68 [(0, .sl false U8 fun _ => a), (1, .sl false U8 fun _ => b), (2, .sl false U8 fun _ => c), (6, .bool fun _ => false), (7, .int .i64 fun _ => (n : Int)), (8, .ms 0 (fun _ => 0) (fun _ => n)), (9, .int .i64 fun _ => (i.1 : Int))],
      [(0, .row true U8 fun _ => rowB ((xor3 (bn (a.take n)) (bn (b.take n)) (bn (c.take n))).take i.1) ++ List.replicate (n - i.1) [D.int 0])], 8⟩) (fun i => n - i.1) ⟨0, Nat.zero_le _⟩ ?_ ?_⟩
    · have w1 : ((min (min (a.length : Int) (b.length : Int)) (c.length : Int))).toNat = n := by rw [hmin]; simp
      conv => cbv
      refine ⟨⟨rfl⟩, ⟨rfl⟩, ⟨rfl⟩, ⟨rfl⟩, ⟨hmin⟩, ⟨rfl, w1⟩, ⟨rfl⟩, ⟨?_⟩⟩
      show List.replicate ((min (min (a.length : Int) (b.length : Int)) (c.length : Int))).toNat [D.int 0] = _
      rw [w1]
      simp [rowB]
    · intro ⟨i, hi⟩
      have la : (a.take n).length = n := by simp; omega
      have lb : (b.take n).length = n := by simp; omega
      have lc : (c.take n).length = n := by simp; omega
      have lx : (xor3 (bn (a.take n)) (bn (b.take n)) (bn (c.take n))).length = n := by rw [xor3_len, bn_len, bn_len, bn_len, la, lb, lc]; omega
      conv => cbv
      refine Split.mk (fun h => ?_) (fun h => ?_)
      · have h : (i : Int) < (n : Int) := of_decide_eq_true h
        have h : i < n := by omega
        have v1 : 0 ≤ (i : Int) ∧ (i : Int) < (a.length : Int) := by omega
        have v2 : 0 ≤ (i : Int) ∧ (i : Int) < (b.length : Int) := by omega
        have v3 : 0 ≤ (i : Int) ∧ (i : Int) < (c.length : Int) := by omega
        have v4 : 0 ≤ (i : Int) ∧ (i : Int) < (n : Int) := by omega
        have v5 : 0 + ((i : Int)).toNat < (rowB ((xor3 (bn (a.take n)) (bn (b.take n)) (bn (c.take n))).take i) ++ List.replicate (n - i) [D.int 0]).length := by
          simp [lx]; omega
        have hw1 : IntKind.i64.wrap ((i : Int) + 1) = ((i + 1 : Nat) : Int) := by rw [wrap_i64 (by omega)]; omega
        have hlt : i + 1 ≤ n ∧ n - (i + 1) < n - i := by omega
        have q1 := bn_at ha (show i < a.length by omega)
        have q2 := bn_at hb (show i < b.length by omega)
        have q3 := bn_at hc (show i < c.length by omega)
        have p1 : (bn a).getD i 0 < 256 := bn_lt ha _ (by have : i < a.length := by omega
                                                          simp [List.getD, this])
        have p2 : (bn b).getD i 0 < 256 := bn_lt hb _ (by have : i < b.length := by omega
                                                          simp [List.getD, this])
        have p3 : (bn c).getD i 0 < 256 := bn_lt hc _ (by have : i < c.length := by omega
                                                          simp [List.getD, this])
        have q4 : ibits .xor .u8 (ibits .xor .u8 ((lk (lk a i) 0).toInt) ((lk (lk b i) 0).toInt)) ((lk (lk c i) 0).toInt) = (((bn a).getD i 0 ^^^ (bn b).getD i 0 ^^^ (bn c).getD i 0 : Nat) : Int) := by
          rw [q1, q2, q3, ib_xor8 _ _ p1 p2, ib_xor8 _ _ (Nat.xor_lt_two_pow (n := 8) p1 p2) p3]
        have q5 : (xor3 (bn (a.take n)) (bn (b.take n)) (bn (c.take n))).take (i + 1) = (xor3 (bn (a.take n)) (bn (b.take n)) (bn (c.take n))).take i ++ [(bn a).getD i 0 ^^^ (bn b).getD i 0 ^^^ (bn c).getD i 0] := by
          rw [List.take_add_one, xor3_get _ _ _ i (by simp; omega) (by simp; omega) (by simp; omega), bn_take, bn_take, bn_take, getD_take h, getD_take h, getD_take h]
          rfl
        have q6 : (rowB ((xor3 (bn (a.take n)) (bn (b.take n)) (bn (c.take n))).take i)).length = i := by simp [lx]; omega
        have q7 := set_next (m := n - (i + 1)) (z := [D.int 0]) (v := [D.int (((bn a).getD i 0 ^^^ (bn b).getD i 0 ^^^ (bn c).getD i 0 : Nat) : Int)]) q6
        rw [show n - (i + 1) + 1 = n - i by omega] at q7
        conv => cbv
        refine ⟨⟨v1⟩, ⟨v2⟩, ⟨v3⟩, ⟨v4⟩, ⟨v5⟩, ⟨i + 1, hlt.1⟩, hlt.2, ?_⟩
        conv => cbv
        refine ⟨⟨rfl⟩, ⟨rfl⟩, ⟨rfl⟩, ⟨rfl⟩, ⟨rfl⟩, ⟨rfl, rfl⟩, ⟨hw1⟩, ⟨?_⟩⟩
        simp only [dall_one, Int.toNat_natCast, q4, q5, rowB_append, rowB_one, Nat.zero_add]
        exact q7
      · have h : ¬ (i : Int) < (n : Int) := of_decide_eq_false h
        have hin : i = n := by omega
        have r1 : (xor3 (bn (a.take n)) (bn (b.take n)) (bn (c.take n))).take n = xor3 (bn (a.take n)) (bn (b.take n)) (bn (c.take n)) := List.take_of_length_le (by omega)
        have r2 : (rowB (xor3 (bn (a.take n)) (bn (b.take n)) (bn (c.take n)))).take n = rowB (xor3 (bn (a.take n)) (bn (b.take n)) (bn (c.take n))) := List.take_of_length_le (by simp [lx])
        have r3 := crcs_xor3 (bn (a.take n)) (bn (b.take n)) (bn (c.take n)) 0 0 0 (by simp; omega) (by simp; omega)
        rw [show (0 ^^^ 0 ^^^ 0 : B32) = 0 by decide] at r3
        have hn1 : n ≤ a.length ∧ n ≤ b.length ∧ n ≤ c.length := by omega
        conv => cbv
        subst hin
        simp [Hold.iff, lx, r1, r2]
        refine ⟨by omega, by omega, by omega, by omega, by omega, by omega, by omega, .ofT ?_ ?_⟩
        · rw [ib_xor, ib_xor, beq_iff_eq]
          exact congrArg (fun b : B32 => (b.toNat : Int)) r3
        · conv => cbv
          exact ⟨rfl⟩
end Go.Am
/- The check of bytes by division: it is the same number. -/
namespace Go.Am
set_option linter.all false
set_option linter.deprecated false
def cstep (r : B32) (m : Bool) : B32 := (r >>> 1) ^^^ (if r.getLsbD 0 ^^ m then cpoly else 0#32)
def bits : Nat → Nat → List Bool
  | 0, _ => []
  | n + 1, c => (c % 2 == 1) :: bits n (c / 2)
def digits (b : List Nat) : List Bool := b.flatMap (bits 8)
@[simp] theorem bits_len : ∀ (n c : Nat), (bits n c).length = n
  | 0, _ => rfl
  | n + 1, c => by simp [bits, bits_len n]
theorem bits_succ : ∀ (n c : Nat), bits (n + 1) c = bits n c ++ [c / 2 ^ n % 2 == 1]
  | 0, c => by simp [bits]
  | n + 1, c => by
    rw [bits, bits_succ n (c / 2), bits, Nat.div_div_eq_div_mul, Nat.pow_succ, Nat.mul_comm 2]
    rfl
@[simp] theorem digits_len (b : List Nat) : (digits b).length = 8 * b.length := by
  induction b with
  | nil => rfl
  | cons x b ih => simp only [digits, List.flatMap_cons, List.length_append, bits_len] at ih ⊢; rw [ih]; simp; omega
theorem digits_append (a b : List Nat) : digits (a ++ b) = digits a ++ digits b := by simp [digits]
theorem csh_eq (r : B32) : csh r = (r >>> 1) ^^^ (if r.getLsbD 0 then cpoly else 0#32) := by
  have h1 : r &&& 1#32 = if r.getLsbD 0 then 1#32 else 0#32 := by
    apply BitVec.eq_of_getLsbD_eq
    intro i hi
    cases i with
    | zero => cases h : r.getLsbD 0 <;> simp only [BitVec.getLsbD_and, h] <;> rfl
    | succ i => cases h : r.getLsbD 0 <;> simp [BitVec.getLsbD_one]
  rw [csh, h1]
  split
  · rw [show cpoly &&& -(1#32) = cpoly by decide]
  · rw [show cpoly &&& -(0#32) = 0#32 by decide]
theorem cstep_eq (r : B32) (m : Bool) : cstep r m = csh (r ^^^ (if m then 1#32 else 0#32)) := by
  rw [csh_eq, cstep]
  have h1 : (r ^^^ (if m then 1#32 else 0#32)).getLsbD 0 = (r.getLsbD 0 ^^ m) := by cases m <;> simp
  have h2 : (r ^^^ (if m then 1#32 else 0#32)) >>> 1 = r >>> 1 := by
    apply BitVec.eq_of_getLsbD_eq
    intro i hi
    cases m <;> simp [BitVec.getLsbD_one, Nat.add_comm 1]
  rw [h1, h2]
theorem citer_bits : ∀ (n : Nat) (r : B32) (c : Nat), c < 2 ^ n → n ≤ 32 → citer n (r ^^^ BitVec.ofNat 32 c) = (bits n c).foldl cstep r
  | 0, r, c, h, _ => by
    have : c = 0 := by simpa using h
    subst this
    simp [citer, bits]
  | n + 1, r, c, h, hn => by
    rw [citer, bits, List.foldl_cons]
    have e : csh (r ^^^ BitVec.ofNat 32 c) = cstep r (c % 2 == 1) ^^^ BitVec.ofNat 32 (c / 2) := by
      rw [cstep_eq, csh_eq, csh_eq]
      have h1 : (r ^^^ BitVec.ofNat 32 c).getLsbD 0 = (r ^^^ (if (c % 2 == 1) then 1#32 else 0#32)).getLsbD 0 := by
        rw [BitVec.getLsbD_xor, BitVec.getLsbD_xor]
        congr 1
        rw [BitVec.getLsbD_ofNat, Nat.testBit_zero]
        rcases Nat.mod_two_eq_zero_or_one c with h0 | h0 <;> rw [h0] <;> rfl
      rw [h1]
      have h2 : (r ^^^ BitVec.ofNat 32 c) >>> 1 = (r ^^^ (if (c % 2 == 1) then 1#32 else 0#32)) >>> 1 ^^^ BitVec.ofNat 32 (c / 2) := by
        apply BitVec.eq_of_getLsbD_eq
        intro i hi
        have h3 : (BitVec.ofNat 32 c).getLsbD (1 + i) = (BitVec.ofNat 32 (c / 2)).getLsbD i := by
          simp only [BitVec.getLsbD_ofNat]
          by_cases h4 : 1 + i < 32
          · have h5 : i < 32 := by omega
            simp only [h4, h5, decide_true, Bool.true_and]
            rw [Nat.add_comm, Nat.testBit_succ]
          · have h5 : i = 31 := by omega
            subst h5
            have h6 : (c / 2).testBit 31 = false := by
              refine Nat.testBit_lt_two_pow ?_
              have : c < 2 ^ 32 := Nat.lt_of_lt_of_le h (Nat.pow_le_pow_right (by decide) hn)
              omega
            simp [h6]
        rw [BitVec.getLsbD_xor, BitVec.getLsbD_ushiftRight, BitVec.getLsbD_ushiftRight, BitVec.getLsbD_xor, BitVec.getLsbD_xor, h3]
        have h7 : (if (c % 2 == 1) = true then 1#32 else 0#32).getLsbD (1 + i) = false := by
          split <;> simp [BitVec.getLsbD_one]
        rw [h7]
        simp
      rw [h2]
      generalize (r ^^^ (if (c % 2 == 1) then 1#32 else 0#32)) >>> 1 = p
      generalize (if (r ^^^ (if (c % 2 == 1) then 1#32 else 0#32)).getLsbD 0 = true then cpoly else 0#32) = q
      generalize BitVec.ofNat 32 (c / 2) = z
      ac_rfl
    rw [e]
    exact citer_bits n _ (c / 2) (by rw [Nat.pow_succ] at h; omega) (by omega)
theorem crcs_digits : ∀ (b : List Nat) (s : B32), (∀ x ∈ b, x < 256) → ~~~ (crcs s b) = (digits b).foldl cstep (~~~ s)
  | [], s, _ => rfl
  | x :: b, s, h => by
    have hx := h x List.mem_cons_self
    have := crcs_digits b (cbyte s x) (fun y hy => h y (List.mem_cons_of_mem _ hy))
    simp only [crcs, List.foldl_cons] at this ⊢
    rw [this]
    simp only [digits, List.flatMap_cons, List.foldl_append]
    congr 1
    rw [cbyte, BitVec.not_not]
    exact citer_bits 8 _ x hx (by decide)
/-- a table of yes and no -/
def tab (n : Nat) (f : Nat → Bool) : List (List D) := (List.range n).map fun k => [D.bool (f k)]
@[simp] theorem tab_len (n : Nat) (f : Nat → Bool) : (tab n f).length = n := by simp [tab]
theorem tab_get {n k : Nat} (f : Nat → Bool) (h : k < n) : (lk (lk (tab n f) k) 0).toBool = f k := by
  simp [tab, lk, List.getD, h, D.toBool]
theorem tab_set {n k : Nat} {f : Nat → Bool} {v : Bool} : (tab n f).set k [D.bool v] = tab n (fun j => if j = k then v else f j) := by
  apply List.ext_getElem?
  intro j
  simp only [tab, List.getElem?_set, List.getElem?_map, List.length_map, List.length_range]
  by_cases h1 : k = j
  · subst h1
    by_cases h2 : k < n
    · simp [h2]
    · simp [h2]
  · rw [if_neg h1]
    by_cases h2 : j < n
    · simp [h2, Ne.symm h1]
    · simp [h2]
theorem tab_congr {n : Nat} {f g : Nat → Bool} (h : ∀ k, k < n → f k = g k) : tab n f = tab n g := by
  refine List.map_congr_left fun k hk => ?_
  rw [h k (List.mem_range.1 hk)]
def rowBo (bs : List Bool) : List (List D) := bs.map fun b => [D.bool b]
@[simp] theorem rowBo_len (bs : List Bool) : (rowBo bs).length = bs.length := by simp [rowBo]
theorem rowBo_tab (bs : List Bool) (m : Nat) : rowBo bs ++ List.replicate m [D.bool false] = tab (bs.length + m) (fun k => bs.getD k false) := by
  apply List.ext_getElem?
  intro j
  simp only [tab, List.getElem?_map]
  by_cases h1 : j < bs.length
  · have : j < bs.length + m := by omega
    rw [List.getElem?_append_left (by simpa using h1)]
    simp [rowBo, h1, this, List.getD]
  · rw [List.getElem?_append_right (by simpa using h1), rowBo_len, List.getElem?_replicate]
    by_cases h2 : j < bs.length + m
    · have : j - bs.length < m := by omega
      simp [this, h2, List.getD, List.getElem?_eq_none (show bs.length ≤ j by omega)]
    · have : ¬ j - bs.length < m := by omega
      simp [this, h2]
def reg (ds : List Bool) (i : Nat) : B32 := (ds.take i).foldl cstep (BitVec.allOnes 32)
/-- the row of the division behind i steps -/
def rowS (ds : List Bool) (i k : Nat) : Bool := if k < i then false else ds.getD k false ^^ (reg ds i).getLsbD (k - i)
def flip (f : Nat → Bool) (k j : Nat) : Bool := if j = k then !(f j) else f j
def pows : List Nat := [26, 23, 22, 16, 12, 11, 10, 8, 7, 5, 4, 2, 1, 0]
def flips (f : Nat → Bool) (i : Nat) (ps : List Nat) : Nat → Bool := ps.foldl (fun f p => flip f (i + 32 - p)) f
theorem flips_eq : ∀ (ps : List Nat) (f : Nat → Bool) (i j : Nat), flips f i ps j = (f j ^^ (ps.map fun p => decide (j = i + 32 - p)).foldl xor false)
  | [], f, i, j => by simp [flips]
  | p :: ps, f, i, j => by
    have h := flips_eq ps (flip f (i + 32 - p)) i j
    simp only [flips, List.foldl_cons] at h ⊢
    rw [h]
    simp only [List.map_cons, List.foldl_cons, Bool.false_xor, flip]
    have e : ∀ (l : List Bool) (b : Bool), l.foldl xor b = (b ^^ l.foldl xor false) := by
      intro l
      induction l with
      | nil => intro b; simp
      | cons x l ih => intro b; simp only [List.foldl_cons, Bool.false_xor]; rw [ih, ih x]; cases b <;> cases x <;> simp
    rw [e _ (decide _)]
    by_cases hj : j = i + 32 - p
    · simp only [hj, if_true, decide_true]; cases f (i + 32 - p) <;> simp
    · simp [hj]
theorem pows_bit : ∀ j, j < 32 → (pows.map fun p => decide (j = 31 - p)).foldl xor false = cpoly.getLsbD j := by decide
theorem reg_succ {ds : List Bool} {i : Nat} (h : i < ds.length) : reg ds (i + 1) = cstep (reg ds i) (ds.getD i false) := by
  rw [reg, List.take_add_one, List.getElem?_eq_getElem h, List.foldl_append]
  simp [reg, List.getD, h]
theorem rowS_next {ds : List Bool} {i : Nat} (h : i < ds.length) (k : Nat) :
    rowS ds (i + 1) k = if rowS ds i i then flips (fun j => if j = i then false else rowS ds i j) i pows k else rowS ds i k := by
  have hb : rowS ds i i = (ds.getD i false ^^ (reg ds i).getLsbD 0) := by simp [rowS]
  have hge : ∀ k, i + 1 ≤ k → (reg ds (i + 1)).getLsbD (k - (i + 1)) = ((reg ds i).getLsbD (k - i) ^^ (rowS ds i i && cpoly.getLsbD (k - (i + 1)))) := by
    intro k hk
    rw [reg_succ h, cstep, BitVec.getLsbD_xor, BitVec.getLsbD_ushiftRight, show 1 + (k - (i + 1)) = k - i by omega, hb, Bool.xor_comm (ds.getD i false)]
    cases (reg ds i).getLsbD 0 ^^ ds.getD i false <;> simp
  have hfl : ∀ k, (pows.map fun p => decide (k = i + 32 - p)).foldl xor false = if k < i + 1 then false else cpoly.getLsbD (k - (i + 1)) := by
    intro k
    by_cases hk : k < i + 1
    · rw [if_pos hk]
      have : (pows.map fun p => decide (k = i + 32 - p)) = pows.map fun _ => false := by
        refine List.map_congr_left fun p hp => ?_
        have : p < 32 := by revert p; decide
        simp; omega
      rw [this]; decide
    · rw [if_neg hk]
      by_cases hk2 : k - (i + 1) < 32
      · rw [← pows_bit _ hk2]
        congr 1
        refine List.map_congr_left fun p hp => ?_
        have : p < 32 := by revert p; decide
        rw [decide_eq_decide]
        omega
      · have : (pows.map fun p => decide (k = i + 32 - p)) = pows.map fun _ => false := by
          refine List.map_congr_left fun p hp => ?_
          have : p < 32 := by revert p; decide
          simp; omega
        rw [this, BitVec.getLsbD_of_ge _ _ (by omega)]; decide
  split
  · rename_i hr
    rw [flips_eq, hfl]
    by_cases hk : k < i + 1
    · rw [rowS, if_pos hk, if_pos hk]
      by_cases hki : k = i
      · simp [hki]
      · have : k < i := by omega
        simp [hki, rowS, this]
    · have hki : k ≠ i := by omega
      have hki2 : ¬ k < i := by omega
      rw [if_neg hk, rowS, if_neg hk, hge k (by omega), hr]
      simp only [hki, if_false, rowS, hki2, Bool.true_and]
      cases ds.getD k false <;> cases (reg ds i).getLsbD (k - i) <;> cases cpoly.getLsbD (k - (i + 1)) <;> rfl
  · rename_i hr
    have hr : rowS ds i i = false := by simpa using hr
    by_cases hk : k < i + 1
    · rw [rowS, if_pos hk]
      by_cases hki : k = i
      · rw [hki, hr]
      · have : k < i := by omega
        simp [rowS, this]
    · have hki2 : ¬ k < i := by omega
      rw [rowS, if_neg hk, hge k (by omega), hr]
      simp [rowS, hki2]
theorem rowS_zero (ds : List Bool) (k : Nat) : rowS ds 0 k = (ds.getD k false ^^ decide (k < 32)) := by
  show (if k < 0 then false else ds.getD k false ^^ (BitVec.allOnes 32).getLsbD (k - 0)) = _
  rw [if_neg (by omega), Nat.sub_zero, BitVec.getLsbD_allOnes]
/-- the digits of a number, the highest first -/
theorem shr_next (x : B32) (i : Nat) : (x >>> (i + 1)).toNat * 2 + (if x.getLsbD i then 1 else 0) = (x >>> i).toNat := by
  simp only [BitVec.toNat_ushiftRight, Nat.shiftRight_eq_div_pow, Nat.pow_succ, ← Nat.div_div_eq_div_mul]
  have : x.getLsbD i = (x.toNat / 2 ^ i % 2 == 1) := by
    simp only [BitVec.getLsbD, Nat.testBit_eq_decide_div_mod_eq, Bool.beq_eq_decide_eq]
  rw [this]
  rcases Nat.mod_two_eq_zero_or_one (x.toNat / 2 ^ i) with h | h <;> simp [h] <;> omega
end Go.Am
/- The document's check keeps its contract. -/
namespace Go.Am
set_option linter.all false
set_option linter.deprecated false
open Go.Proofs
set_option maxRecDepth 100000
set_option maxHeartbeats 4000000
def digC : Contract := { modes := [.ro], fn := fun args M => match args, M with
  | [.sl _ [.int .u8] xs], [] => some ⟨[fun _ => 8 * (xs ()).length ≤ big], .ms 0 (fun _ => 0) (fun _ => 8 * (xs ()).length), [(0, some (.row false [.bool] fun _ => rowBo (digits (bn (xs ())))))]⟩
  | _, _ => none }
structure DgI (n : Nat) where
  i : Nat
  hi : i ≤ n
structure DkI where
  k : Nat
  hk : k ≤ 8
theorem dig_ok : CSound Try.prog 77 digC := by
  refine fsound' (G := G0) (c := codeOf Try.f77) mixed tyT (gget_nil _) Try.func77 (by rfl) (by kernel_rfl) (by kernel_rfl) fun args M r hr hvc hw hm => ?_
  unfold digC at hr
  simp only at hr
  split at hr <;> cases hr
  rename_i nn xs
  have hb : 8 * (xs ()).length ≤ big := hvc _ (List.mem_singleton.2 rfl)
  clear hvc hm
  have hx : xs = fun _ => xs () := rfl
  generalize xs () = x at hx hb
  subst hx
  have hb : 8 * x.length ≤ 1099511627776 := hb
  simp only [WfVs, WfV, and_true] at hw
  conv => cbv
  refine LoopP.mk (DgI x.length) (fun s => ⟨ev 30 [(0, .sl false U8 fun _ => x), (2, .nils), (3, .ms 0 (fun _ => 0) (fun _ => 8 * s.i)), (4, .int .i64 fun _ => (s.i : Int))], [(0, .row false [.bool] fun _ => rowBo (digits ((bn x).take s.i)))], 8⟩) (fun s => x.length - s.i) ⟨0, Nat.zero_le _⟩ ?_ ?_
  · conv => cbv
    exact ⟨⟨rfl⟩, ⟨rfl, rfl⟩, ⟨rfl⟩, ⟨rfl⟩⟩
  · intro ⟨i, hi⟩
    conv => cbv
    refine Split.mk (fun h => ?_) (fun h => ?_)
    · have h : (i : Int) < (x.length : Int) := of_decide_eq_true h
      have h : i < x.length := by omega
      have v1 : 0 ≤ (i : Int) ∧ (i : Int) < (x.length : Int) := by omega
      have hv := bn_at hw h
      have hc : (bn x).getD i 0 < 256 := bn_lt hw _ (by simp [List.getD, h])
      obtain ⟨c, hcc⟩ : ∃ c, c = (bn x).getD i 0 := ⟨_, rfl⟩
      rw [← hcc] at hv hc
      have hti : (bn x).take (i + 1) = (bn x).take i ++ [c] := by
        rw [List.take_add_one, List.getElem?_eq_getElem (by simpa using h), hcc]
        simp [List.getD, h]
      have hdl : (digits ((bn x).take i)).length = 8 * i := by rw [digits_len]; simp; omega
      conv => cbv
      refine ⟨⟨v1⟩, LoopP.mk DkI (fun s => ⟨ev 30 [(0, .sl false U8 fun _ => x), (2, .nils), (3, .ms 0 (fun _ => 0) (fun _ => 8 * i + s.k)), (4, .int .i64 fun _ => (i : Int)), (5, .int .u8 fun _ => ((c / 2 ^ s.k : Nat) : Int)), (6, .int .i64 fun _ => (s.k : Int))], [(0, .row false [.bool] fun _ => rowBo (digits ((bn x).take i) ++ bits s.k c))], 8⟩) (fun s => 8 - s.k) ⟨0, Nat.zero_le _⟩ ?_ ?_⟩
      · have e0 : (lk (lk x ((i : Int)).toNat) 0).toInt = ((c / 2 ^ 0 : Nat) : Int) := by rw [Int.toNat_natCast, hv]; simp
        have e1 : rowBo (digits ((bn x).take i)) = rowBo (digits ((bn x).take i) ++ bits 0 c) := by simp [bits]
        conv => cbv
        exact ⟨⟨rfl⟩, ⟨rfl, rfl⟩, ⟨rfl⟩, ⟨e0⟩, ⟨rfl⟩, ⟨e1⟩⟩
      · intro ⟨k, hk⟩
        conv => cbv
        refine Split.mk (fun h2 => ?_) (fun h2 => ?_)
        · have h2 : (k : Int) < 8 := of_decide_eq_true h2
          have hq : c / 2 ^ k < 256 := Nat.lt_of_le_of_lt (Nat.div_le_self _ _) hc
          have t1 : (((c / 2 ^ k : Nat) : Int).tmod 2) = ((c / 2 ^ k % 2 : Nat) : Int) := (Int.ofNat_tmod _ 2).symm
          have t2 : (((c / 2 ^ k : Nat) : Int).tdiv 2) = ((c / 2 ^ k / 2 : Nat) : Int) := (Int.ofNat_tdiv _ 2).symm
          have t3 : IntKind.u8.wrap (((c / 2 ^ k : Nat) : Int).tdiv 2) = ((c / 2 ^ (k + 1) : Nat) : Int) := by
            have e : c / 2 ^ k / 2 = c / 2 ^ (k + 1) := by rw [Nat.div_div_eq_div_mul, ← Nat.pow_succ]
            have : c / 2 ^ (k + 1) ≤ c := Nat.div_le_self _ _
            rw [t2, e, wrap_u8_mod]
            generalize c / 2 ^ (k + 1) = z at *
            omega
          have t4 : ((((c / 2 ^ k : Nat) : Int).tmod 2) == 1) = (c / 2 ^ k % 2 == 1) := by
            rcases Nat.mod_two_eq_zero_or_one (c / 2 ^ k) with h | h <;> rw [t1, h] <;> rfl
          have hw1 : IntKind.i64.wrap ((k : Int) + 1) = ((k + 1 : Nat) : Int) := by rw [wrap_i64 (by omega)]; omega
          have hlt : k + 1 ≤ 8 ∧ 8 - (k + 1) < 8 - k := by omega
          have n2 : (2 : Int) ≠ 0 := by decide
          have hbits := bits_succ k c
          have hlen : (rowBo (digits ((bn x).take i) ++ bits k c)).length = 8 * i + k := by simp [hdl]
          have v2 : 8 * i + k + 1 ≤ big := by simp only [big]; omega
          conv => cbv
          refine ⟨⟨n2⟩, ⟨rfl⟩, ⟨Nat.le_of_eq hlen.symm⟩, ⟨v2⟩, ⟨by simp [chunk]⟩, ⟨n2⟩, ⟨k + 1, hlt.1⟩, hlt.2, ?_⟩
          conv => cbv
          refine ⟨⟨rfl⟩, ⟨rfl, ?_⟩, ⟨rfl⟩, ⟨t3⟩, ⟨hw1⟩, ⟨?_⟩⟩
          · simp [chunk]; omega
          · simp only [chunk11, List.drop_zero, List.take_succ_cons, List.take_zero, t4]
            rw [List.take_of_length_le (by omega), hbits]
            simp [rowBo]
        · have h2 : ¬ (k : Int) < 8 := of_decide_eq_false h2
          have hk8 : k = 8 := by omega
          have hw1 : IntKind.i64.wrap ((i : Int) + 1) = ((i + 1 : Nat) : Int) := by rw [wrap_i64 (by omega)]; omega
          have hlt : i + 1 ≤ x.length ∧ x.length - (i + 1) < x.length - i := by omega
          have e1 : digits ((bn x).take i) ++ bits k c = digits ((bn x).take (i + 1)) := by rw [hti, digits_append, hk8]; simp [digits]
          have e2 : 8 * i + k = 8 * (i + 1) := by omega
          conv => cbv
          refine ⟨⟨i + 1, hlt.1⟩, hlt.2, ?_⟩
          conv => cbv
          refine ⟨⟨rfl⟩, ⟨rfl, e2⟩, ⟨hw1⟩, ⟨?_⟩⟩
          exact congrArg rowBo e1
    · have h : ¬ (i : Int) < (x.length : Int) := of_decide_eq_false h
      have hi2 : i = x.length := by omega
      have e : (bn x).take i = bn x := List.take_of_length_le (by simp; omega)
      conv => cbv
      refine ⟨⟨rfl, ?_⟩, ⟨?_⟩⟩
      · show 8 * i = 8 * x.length
        rw [hi2]
      · exact congrArg (fun z => rowBo (digits z)) e
def I64 : List Sh := [.int .i64]
def rowI (ns : List Nat) : List (List D) := ns.map fun (n : Nat) => [D.int (n : Int)]
def powC : Contract := { modes := [], fn := fun args M => match args, M with
  | [], [] => some ⟨[], .ms 0 (fun _ => 0) (fun _ => 14), [(0, some (.row true I64 fun _ => rowI pows))]⟩
  | _, _ => none }
theorem pow_ok : CSound Try.prog 78 powC := by
  refine fsound' (G := G0) (c := codeOf Try.f78) mixed tyT (gget_nil _) Try.func78 (by rfl) (by kernel_rfl) (by kernel_rfl) fun args M r hr hvc hw hm => ?_
  unfold powC at hr
  simp only at hr
  split at hr <;> cases hr
  conv => cbv
  exact ⟨⟨rfl, rfl⟩, ⟨rfl⟩⟩
end Go.Am
/- The document's check keeps its contract: the sum. -/
namespace Go.Am
set_option linter.all false
set_option linter.deprecated false
open Go.Proofs
set_option maxRecDepth 100000
set_option maxHeartbeats 4000000
def rsumC : Contract := { modes := [.ro], fn := fun args M => match args, M with
  | [.sl _ [.int .u8] xs], [] => some ⟨[fun _ => 8 * (xs ()).length + 32 ≤ big], .int .u32 fun _ => ((crcs 0 (bn (xs ()))).toNat : Int), []⟩
  | _, _ => none }
def Lr1 : List (Nat × Contract) := [(77, digC), (78, powC)]
def Gr1 : Ctx := fun f => gget Lr1 f
theorem Gr1_ok : ∀ f C, Gr1 f = some C → CSound Try.prog f C := gget_cons dig_ok (gget_cons pow_ok (gget_nil _))
theorem flips_next (f : Nat → Bool) (i t : Nat) (h : t < 14) : flips f i (pows.take (t + 1)) = flip (flips f i (pows.take t)) (i + 32 - pows.getD t 0) := by
  have hl : t < pows.length := h
  rw [List.take_add_one, List.getElem?_eq_getElem hl, flips, List.foldl_append]
  simp [flips, List.getD, hl]
theorem pow_lt : ∀ t, t < 14 → pows.getD t 0 < 32 := by decide
theorem pow_at {t : Nat} (h : t < 14) : (lk (lk (rowI pows) t) 0).toInt = ((pows.getD t 0 : Nat) : Int) := by
  have hl : t < pows.length := h
  simp [rowI, lk, List.getD, hl, D.toInt]
theorem rsum_ok : CSound Try.prog 30 rsumC := by
  refine fsound' (G := Gr1) (c := codeOf Try.f30) mixed tyT Gr1_ok Try.func30 (by rfl) (by kernel_rfl) (by kernel_rfl) fun args M r hr hvc hw hm => ?_
  unfold rsumC at hr
  simp only at hr
  split at hr <;> cases hr
  rename_i nn xs
  have hb : 8 * (xs ()).length + 32 ≤ big := hvc _ (List.mem_singleton.2 rfl)
  clear hvc hm
  have hx : xs = fun _ => xs () := rfl
  generalize xs () = x at hx hb
  subst hx
  have hb : 8 * x.length + 32 ≤ 1099511627776 := hb
  simp only [WfVs, WfV, and_true] at hw
  obtain ⟨ds, hds⟩ : ∃ ds, ds = digits (bn x) := ⟨_, rfl⟩
  have hdl : ds.length = 8 * x.length := by rw [hds]; simp
  have v0 : 8 * x.length ≤ big := by simp only [big]; omega
  have hbg : ((big : Nat) : Int) = 1099511627776 := rfl
  have v1 : 8 * x.length ≤ (rowBo (digits (bn x))).length := by simp
  have v2 : (0 : Int) ≤ 32 ∧ ((8 * x.length : Nat) : Int) + 32 ≤ (big : Int) := by rw [hbg]; omega
  conv => cbv
  refine ⟨⟨v0⟩, ⟨rfl⟩, ⟨v1⟩, ⟨v2⟩, LoopP.mk {i : Nat // i ≤ 32} (fun i => ⟨ev 84 [(3, .ms 0 (fun _ => 0) (fun _ => ds.length + 32)), (4, .int .i64 fun _ => (i.1 : Int))], [(0, .row false [.bool] fun _ => tab (ds.length + 32) fun k => ds.getD k false ^^ decide (k < i.1))], 8⟩) (fun i => 32 - i.1) ⟨0, Nat.zero_le _⟩ ?_ ?_⟩
  · have e1 : List.take (8 * x.length) (rowBo (digits (bn x))) ++ List.replicate (Int.toNat 32) [D.bool false] = tab (ds.length + 32) fun k => ds.getD k false ^^ decide (k < 0) := by
      rw [List.take_of_length_le (by simp), ← hds]
      have := rowBo_tab ds 32
      rw [show Int.toNat 32 = 32 from rfl, this]
      exact tab_congr fun k _ => by simp
    have e2 : 8 * x.length + Int.toNat 32 = ds.length + 32 := by rw [hdl]; rfl
    conv => cbv
    exact ⟨⟨rfl, e2⟩, ⟨rfl⟩, ⟨e1⟩⟩
  · intro ⟨i, hi⟩
    conv => cbv
    refine Split.mk (fun h => ?_) (fun h => ?_)
    · have h : (i : Int) < 32 := of_decide_eq_true h
      have h : i < 32 := by omega
      have v3 : 0 ≤ (i : Int) ∧ (i : Int) < ((ds.length + 32 : Nat) : Int) := by omega
      have v4 : 0 + ((i : Int)).toNat < (tab (ds.length + 32) fun k => ds.getD k false ^^ decide (k < i)).length := by simp; omega
      have hw1 : IntKind.i64.wrap ((i : Int) + 1) = ((i + 1 : Nat) : Int) := by rw [wrap_i64 (by omega)]; omega
      have hlt : i + 1 ≤ 32 ∧ 32 - (i + 1) < 32 - i := by omega
      have g1 := tab_get (n := ds.length + 32) (k := i) (fun k => ds.getD k false ^^ decide (k < i)) (by omega)
      conv => cbv
      refine ⟨⟨v3⟩, ⟨v4⟩, ⟨v3⟩, ⟨v4⟩, ⟨i + 1, hlt.1⟩, hlt.2, ?_⟩
      conv => cbv
      refine ⟨⟨rfl, rfl⟩, ⟨hw1⟩, ⟨?_⟩⟩
      simp only [dall_one, Nat.zero_add, Int.toNat_natCast, g1, tab_set]
      refine tab_congr fun k _ => ?_
      by_cases hk : k = i
      · subst hk
        have e1 : decide (k < k) = false := by simp
        have e2 : decide (k < k + 1) = true := by simp
        rw [if_pos rfl, e1, e2]; cases ds.getD k false <;> rfl
      · have e1 : decide (k < i) = decide (k < i + 1) := by rw [decide_eq_decide]; omega
        rw [if_neg hk, e1]
    · have h : ¬ (i : Int) < 32 := of_decide_eq_false h
      have hi2 : i = 32 := by omega
      have hw0 : IntKind.i64.wrap (((ds.length + 32 : Nat) : Int) - 32) = (ds.length : Int) := by rw [wrap_i64 (by omega)]; omega
      conv => cbv
      refine LoopP.mk {i : Nat // i ≤ ds.length} (fun i => ⟨ev 84 [(3, .ms 0 (fun _ => 0) (fun _ => ds.length + 32)), (5, .ms 1 (fun _ => 0) (fun _ => 14)), (6, .int .i64 fun _ => (ds.length : Int)), (7, .int .i64 fun _ => (i.1 : Int))],
        [(0, .row false [.bool] fun _ => tab (ds.length + 32) (rowS ds i.1)), (1, .row true I64 fun _ => rowI pows)], 8⟩) (fun i => ds.length - i.1) ⟨0, Nat.zero_le _⟩ ?_ ?_
      · have e3 : (tab (ds.length + 32) fun k => ds.getD k false ^^ decide (k < i)) = tab (ds.length + 32) (rowS ds 0) := tab_congr fun k _ => by rw [rowS_zero, hi2]
        conv => cbv
        exact ⟨⟨rfl, rfl⟩, ⟨rfl, rfl⟩, ⟨hw0⟩, ⟨rfl⟩, ⟨e3⟩, ⟨rfl⟩⟩
      · intro ⟨n, hn⟩
        conv => cbv
        refine Split.mk (fun h2 => ?_) (fun h2 => ?_)
        · have h2 : (n : Int) < (ds.length : Int) := of_decide_eq_true h2
          have h2 : n < ds.length := by omega
          have v3 : 0 ≤ (n : Int) ∧ (n : Int) < ((ds.length + 32 : Nat) : Int) := by omega
          have v4 : 0 + ((n : Int)).toNat < (tab (ds.length + 32) (rowS ds n)).length := by simp; omega
          have hw1 : IntKind.i64.wrap ((n : Int) + 1) = ((n + 1 : Nat) : Int) := by rw [wrap_i64 (by omega)]; omega
          have hlt : n + 1 ≤ ds.length ∧ ds.length - (n + 1) < ds.length - n := by omega
          have g1 : (lk (lk (tab (ds.length + 32) (rowS ds n)) (0 + ((n : Int)).toNat)) 0).toBool = rowS ds n n := by
            rw [Nat.zero_add, Int.toNat_natCast]; exact tab_get (rowS ds n) (by omega)
          conv => cbv
          refine ⟨⟨v3⟩, ⟨v4⟩, Split.mk (fun h3 => ?_) (fun h3 => ?_)⟩
          · have h3 : rowS ds n n = true := g1.symm.trans h3
            have hnx := rowS_next h2
            rw [h3] at hnx
            conv => cbv
            refine ⟨⟨v3⟩, ⟨v4⟩, LoopP.mk {t : Nat // t ≤ 14} (fun t => ⟨ev 84 [(3, .ms 0 (fun _ => 0) (fun _ => ds.length + 32)), (5, .ms 1 (fun _ => 0) (fun _ => 14)), (6, .int .i64 fun _ => (ds.length : Int)), (7, .int .i64 fun _ => (n : Int)), (8, .int .i64 fun _ => (t.1 : Int))],
              [(0, .row false [.bool] fun _ => tab (ds.length + 32) (flips (fun j => if j = n then false else rowS ds n j) n (pows.take t.1))), (1, .row true I64 fun _ => rowI pows)], 8⟩) (fun t => 14 - t.1) ⟨0, Nat.zero_le _⟩ ?_ ?_⟩
            · conv => cbv
              refine ⟨⟨rfl, rfl⟩, ⟨rfl, rfl⟩, ⟨rfl⟩, ⟨rfl⟩, ⟨rfl⟩, ⟨?_⟩, ⟨rfl⟩⟩
              simp only [dall_one, Nat.zero_add, Int.toNat_natCast, tab_set]
              rfl
            · intro ⟨t, ht⟩
              conv => cbv
              refine Split.mk (fun h4 => ?_) (fun h4 => ?_)
              · have h4 : (t : Int) < ((14 : Nat) : Int) := of_decide_eq_true h4
                have h4 : t < 14 := by omega
                have q1 := pow_lt t h4
                have q2 := pow_at h4
                have q3 := flips_next (fun j => if j = n then false else rowS ds n j) n t h4
                obtain ⟨p, hp⟩ : ∃ p, p = pows.getD t 0 := ⟨_, rfl⟩
                obtain ⟨F, hF⟩ : ∃ F, F = flips (fun j => if j = n then false else rowS ds n j) n (pows.take t) := ⟨_, rfl⟩
                rw [← hp] at q1 q2 q3
                rw [← hF] at q3
                have q2' : (lk (lk (rowI pows) (0 + ((t : Int)).toNat)) 0).toInt = (p : Int) := by rw [Nat.zero_add, Int.toNat_natCast]; exact q2
                have w1 : IntKind.i64.wrap (IntKind.i64.wrap ((n : Int) + 32) - (lk (lk (rowI pows) (0 + ((t : Int)).toNat)) 0).toInt) = ((n + 32 - p : Nat) : Int) := by
                  rw [q2', wrap_i64 (n := (n : Int) + 32) (by omega), wrap_i64 (by omega)]; omega
                have v5 : 0 ≤ (t : Int) ∧ (t : Int) < ((14 : Nat) : Int) := by omega
                have v6 : 0 + ((t : Int)).toNat < (rowI pows).length := by rw [Nat.zero_add, Int.toNat_natCast]; exact h4
                have v7 : 0 ≤ IntKind.i64.wrap (IntKind.i64.wrap ((n : Int) + 32) - (lk (lk (rowI pows) (0 + ((t : Int)).toNat)) 0).toInt) ∧ IntKind.i64.wrap (IntKind.i64.wrap ((n : Int) + 32) - (lk (lk (rowI pows) (0 + ((t : Int)).toNat)) 0).toInt) < ((ds.length + 32 : Nat) : Int) := by rw [w1]; omega
                have v8 : 0 + (IntKind.i64.wrap (IntKind.i64.wrap ((n : Int) + 32) - (lk (lk (rowI pows) (0 + ((t : Int)).toNat)) 0).toInt)).toNat < (tab (ds.length + 32) F).length := by rw [w1]; simp; omega
                have g2 : (lk (lk (tab (ds.length + 32) F) (0 + (IntKind.i64.wrap (IntKind.i64.wrap ((n : Int) + 32) - (lk (lk (rowI pows) (0 + ((t : Int)).toNat)) 0).toInt)).toNat)) 0).toBool = F (n + 32 - p) := by
                  rw [w1, Nat.zero_add, Int.toNat_natCast]; exact tab_get F (by omega)
                have g3 : (tab (ds.length + 32) F).set (0 + (IntKind.i64.wrap (IntKind.i64.wrap ((n : Int) + 32) - (lk (lk (rowI pows) (0 + ((t : Int)).toNat)) 0).toInt)).toNat) [D.bool (!(F (n + 32 - p)))] = tab (ds.length + 32) (flip F (n + 32 - p)) := by
                  rw [w1, Nat.zero_add, Int.toNat_natCast, tab_set]
                  refine tab_congr fun j _ => ?_
                  simp only [flip]
                  by_cases hj : j = n + 32 - p
                  · rw [if_pos hj, if_pos hj, hj]
                  · rw [if_neg hj, if_neg hj]
                have hw2 : IntKind.i64.wrap ((t : Int) + 1) = ((t + 1 : Nat) : Int) := by rw [wrap_i64 (by omega)]; omega
                have hlt2 : t + 1 ≤ 14 ∧ 14 - (t + 1) < 14 - t := by omega
                subst hF
                conv => cbv
                refine ⟨⟨v5⟩, ⟨v6⟩, ⟨v5⟩, ⟨v6⟩, ⟨v7⟩, ⟨v8⟩, ⟨v7⟩, ⟨v8⟩, ⟨t + 1, hlt2.1⟩, hlt2.2, ?_⟩
                conv => cbv
                refine ⟨⟨rfl, rfl⟩, ⟨rfl, rfl⟩, ⟨rfl⟩, ⟨rfl⟩, ⟨hw2⟩, ⟨?_⟩, ⟨rfl⟩⟩
                simp only [dall_one]
                rw [g2, g3, ← q3]
              · have h4 : ¬ (t : Int) < ((14 : Nat) : Int) := of_decide_eq_false h4
                have ht2 : t = 14 := by omega
                have e5 : tab (ds.length + 32) (flips (fun j => if j = n then false else rowS ds n j) n (pows.take t)) = tab (ds.length + 32) (rowS ds (n + 1)) := by
                  rw [ht2, show pows.take 14 = pows from rfl]
                  exact tab_congr fun k _ => by rw [hnx k, if_pos rfl]
                conv => cbv
                refine ⟨⟨n + 1, hlt.1⟩, hlt.2, ?_⟩
                conv => cbv
                exact ⟨⟨rfl, rfl⟩, ⟨rfl, rfl⟩, ⟨rfl⟩, ⟨hw1⟩, ⟨e5⟩, ⟨rfl⟩⟩
          · have h3 : rowS ds n n = false := g1.symm.trans h3
            have hnx := rowS_next h2
            rw [h3] at hnx
            have e4 : tab (ds.length + 32) (rowS ds n) = tab (ds.length + 32) (rowS ds (n + 1)) := tab_congr fun k _ => by rw [hnx k]; rfl
            conv => cbv
            refine ⟨⟨n + 1, hlt.1⟩, hlt.2, ?_⟩
            conv => cbv
            exact ⟨⟨rfl, rfl⟩, ⟨rfl, rfl⟩, ⟨rfl⟩, ⟨hw1⟩, ⟨e4⟩, ⟨rfl⟩⟩
        · have h2 : ¬ (n : Int) < (ds.length : Int) := of_decide_eq_false h2
          have hn2 : n = ds.length := by omega
          obtain ⟨X, hX⟩ : ∃ X : B32, X = crcs 0 (bn x) := ⟨_, rfl⟩
          have hreg : ~~~ X = reg ds n := by
            rw [hX, crcs_digits _ _ (bn_lt hw), ← hds, reg, hn2, List.take_length]
            rfl
          conv => cbv
          refine LoopP.mk {j : Nat // j ≤ 32} (fun j => ⟨ev 84 [(3, .ms 0 (fun _ => 0) (fun _ => ds.length + 32)), (6, .int .i64 fun _ => (ds.length : Int)), (9, .int .u32 fun _ => ((X >>> j.1).toNat : Int)), (10, .int .i64 fun _ => (j.1 : Int) - 1)],
            [(0, .row false [.bool] fun _ => tab (ds.length + 32) (rowS ds n))], 8⟩) (fun j => j.1) ⟨32, Nat.le_refl _⟩ ?_ ?_
          · have e6 : (0 : Int) = ((X >>> 32).toNat : Int) := by
              have : X >>> 32 = 0#32 := BitVec.ushiftRight_eq_zero (by decide)
              rw [this]; rfl
            conv => cbv
            exact ⟨⟨rfl, rfl⟩, ⟨rfl⟩, ⟨e6⟩, ⟨rfl⟩, ⟨rfl⟩⟩
          · intro ⟨j, hj⟩
            conv => cbv
            refine Split.mk (fun h5 => ?_) (fun h5 => ?_)
            · have h5 : (0 : Int) ≤ (j : Int) - 1 := of_decide_eq_true h5
              obtain ⟨i2, rfl⟩ : ∃ i2, j = i2 + 1 := ⟨j - 1, by omega⟩
              have w1 : IntKind.i64.wrap ((ds.length : Int) + (((i2 + 1 : Nat) : Int) - 1)) = ((n + i2 : Nat) : Int) := by rw [wrap_i64 (by omega)]; omega
              have v3 : 0 ≤ IntKind.i64.wrap ((ds.length : Int) + (((i2 + 1 : Nat) : Int) - 1)) ∧ IntKind.i64.wrap ((ds.length : Int) + (((i2 + 1 : Nat) : Int) - 1)) < ((ds.length + 32 : Nat) : Int) := by rw [w1]; omega
              have v4 : 0 + (IntKind.i64.wrap ((ds.length : Int) + (((i2 + 1 : Nat) : Int) - 1))).toNat < (tab (ds.length + 32) (rowS ds n)).length := by rw [w1]; simp; omega
              have hbit : (~~~ X).getLsbD i2 = !(X.getLsbD i2) := by
                rw [BitVec.getLsbD_not]
                have : i2 < 32 := by omega
                simp [this]
              have g1 : (lk (lk (tab (ds.length + 32) (rowS ds n)) (0 + (IntKind.i64.wrap ((ds.length : Int) + (((i2 + 1 : Nat) : Int) - 1))).toNat)) 0).toBool = !(X.getLsbD i2) := by
                rw [w1, Nat.zero_add, Int.toNat_natCast, tab_get (rowS ds n) (by omega), rowS, if_neg (by omega), ← hreg, show n + i2 - n = i2 by omega, hbit]
                simp [List.getD, List.getElem?_eq_none (show ds.length ≤ n + i2 by omega)]
              have hs := shr_next X i2
              have hlt := (X >>> i2).isLt
              have w2 : IntKind.u32.wrap (((X >>> (i2 + 1)).toNat : Int) * 2) = (((X >>> (i2 + 1)).toNat * 2 : Nat) : Int) := by
                rw [wrap_u32_mod]
                have : (X >>> (i2 + 1)).toNat * 2 ≤ (X >>> i2).toNat := by rw [← hs]; exact Nat.le_add_right _ _
                omega
              have w3 : IntKind.i64.wrap ((((i2 + 1 : Nat) : Int) - 1) - 1) = (i2 : Int) - 1 := by rw [wrap_i64 (by omega)]; omega
              have hj2 : i2 ≤ 32 ∧ i2 < i2 + 1 := by omega
              conv => cbv
              refine ⟨⟨v3⟩, ⟨v4⟩, Split.mk (fun h6 => ?_) (fun h6 => ?_)⟩
              · simp only [g1, Bool.not_not] at h6
                rw [h6, if_pos rfl] at hs
                have w4 : IntKind.u32.wrap (IntKind.u32.wrap (((X >>> (i2 + 1)).toNat : Int) * 2) + 1) = ((X >>> i2).toNat : Int) := by
                  rw [w2, wrap_u32_mod, ← hs]
                  omega
                conv => cbv
                refine ⟨⟨i2, hj2.1⟩, hj2.2, ?_⟩
                conv => cbv
                exact ⟨⟨rfl, rfl⟩, ⟨rfl⟩, ⟨w4⟩, ⟨w3⟩, ⟨rfl⟩⟩
              · simp only [g1, Bool.not_not] at h6
                rw [h6] at hs
                have hs : (X >>> (i2 + 1)).toNat * 2 = (X >>> i2).toNat := hs
                have w4 : IntKind.u32.wrap (((X >>> (i2 + 1)).toNat : Int) * 2) = ((X >>> i2).toNat : Int) := by rw [w2, hs]
                conv => cbv
                refine ⟨⟨i2, hj2.1⟩, hj2.2, ?_⟩
                conv => cbv
                exact ⟨⟨rfl, rfl⟩, ⟨rfl⟩, ⟨w4⟩, ⟨w3⟩, ⟨rfl⟩⟩
            · have h5 : ¬ (0 : Int) ≤ (j : Int) - 1 := of_decide_eq_false h5
              have hj0 : j = 0 := by omega
              conv => cbv
              refine ⟨?_⟩
              show ((X >>> j).toNat : Int) = ((crcs 0 (bn x)).toNat : Int)
              rw [hj0, ← hX]
              simp
end Go.Am
/- The check of bytes: a short change is seen. -/
namespace Go.Am
set_option linter.all false
set_option linter.deprecated false
theorem csh_zero : csh 0#32 = 0#32 := by decide
theorem citer_zero : ∀ n, citer n 0#32 = 0#32
  | 0 => rfl
  | n + 1 => by rw [citer, csh_zero, citer_zero n]
theorem csh_inj0 {r : B32} (h : csh r = 0#32) : r = 0#32 := by
  rw [csh_eq] at h
  have hb : ∀ i, ((r >>> 1) ^^^ (if r.getLsbD 0 then cpoly else 0#32)).getLsbD i = false := fun i => by rw [h]; simp
  have h0 : r.getLsbD 0 = false := by
    have h31 := hb 31
    rw [BitVec.getLsbD_xor, BitVec.getLsbD_ushiftRight, BitVec.getLsbD_of_ge _ (1 + 31) (by decide)] at h31
    cases hr : r.getLsbD 0 with
    | false => rfl
    | true =>
      rw [hr] at h31
      exact absurd h31 (by decide)
  apply BitVec.eq_of_getLsbD_eq
  intro i hi
  cases i with
  | zero => rw [h0]; simp
  | succ i =>
    have := hb i
    rw [h0, BitVec.getLsbD_xor, BitVec.getLsbD_ushiftRight, Nat.add_comm] at this
    simpa using this
theorem citer_inj0 : ∀ (n : Nat) (r : B32), citer n r = 0#32 → r = 0#32
  | 0, _, h => h
  | n + 1, r, h => csh_inj0 (citer_inj0 n _ h)
theorem cstep_xor (r s : B32) (a b : Bool) : cstep (r ^^^ s) (a ^^ b) = cstep r a ^^^ cstep s b := by
  rw [cstep_eq, cstep_eq, cstep_eq, ← csh_xor]
  congr 1
  have : (if (a ^^ b) then 1#32 else 0#32) = (if a then 1#32 else 0#32) ^^^ (if b then 1#32 else 0#32) := by cases a <;> cases b <;> decide
  rw [this]
  generalize (if a then 1#32 else 0#32) = p
  generalize (if b then 1#32 else 0#32) = q
  ac_rfl
theorem fold_xor : ∀ (ws bs : List Bool) (r s : B32), ws.length = bs.length → (List.zipWith xor ws bs).foldl cstep (r ^^^ s) = ws.foldl cstep r ^^^ bs.foldl cstep s
  | [], [], _, _, _ => rfl
  | a :: ws, b :: bs, r, s, h => by
    simp only [List.zipWith_cons_cons, List.foldl_cons, cstep_xor]
    exact fold_xor ws bs _ _ (by simpa using h)
  | [], _ :: _, _, _, h => by simp at h
  | _ :: _, [], _, _, h => by simp at h
theorem cstep_false (r : B32) : cstep r false = csh r := by rw [cstep_eq]; simp
theorem fold_false : ∀ (n : Nat) (r : B32), (List.replicate n false).foldl cstep r = citer n r
  | 0, _ => rfl
  | n + 1, r => by rw [List.replicate_succ, List.foldl_cons, cstep_false, fold_false n]; rfl
theorem bits_get : ∀ (n c j : Nat), j < n → (bits n c)[j]? = some (c.testBit j)
  | n + 1, c, 0, _ => by
    rw [bits, List.getElem?_cons_zero, Nat.testBit_zero]
    rcases Nat.mod_two_eq_zero_or_one c with h | h <;> rw [h] <;> rfl
  | n + 1, c, j + 1, h => by
    rw [bits, List.getElem?_cons_succ, bits_get n (c / 2) j (by omega), Nat.testBit_succ]
theorem digits_get : ∀ (o : List Nat) (p : Nat), p < 8 * o.length → (digits o)[p]? = some ((o.getD (p / 8) 0).testBit (p % 8))
  | [], p, h => by simp at h
  | x :: o, p, h => by
    simp only [digits, List.flatMap_cons]
    by_cases hp : p < 8
    · rw [List.getElem?_append_left (by simpa using hp), bits_get 8 x p hp, Nat.div_eq_of_lt hp, Nat.mod_eq_of_lt hp]
      rfl
    · rw [List.getElem?_append_right (by simpa using Nat.le_of_not_lt hp), bits_len]
      have := digits_get o (p - 8) (by simp at h; omega)
      simp only [digits] at this
      rw [this]
      have e1 : p / 8 = (p - 8) / 8 + 1 := by omega
      have e2 : p % 8 = (p - 8) % 8 := by omega
      rw [e1, e2]
      rfl
/-- a short change is seen in the check -/
theorem crc_finds {o b : List Nat} {a c : Nat} (ho : ∀ x ∈ o, x < 256) (hb : ∀ x ∈ b, x < 256) (hl : o.length = b.length) (ha : a ≤ 8 * b.length)
    (h : ∀ p, p < 8 * b.length → (o.getD (p / 8) 0).testBit (p % 8) = ((b.getD (p / 8) 0).testBit (p % 8) ^^ (decide (a ≤ p ∧ p < a + 32) && c.testBit (p - a)))) :
    (crcs 0 o = crcs 0 b) ↔ c % 2 ^ (min 32 (8 * b.length - a)) = 0 := by
  obtain ⟨m, hm⟩ : ∃ m, m = min 32 (8 * b.length - a) := ⟨_, rfl⟩
  rw [← hm]
  have hE : digits o = List.zipWith xor (digits b) (List.replicate a false ++ bits m (c % 2 ^ m) ++ List.replicate (8 * b.length - a - m) false) := by
    apply List.ext_getElem?
    intro p
    by_cases hp : p < 8 * b.length
    · rw [digits_get o p (by omega), h p hp, List.getElem?_zipWith, digits_get b p hp]
      have e : (List.replicate a false ++ bits m (c % 2 ^ m) ++ List.replicate (8 * b.length - a - m) false)[p]? = some (decide (a ≤ p ∧ p < a + 32) && c.testBit (p - a)) := by
        rw [List.append_assoc]
        by_cases h1 : p < a
        · have : ¬ a ≤ p := by omega
          rw [List.getElem?_append_left (by simpa using h1)]
          simp [h1, this]
        · rw [List.getElem?_append_right (by simpa using Nat.le_of_not_lt h1), List.length_replicate]
          by_cases h2 : p - a < m
          · have h3 : a ≤ p ∧ p < a + 32 := by omega
            rw [List.getElem?_append_left (by simpa using h2), bits_get m _ _ h2, Nat.testBit_mod_two_pow]
            simp [h2, h3]
          · have h3 : ¬ (a ≤ p ∧ p < a + 32) := by omega
            rw [List.getElem?_append_right (by simpa using Nat.le_of_not_lt h2), bits_len, List.getElem?_replicate, if_pos (by omega)]
            simp [h3]
      rw [e]
    · rw [List.getElem?_eq_none (by rw [digits_len]; omega), List.getElem?_eq_none]
      rw [List.length_zipWith, digits_len]; omega
  have hlen : (digits b).length = (List.replicate a false ++ bits m (c % 2 ^ m) ++ List.replicate (8 * b.length - a - m) false).length := by
    simp; omega
  have h1 : ~~~ (crcs 0#32 o) = (digits o).foldl cstep (~~~ 0#32) := crcs_digits o 0 ho
  have h2 : ~~~ (crcs 0#32 b) = (digits b).foldl cstep (~~~ 0#32) := crcs_digits b 0 hb
  show (crcs 0#32 o = crcs 0#32 b) ↔ _
  have hx := fold_xor (digits b) _ (~~~ 0#32) 0#32 hlen
  rw [BitVec.xor_zero, ← hE, ← h1, ← h2] at hx
  have hF : (List.replicate a false ++ bits m (c % 2 ^ m) ++ List.replicate (8 * b.length - a - m) false).foldl cstep 0#32 = citer (8 * b.length - a - m) (citer m (BitVec.ofNat 32 (c % 2 ^ m))) := by
    rw [List.foldl_append, List.foldl_append, fold_false, fold_false, citer_zero, ← citer_bits m 0#32 _ (Nat.mod_lt _ (Nat.two_pow_pos m)) (by omega), BitVec.zero_xor]
  rw [hF] at hx
  have hc : c % 2 ^ m < 2 ^ 32 := Nat.lt_of_lt_of_le (Nat.mod_lt _ (Nat.two_pow_pos m)) (Nat.pow_le_pow_right (by decide) (by omega))
  constructor
  · intro e
    rw [e] at hx
    have h0 : citer (8 * b.length - a - m) (citer m (BitVec.ofNat 32 (c % 2 ^ m))) = 0#32 := by
      have : ∀ x y : B32, x = x ^^^ y → y = 0#32 := fun x y hxy => by
        have h5 : x ^^^ x = x ^^^ (x ^^^ y) := by rw [← hxy]
        rw [BitVec.xor_self, ← BitVec.xor_assoc, BitVec.xor_self, BitVec.zero_xor] at h5
        exact h5.symm
      exact this _ _ hx
    have h6 := citer_inj0 _ _ (citer_inj0 _ _ h0)
    have h7 := congrArg BitVec.toNat h6
    rw [BitVec.toNat_ofNat, Nat.mod_eq_of_lt hc] at h7
    simpa using h7
  · intro e
    rw [e] at hx
    have h8 : citer (8 * b.length - a - m) (citer m (BitVec.ofNat 32 0)) = 0#32 := by
      rw [show BitVec.ofNat 32 0 = 0#32 from rfl, citer_zero, citer_zero]
    rw [h8, BitVec.xor_zero] at hx
    have h9 := congrArg (fun z : B32 => ~~~ z) hx
    simpa using h9
theorem mod_next (c i : Nat) : c % 2 ^ (i + 1) = 0 ↔ (c % 2 ^ i = 0 ∧ c.testBit i = false) := by
  have h1 := Nat.mod_add_div c (2 ^ i)
  have h2 : c % 2 ^ (i + 1) = c % 2 ^ i + 2 ^ i * (c / 2 ^ i % 2) := by rw [Nat.pow_succ, Nat.mod_mul]
  have h3 := Nat.two_pow_pos i
  rw [h2, Nat.testBit_eq_decide_div_mod_eq]
  rcases Nat.mod_two_eq_zero_or_one (c / 2 ^ i) with h | h <;> rw [h] <;> simp
end Go.Am
/- alibikit.Pick, alibilaw02.CrcFinds keep their contracts. -/
namespace Go.Am
set_option linter.all false
set_option linter.deprecated false
open Go.Proofs
set_option maxRecDepth 100000
set_option maxHeartbeats 4000000
def pickS (i n : Int) : Int := if n ≤ 0 then 0 else i % n
def pickC : Contract := { modes := [.ro, .ro], fn := fun args M => match args, M with
  | [.int .i64 i, .int .i64 n], [] => some ⟨[fun _ => n () < 4611686018427387904], .int .i64 fun _ => pickS (i ()) (n ()), []⟩
  | _, _ => none }
theorem pick_ok : CSound Try.prog 32 pickC := by
  refine fsound' (G := G0) (c := codeOf Try.f32) mixed tyT (gget_nil _) Try.func32 (by rfl) (by kernel_rfl) (by kernel_rfl) fun args M r hr hvc hw hm => ?_
  unfold pickC at hr
  simp only at hr
  split at hr <;> cases hr
  rename_i i n
  have hb : n () < 4611686018427387904 := hvc _ (List.mem_singleton.2 rfl)
  clear hvc hm
  have hx : i = fun _ => i () := rfl
  generalize i () = i at hx
  subst hx
  have hx : n = fun _ => n () := rfl
  generalize n () = n at hx hb
  subst hx
  simp only [WfVs, WfV, and_true, i64_iff] at hw
  conv => cbv
  refine Split.mk (fun h => ?_) (fun h => ?_)
  · have h : n ≤ 0 := of_decide_eq_true h
    have e : pickS i n = 0 := if_pos h
    conv => cbv
    simp only [Hold.iff, e]
  · have h : ¬ n ≤ 0 := of_decide_eq_false h
    have hn : n ≠ 0 := by omega
    have e : pickS i n = i % n := if_neg h
    have e1 := Int.emod_nonneg i hn
    have e2 := Int.emod_lt_of_pos i (show 0 < n by omega)
    have key : (IntKind.i64.wrap (i.tmod n + n)).tmod n = pickS i n := by
      rw [e]
      by_cases hi : 0 ≤ i
      · rw [Int.tmod_eq_emod_of_nonneg hi, wrap_i64 (by omega), Int.tmod_eq_emod_of_nonneg (by omega), Int.add_emod_right, Int.emod_emod_of_dvd _ (Int.dvd_refl n)]
      · have h1 : i.tmod n = -((-i) % n) := by
          have : i = -(-i) := by omega
          rw [this, Int.neg_tmod, Int.tmod_eq_emod_of_nonneg (by omega), Int.neg_neg]
        have h3 := Int.emod_nonneg (-i) hn
        have h4 := Int.emod_lt_of_pos (-i) (show 0 < n by omega)
        rw [h1, wrap_i64 (by omega), Int.tmod_eq_emod_of_nonneg (by omega), Int.add_emod_right]
        have h5 : (-((-i) % n)) % n = i % n := by
          have : -((-i) % n) = i + n * ((-i) / n) := by
            have := Int.emod_add_mul_ediv (-i) n
            omega
          rw [this, Int.add_mul_emod_self_left]
        exact h5
    conv => cbv
    exact ⟨⟨hn⟩, ⟨hn⟩, ⟨key⟩⟩
def findsC : Contract := { modes := [], fn := fun args M => match args, M with
  | [.sl _ [.int .u8] _, .int .i64 _, .int .u32 _], [] => some ⟨[], .bool (fun _ => true), []⟩
  | _, _ => none }
def Lf1 : List (Nat × Contract) := [(27, trueC), (20, ownC), (32, pickC), (33, sumC)]
def Gf1 : Ctx := fun f => gget Lf1 f
theorem Gf1_ok : ∀ f C, Gf1 f = some C → CSound Try.prog f C := gget_cons works2_ok (gget_cons own_ok (gget_cons pick_ok (gget_cons sum_ok (gget_nil _))))
theorem bn_set (o : List (List D)) (k v : Nat) : bn (o.set k [D.int (v : Int)]) = (bn o).set k v := by
  simp only [bn, List.map_set]
  rfl
theorem WfR.set8 {o : List (List D)} (h : WfR U8 o) (k v : Nat) (hv : v < 256) : WfR U8 (o.set k [D.int (v : Int)]) := by
  refine ⟨by simpa using h.1, fun i hi => ?_⟩
  rw [List.length_set] at hi
  by_cases hk : k = i
  · subst hk
    have : lk (o.set k [D.int (v : Int)]) k = [D.int (v : Int)] := by simp [lk, List.getD, hi]
    rw [this]
    simp only [WfDs, WfD, and_true, lk, List.getD, List.getElem?_cons_zero, Option.getD_some, D.toInt, u8_iff]
    omega
  · have : lk (o.set k [D.int (v : Int)]) i = lk o i := by simp only [lk, List.getD]; rw [List.getElem?_set_ne hk]
    rw [this]
    exact h.2 i hi
structure FnI (b : List (List D)) (a c : Nat) where
  i : Nat
  o : List (List D)
  hi : i ≤ 32
  hl : o.length = b.length
  ho : WfR U8 o
  h : ∀ p, p < 8 * b.length → ((bn o).getD (p / 8) 0).testBit (p % 8) = (((bn b).getD (p / 8) 0).testBit (p % 8) ^^ (decide (a ≤ p ∧ p < a + i) && c.testBit (p - a)))
theorem fn_yes {b : List (List D)} {a c : Nat} (s : FnI b a c) (h1 : s.i < 32) (hc : c.testBit s.i = true) (h2 : a + s.i < 8 * b.length) :
    ∃ s' : FnI b a c, s'.i = s.i + 1 ∧ s'.o = s.o.set ((a + s.i) / 8) [D.int (((bn s.o).getD ((a + s.i) / 8) 0 ^^^ 2 ^ ((a + s.i) % 8) : Nat) : Int)] := by
  obtain ⟨i, o, hi, hl, ho, h⟩ := s
  simp only at h1 hc h2 ⊢
  have hk : (a + i) / 8 < o.length := by omega
  have hv : (bn o).getD ((a + i) / 8) 0 < 256 := bn_lt ho _ (by simp [List.getD, hk])
  have hv2 : (bn o).getD ((a + i) / 8) 0 ^^^ 2 ^ ((a + i) % 8) < 256 := Nat.xor_lt_two_pow (n := 8) hv (Nat.pow_lt_pow_right (by decide) (Nat.mod_lt _ (by decide)))
  refine ⟨⟨i + 1, o.set ((a + i) / 8) [D.int (((bn o).getD ((a + i) / 8) 0 ^^^ 2 ^ ((a + i) % 8) : Nat) : Int)], by omega, by simpa using hl, ho.set8 _ _ hv2, fun p hp => ?_⟩, rfl, rfl⟩
  have hk' : (a + i) / 8 < (bn o).length := by simpa using hk
  have hp' := h p hp
  rw [bn_set]
  by_cases hq : p / 8 = (a + i) / 8
  · have e1 : ((bn o).set ((a + i) / 8) ((bn o).getD ((a + i) / 8) 0 ^^^ 2 ^ ((a + i) % 8))).getD (p / 8) 0 = (bn o).getD (p / 8) 0 ^^^ 2 ^ ((a + i) % 8) := by
      rw [hq]
      simp only [List.getD]
      rw [List.getElem?_set_self hk']
      rfl
    rw [e1, Nat.testBit_xor, hp', Nat.testBit_two_pow]
    by_cases hr : p = a + i
    · subst hr
      have d1 : decide (a ≤ a + i ∧ a + i < a + i) = false := by simp
      have d2 : decide (a ≤ a + i ∧ a + i < a + (i + 1)) = true := by rw [decide_eq_true_iff]; omega
      rw [d1, d2, Nat.add_sub_cancel_left, hc]
      simp
    · have d1 : decide (a ≤ p ∧ p < a + i) = decide (a ≤ p ∧ p < a + (i + 1)) := by rw [decide_eq_decide]; omega
      have d2 : decide ((a + i) % 8 = p % 8) = false := by rw [decide_eq_false_iff_not]; omega
      rw [d1, d2]
      simp
  · have e1 : ((bn o).set ((a + i) / 8) ((bn o).getD ((a + i) / 8) 0 ^^^ 2 ^ ((a + i) % 8))).getD (p / 8) 0 = (bn o).getD (p / 8) 0 := by
      simp only [List.getD]
      rw [List.getElem?_set_ne (Ne.symm hq)]
    have d1 : decide (a ≤ p ∧ p < a + i) = decide (a ≤ p ∧ p < a + (i + 1)) := by rw [decide_eq_decide]; omega
    rw [e1, hp', d1]
theorem fn_no {b : List (List D)} {a c : Nat} (s : FnI b a c) (h1 : s.i < 32) (hc : c.testBit s.i = false ∨ ¬ a + s.i < 8 * b.length) : ∃ s' : FnI b a c, s'.i = s.i + 1 ∧ s'.o = s.o := by
  obtain ⟨i, o, hi, hl, ho, h⟩ := s
  simp only at h1 hc ⊢
  refine ⟨⟨i + 1, o, by omega, hl, ho, fun p hp => ?_⟩, rfl, rfl⟩
  rw [h p hp]
  by_cases hr : p = a + i
  · subst hr
    have hc : c.testBit i = false := hc.resolve_right (by omega)
    rw [Nat.add_sub_cancel_left, hc]
    simp
  · have d1 : decide (a ≤ p ∧ p < a + i) = decide (a ≤ p ∧ p < a + (i + 1)) := by rw [decide_eq_decide]; omega
    rw [d1]
theorem ishl8 (t : Nat) (h : t < 8) : ishl .u8 1 (t : Int) = ((2 ^ t : Nat) : Int) := by
  have : ∀ t : Nat, t < 8 → ishl .u8 1 (t : Int) = ((2 ^ t : Nat) : Int) := by decide
  exact this t h
theorem finds_ok : CSound Try.prog 6 findsC := by
  refine fsound' (G := Gf1) (c := codeOf Try.f6) mixed tyT Gf1_ok Try.func6 (by rfl) (by kernel_rfl) (by kernel_rfl) fun args M r hr hvc hw hm => ?_
  unfold findsC at hr
  simp only at hr
  split at hr <;> cases hr
  rename_i nn b at_ c
  clear hvc hm
  have hx : b = fun _ => b () := rfl
  generalize b () = b at hx
  subst hx
  have hx : at_ = fun _ => at_ () := rfl
  generalize at_ () = q at hx
  subst hx
  have hx : c = fun _ => c () := rfl
  generalize c () = c at hx
  subst hx
  simp only [WfVs, WfV, and_true, i64_iff, u32_iff] at hw
  obtain ⟨hb, hq, hc⟩ := hw
  have ⟨c, hcc⟩ := Int.eq_ofNat_of_zero_le hc.1
  subst hcc
  conv => cbv
  refine Split.mk (fun h => ?_) (fun h => ?_)
  · conv => cbv
    refine .yes ?_
    conv => cbv
    refine .yes ?_
    conv => cbv
    exact ⟨rfl⟩
  · have h : ¬ (400 : Int) < b.length := of_decide_eq_false h
    have hb4 : b.length ≤ 400 := by omega
    conv => cbv
    refine Split.mk (fun h2 => ?_) (fun h2 => ?_)
    · conv => cbv
      refine .yes ?_
      conv => cbv
      exact ⟨rfl⟩
    · have h2 : (b.length : Int) ≠ 0 := eq_f h2
      conv => cbv
      refine Split.mk (fun h3 => ?_) (fun h3 => ?_)
      · conv => cbv
        exact ⟨rfl⟩
      · have h3 : (c : Int) ≠ 0 := eq_f h3
        have v1 : b.length ≤ big := by simp only [big]; omega
        have w8 : IntKind.i64.wrap (8 * (b.length : Int)) = ((8 * b.length : Nat) : Int) := by rw [wrap_i64 (by omega)]; omega
        have v2 : IntKind.i64.wrap (8 * (b.length : Int)) < 4611686018427387904 := by rw [w8]; omega
        obtain ⟨a, ha⟩ : ∃ a : Nat, pickS q (IntKind.i64.wrap (8 * (b.length : Int))) = (a : Int) := by
          rw [w8, pickS, if_neg (by omega)]
          exact ⟨(q % ((8 * b.length : Nat) : Int)).toNat, by have := Int.emod_nonneg q (show ((8 * b.length : Nat) : Int) ≠ 0 by omega); omega⟩
        have hal : a < 8 * b.length := by
          have h4 := Int.emod_lt_of_pos q (show (0 : Int) < ((8 * b.length : Nat) : Int) by omega)
          rw [w8, pickS, if_neg (by omega)] at ha
          omega
        have hbi : 8 * b.length - a > 0 := by omega
        conv => cbv
        refine ⟨⟨v1⟩, ⟨v2⟩, LoopP.mk (FnI b a c) (fun s => ⟨ev 78 [(0, .sl false U8 fun _ => b), (1, .int .i64 fun _ => (a : Int)), (2, .int .u32 fun _ => ((c / 2 ^ s.i : Nat) : Int)), (6, .bool fun _ => false), (7, .ms 0 (fun _ => 0) (fun _ => b.length)), (8, .bool fun _ => decide (c % 2 ^ (min s.i (8 * b.length - a)) ≠ 0)), (9, .int .i64 fun _ => (s.i : Int))], [(0, .row false U8 fun _ => s.o)], 8⟩) (fun s => 32 - s.i) ⟨0, b, by omega, rfl, hb, fun p hp => by
          have : decide (a ≤ p ∧ p < a + 0) = false := by rw [decide_eq_false_iff_not]; omega
          rw [this]; simp⟩ ?_ ?_⟩
        · have e1 : (c : Int) = ((c / 2 ^ 0 : Nat) : Int) := by simp
          have e2 : false = decide (c % 2 ^ (min 0 (8 * b.length - a)) ≠ 0) := by simp [Nat.mod_one]
          conv => cbv
          exact ⟨⟨rfl⟩, ⟨ha⟩, ⟨e1⟩, ⟨rfl⟩, ⟨rfl, rfl⟩, ⟨e2⟩, ⟨rfl⟩, ⟨rfl⟩⟩
        · intro s
          have hsi := s.hi
          have hsl := s.hl
          have t1 : (((c / 2 ^ s.i : Nat) : Int).tmod 2 == 1) = c.testBit s.i := by
            have e : (((c / 2 ^ s.i : Nat) : Int).tmod 2) = ((c / 2 ^ s.i % 2 : Nat) : Int) := (Int.ofNat_tmod _ 2).symm
            rw [e, Nat.testBit_eq_decide_div_mod_eq]
            rcases Nat.mod_two_eq_zero_or_one (c / 2 ^ s.i) with h | h <;> rw [h] <;> rfl
          have t2 : IntKind.u32.wrap (((c / 2 ^ s.i : Nat) : Int).tdiv 2) = ((c / 2 ^ (s.i + 1) : Nat) : Int) := by
            have e : (((c / 2 ^ s.i : Nat) : Int).tdiv 2) = ((c / 2 ^ s.i / 2 : Nat) : Int) := (Int.ofNat_tdiv _ 2).symm
            have e2 : c / 2 ^ s.i / 2 = c / 2 ^ (s.i + 1) := by rw [Nat.div_div_eq_div_mul, ← Nat.pow_succ]
            have e3 : c / 2 ^ (s.i + 1) ≤ c := Nat.div_le_self _ _
            rw [e, e2, wrap_u32_mod]
            generalize c / 2 ^ (s.i + 1) = z at *
            omega
          have n2 : (2 : Int) ≠ 0 := by decide
          have n8 : (8 : Int) ≠ 0 := by decide
          conv => cbv
          refine Split.mk (fun h4 => ?_) (fun h4 => ?_)
          · have h4 : (s.i : Int) < 32 := of_decide_eq_true h4
            have h4 : s.i < 32 := by omega
            have w1 : IntKind.i64.wrap ((s.i : Int) + 1) = ((s.i + 1 : Nat) : Int) := by rw [wrap_i64 (by omega)]; omega
            have w2 : IntKind.i64.wrap ((a : Int) + (s.i : Int)) = ((a + s.i : Nat) : Int) := by rw [wrap_i64 (by omega)]; omega
            have hlt : 32 - (s.i + 1) < 32 - s.i := by omega
            have hmn := mod_next c s.i
            conv => cbv
            refine ⟨⟨n2⟩, Split.mk (fun h5 => ?_) (fun h5 => ?_)⟩
            · have h5 : c.testBit s.i = true := t1.symm.trans h5
              conv => cbv
              refine Split.mk (fun h6 => ?_) (fun h6 => ?_)
              · have h6 : IntKind.i64.wrap ((a : Int) + (s.i : Int)) < IntKind.i64.wrap (8 * (b.length : Int)) := of_decide_eq_true h6
                rw [w2, w8] at h6
                have h6 : a + s.i < 8 * b.length := by omega
                obtain ⟨s', g1, g2⟩ := fn_yes s h4 h5 h6
                have wq : IntKind.i64.wrap ((IntKind.i64.wrap ((a : Int) + (s.i : Int))).tdiv 8) = (((a + s.i) / 8 : Nat) : Int) := by
                  have e : (((a + s.i : Nat) : Int).tdiv 8) = (((a + s.i) / 8 : Nat) : Int) := (Int.ofNat_tdiv _ 8).symm
                  rw [w2, e, wrap_i64 (by omega)]
                have wm : (IntKind.i64.wrap ((a : Int) + (s.i : Int))).tmod 8 = (((a + s.i) % 8 : Nat) : Int) := by
                  have e : (((a + s.i : Nat) : Int).tmod 8) = (((a + s.i) % 8 : Nat) : Int) := (Int.ofNat_tmod _ 8).symm
                  rw [w2, e]
                have v3 : 0 ≤ IntKind.i64.wrap ((IntKind.i64.wrap ((a : Int) + (s.i : Int))).tdiv 8) ∧ IntKind.i64.wrap ((IntKind.i64.wrap ((a : Int) + (s.i : Int))).tdiv 8) < (b.length : Int) := by rw [wq]; omega
                have v4 : 0 + (IntKind.i64.wrap ((IntKind.i64.wrap ((a : Int) + (s.i : Int))).tdiv 8)).toNat < s.o.length := by rw [wq]; omega
                have v5 : 0 ≤ (IntKind.i64.wrap ((a : Int) + (s.i : Int))).tmod 8 := by rw [wm]; omega
                have hk : (a + s.i) / 8 < s.o.length := by omega
                have hld : (lk (lk s.o (0 + (IntKind.i64.wrap ((IntKind.i64.wrap ((a : Int) + (s.i : Int))).tdiv 8)).toNat)) 0).toInt = (((bn s.o).getD ((a + s.i) / 8) 0 : Nat) : Int) := by
                  rw [wq, Nat.zero_add, Int.toNat_natCast]; exact bn_at s.ho hk
                have hvv : (bn s.o).getD ((a + s.i) / 8) 0 < 256 := bn_lt s.ho _ (by simp [List.getD, hk])
                have hx8 : ibits .xor .u8 ((lk (lk s.o (0 + (IntKind.i64.wrap ((IntKind.i64.wrap ((a : Int) + (s.i : Int))).tdiv 8)).toNat)) 0).toInt) (ishl .u8 1 ((IntKind.i64.wrap ((a : Int) + (s.i : Int))).tmod 8)) = (((bn s.o).getD ((a + s.i) / 8) 0 ^^^ 2 ^ ((a + s.i) % 8) : Nat) : Int) := by
                  rw [hld, wm, ishl8 _ (Nat.mod_lt _ (by decide)), ib_xor8 _ _ hvv (Nat.pow_lt_pow_right (by decide) (Nat.mod_lt _ (by decide)))]
                have ech : true = decide (c % 2 ^ (min s'.i (8 * b.length - a)) ≠ 0) := by
                  symm
                  rw [decide_eq_true_iff, g1, show min (s.i + 1) (8 * b.length - a) = s.i + 1 by omega, Ne, hmn, h5]
                  simp
                have g3 : IntKind.u32.wrap (((c / 2 ^ s.i : Nat) : Int).tdiv 2) = ((c / 2 ^ s'.i : Nat) : Int) := by rw [g1]; exact t2
                have g4 : IntKind.i64.wrap ((s.i : Int) + 1) = (s'.i : Int) := by rw [g1]; exact w1
                have g5 : 32 - s'.i < 32 - s.i := by rw [g1]; exact hlt
                have g6 : s.o.set (0 + (IntKind.i64.wrap ((IntKind.i64.wrap ((a : Int) + (s.i : Int))).tdiv 8)).toNat) [D.int (ibits .xor .u8 ((lk (lk s.o (0 + (IntKind.i64.wrap ((IntKind.i64.wrap ((a : Int) + (s.i : Int))).tdiv 8)).toNat)) 0).toInt) (ishl .u8 1 ((IntKind.i64.wrap ((a : Int) + (s.i : Int))).tmod 8)))] = s'.o := by
                  rw [hx8, g2, wq, Nat.zero_add, Int.toNat_natCast]
                conv => cbv
                refine ⟨⟨n8⟩, ⟨v3⟩, ⟨v4⟩, ⟨n8⟩, ⟨v5⟩, ⟨v3⟩, ⟨v4⟩, ⟨n2⟩, ⟨s', g5, ?_⟩⟩
                conv => cbv
                exact ⟨⟨rfl⟩, ⟨rfl⟩, ⟨g3⟩, ⟨rfl⟩, ⟨rfl, rfl⟩, ⟨ech⟩, ⟨g4⟩, ⟨g6⟩⟩
              · have h6 : ¬ IntKind.i64.wrap ((a : Int) + (s.i : Int)) < IntKind.i64.wrap (8 * (b.length : Int)) := of_decide_eq_false h6
                rw [w2, w8] at h6
                have h6 : ¬ a + s.i < 8 * b.length := by omega
                obtain ⟨s', g1, g2⟩ := fn_no s h4 (.inr h6)
                have ech : decide (c % 2 ^ (min s.i (8 * b.length - a)) ≠ 0) = decide (c % 2 ^ (min s'.i (8 * b.length - a)) ≠ 0) := by
                  rw [g1, show min (s.i + 1) (8 * b.length - a) = min s.i (8 * b.length - a) by omega]
                have g3 : IntKind.u32.wrap (((c / 2 ^ s.i : Nat) : Int).tdiv 2) = ((c / 2 ^ s'.i : Nat) : Int) := by rw [g1]; exact t2
                have g4 : IntKind.i64.wrap ((s.i : Int) + 1) = (s'.i : Int) := by rw [g1]; exact w1
                have g5 : 32 - s'.i < 32 - s.i := by rw [g1]; exact hlt
                conv => cbv
                refine ⟨⟨n2⟩, ⟨s', g5, ?_⟩⟩
                conv => cbv
                exact ⟨⟨rfl⟩, ⟨rfl⟩, ⟨g3⟩, ⟨rfl⟩, ⟨rfl, rfl⟩, ⟨ech⟩, ⟨g4⟩, ⟨g2.symm⟩⟩
            · have h5 : c.testBit s.i = false := t1.symm.trans h5
              obtain ⟨s', g1, g2⟩ := fn_no s h4 (.inl h5)
              have ech : decide (c % 2 ^ (min s.i (8 * b.length - a)) ≠ 0) = decide (c % 2 ^ (min s'.i (8 * b.length - a)) ≠ 0) := by
                rw [g1]
                by_cases h7 : s.i < 8 * b.length - a
                · rw [show min (s.i + 1) (8 * b.length - a) = s.i + 1 by omega, show min s.i (8 * b.length - a) = s.i by omega, decide_eq_decide, Ne, Ne, hmn, h5]
                  simp
                · rw [show min (s.i + 1) (8 * b.length - a) = min s.i (8 * b.length - a) by omega]
              have g3 : IntKind.u32.wrap (((c / 2 ^ s.i : Nat) : Int).tdiv 2) = ((c / 2 ^ s'.i : Nat) : Int) := by rw [g1]; exact t2
              have g4 : IntKind.i64.wrap ((s.i : Int) + 1) = (s'.i : Int) := by rw [g1]; exact w1
              have g5 : 32 - s'.i < 32 - s.i := by rw [g1]; exact hlt
              conv => cbv
              refine .no ?_
              conv => cbv
              refine ⟨⟨n2⟩, ⟨s', g5, ?_⟩⟩
              conv => cbv
              exact ⟨⟨rfl⟩, ⟨rfl⟩, ⟨g3⟩, ⟨rfl⟩, ⟨rfl, rfl⟩, ⟨ech⟩, ⟨g4⟩, ⟨g2.symm⟩⟩
          · have h4 : ¬ (s.i : Int) < 32 := of_decide_eq_false h4
            have h32 : s.i = 32 := by omega
            have hfin := crc_finds (c := c) (a := a) (bn_lt s.ho) (bn_lt hb) (by simpa using s.hl) (by rw [bn_len]; omega) (fun p hp => by
              have := s.h p (by simpa using hp)
              rw [h32] at this
              exact this)
            rw [bn_len] at hfin
            have e1 : s.o.take b.length = s.o := List.take_of_length_le (by omega)
            have e2 : ((((crcs 0 (bn s.o)).toNat : Int) != ((crcs 0 (bn b)).toNat : Int)) == decide (c % 2 ^ (min s.i (8 * b.length - a)) ≠ 0)) = true := by
              rw [h32, beq_iff_eq]
              by_cases hz : c % 2 ^ (min 32 (8 * b.length - a)) = 0
              · rw [hfin.2 hz]
                simp [hz]
              · have hne : crcs 0 (bn s.o) ≠ crcs 0 (bn b) := fun hh => hz (hfin.1 hh)
                have : ((crcs 0 (bn s.o)).toNat : Int) ≠ ((crcs 0 (bn b)).toNat : Int) := fun hh => hne (BitVec.eq_of_toNat_eq (by omega))
                rw [bne_iff_ne.2 this]
                simp [hz]
            conv => cbv
            refine ⟨⟨by simp; omega⟩, ⟨by simp⟩, ⟨?_⟩, ⟨by simp⟩, ⟨?_⟩, .ofT ?_ ?_⟩
            · simp; omega
            · simp; omega
            · simp only [chunk11, List.drop_zero, List.take_succ_cons, List.take_zero, fl_one, e1]
              exact e2
            · conv => cbv
              exact ⟨rfl⟩
end Go.Am
/- alibilaw01.VarintWrites keeps its contract: it returns true. -/
namespace Go.Am
set_option linter.all false
set_option linter.deprecated false
open Go.Proofs
set_option maxRecDepth 100000
set_option maxHeartbeats 4000000
def Lw8 : List (Nat × Contract) := [(18, trueC), (20, ownC), (22, sameC), (23, rputC'), (25, spoilC), (32, pickC), (34, fewC), (35, numberC), (36, rawC), (37, textC), (38, bytesC), (39, wlenC)]
def Gw8 : Ctx := fun f => gget Lw8 f
theorem Gw8_ok : ∀ f C, Gw8 f = some C → CSound Try.prog f C := gget_cons works_ok (gget_cons own_ok (gget_cons same_ok (gget_cons rput_ok (gget_cons spoil_ok (gget_cons pick_ok (gget_cons few_ok (gget_cons number_ok (gget_cons raw_ok (gget_cons text_ok (gget_cons bytes_ok (gget_cons wlen_ok (gget_nil _))))))))))))
def adds (c : List D) : List (List D) :=
  if pickS (lk c 0).toInt 4 = 0 then rowB (putB (lk c 1).toInt.toNat)
  else if pickS (lk c 0).toInt 4 = 1 then (lk c 3).toList
  else if pickS (lk c 0).toInt 4 = 2 then rowB (putB (lk c 3).toList.length) ++ (lk c 3).toList
  else rowB (puts (un (lk c 4).toList))
theorem few_lens {c : List D} (h : fewOk c = true) : (lk c 3).toList.length ≤ 60 ∧ (lk c 4).toList.length ≤ 60 := by
  simp [fewOk] at h; omega
theorem adds_len {c : List D} (h : fewOk c = true) : (adds c).length ≤ 600 := by
  have h := few_lens h
  have h1 := put1_len 9 (lk c 1).toInt.toNat
  have h2 := put1_len 9 (lk c 3).toList.length
  have h3 := puts_len (un (lk c 4).toList)
  rw [un_len] at h3
  rw [← putB] at h1 h2
  unfold adds
  split
  · rw [rowB_len]; omega
  · split
    · omega
    · split
      · rw [List.length_append, rowB_len]; omega
      · rw [rowB_len]; omega
theorem fewS_at {x : List (List D)} {i : Nat} (h : fewS x = true) (hi : i < x.length) : fewOk (lk x i) = true := by
  simp only [fewS, Bool.and_eq_true, decide_eq_true_eq, List.all_eq_true] at h
  refine h.1 _ ?_
  have e : lk x i = (x.take 31)[i]'(by simp; omega) := by simp [lk, List.getD, hi]
  rw [e]
  exact List.getElem_mem _
def writesC : Contract := { modes := [.ro], fn := fun args M => match args, M with
  | [.sl _ [.int .i64, .int .u64, .int .i64, .slice [.int .u8], .slice [.int .u64]] xs], [] => some ⟨[], .bool fun _ => true, []⟩
  | _, _ => none }
structure WrI (x : List (List D)) where
  i : Nat
  hi : i ≤ x.length
  out : List (List D)
  hb : out.length ≤ 600 * i
theorem writes_ok : CSound Try.prog 8 writesC := by
  refine fsound' (G := Gw8) (c := codeOf Try.f8) mixed tyT Gw8_ok Try.func8 (by rfl) (by kernel_rfl) (by kernel_rfl) fun args M r hr hvc hw hm => ?_
  unfold writesC at hr
  simp only at hr
  split at hr <;> cases hr
  rename_i nn xs
  clear hvc hm
  have hx : xs = fun _ => xs () := rfl
  generalize xs () = x at hx
  subst hx
  simp only [WfVs, WfV, and_true] at hw
  have hx := hw.1
  conv => cbv
  refine Split.mk (fun h => ?_) (fun h => ?_)
  · conv => cbv
    exact ⟨rfl⟩
  have hF : fewS x = true := by simpa using h
  have hlen : x.length ≤ 30 := by simp only [fewS, Bool.and_eq_true, decide_eq_true_eq] at hF; exact hF.2
  conv => cbv
  refine LoopP.mk (WrI x) (fun s => ⟨ev 107 [(0, .sl false ActS fun _ => x), (2, .bool fun _ => false), (3, .mp 0 0), (4, .ms 2 (fun _ => 0) fun _ => s.out.length), (5, .int .i64 fun _ => (s.i : Int))], [(0, .obj [.ms 1 (fun _ => 0) (fun _ => s.out.length)]), (1, .row false U8 fun _ => s.out), (2, .row false U8 fun _ => s.out)], 8⟩) (fun s => x.length - s.i) ⟨0, Nat.zero_le _, [], by simp⟩ ?_ ?_
  · conv => cbv
    simp [Hold.iff]
  · intro s
    have hi := s.hi
    have hb := s.hb
    conv => cbv
    refine Split.mk (fun h1 => ?_) (fun h1 => ?_)
    · have h1 : (s.i : Int) < (x.length : Int) := of_decide_eq_true h1
      have h1 : s.i < x.length := by omega
      have v1 : 0 ≤ (s.i : Int) ∧ (s.i : Int) < (x.length : Int) := by omega
      have hw1 : IntKind.i64.wrap ((s.i : Int) + 1) = ((s.i + 1 : Nat) : Int) := by rw [wrap_i64 (by omega)]; omega
      have hf := fewS_at hF h1
      have ho : s.out.length ≤ 18000 := by omega
      have hc : lk x ((s.i : Int)).toNat = lk x s.i := by rw [Int.toNat_natCast]
      rw [← hc] at hf
      have hnext : ∀ out : List (List D), out.length ≤ s.out.length + 600 → out.length ≤ 600 * (s.i + 1) := fun out h => by omega
      have hlt : x.length - (s.i + 1) < x.length - s.i := by omega
      conv => cbv
      refine ⟨⟨v1⟩, ?_⟩
      generalize lk x ((s.i : Int)).toNat = c at hf ⊢
      have hl := few_lens hf
      have ha := adds_len hf
      have h1p := (put1_len 9 (lk c 1).toInt.toNat).2
      have h2p := (put1_len 9 (lk c 3).toList.length).2
      rw [← putB] at h1p h2p
      have hu : IntKind.u64.wrap ((lk c 3).toList.length : Int) = ((lk c 3).toList.length : Int) := wrap_u64 (by omega)
      have hu2 : ∀ n : Int, puts (un [[D.int n]]) = putB n.toNat := fun n => by rw [un_one, puts_one]
      have t1 : List.take (s.out.length + (putB (lk c 3).toList.length).length) (s.out ++ rowB (putB (lk c 3).toList.length)) = s.out ++ rowB (putB (lk c 3).toList.length) := List.take_of_length_le (by simp)
      have t2 : List.take (s.out.length + ((putB (lk c 3).toList.length).length + (lk c 3).toList.length)) (s.out ++ (rowB (putB (lk c 3).toList.length) ++ (lk c 3).toList)) = s.out ++ (rowB (putB (lk c 3).toList.length) ++ (lk c 3).toList) := List.take_of_length_le (by simp)
      have t3 : List.take (s.out.length + (putB (lk c 3).toList.length).length + (lk c 3).toList.length) (s.out ++ (rowB (putB (lk c 3).toList.length) ++ (lk c 3).toList)) = s.out ++ (rowB (putB (lk c 3).toList.length) ++ (lk c 3).toList) := List.take_of_length_le (by simp; omega)
      have v2 : (lk c 3).toList.length ≤ big := by simp only [big]; omega
      have v3 : (4 : Int) < 4611686018427387904 := by omega
      refine ⟨⟨v2⟩, ⟨v3⟩, Split.mk (fun hA => ?_) (fun hA => ?_)⟩
      · conv => cbv
        repeat (first | (refine .ofF ?_ ?_; (focus (simp [hu, hu2]; done)); conv => cbv) | (refine .ofT ?_ ?_; (focus (simp [hu, hu2]; done)); conv => cbv) | (refine ⟨⟨?_⟩, ?_⟩; (focus (first | (simp [hu, hu2]; done) | (simp [big, hu, hu2]; omega)))))
        have hp : pickS (lk c 0).toInt 4 = 0 := by simpa using hA
        have he : adds c = rowB (putB (lk c 1).toInt.toNat) := by rw [adds, if_pos hp]
        refine ⟨⟨s.i + 1, h1, s.out ++ rowB (putB (lk c 1).toInt.toNat), hnext _ (by rw [← he, List.length_append]; omega)⟩, hlt, ?_⟩
        conv => cbv
        simp [Hold.iff, hu2, hw1]
      · conv => cbv
        refine Split.mk (fun hB => ?_) (fun hB => ?_)
        · conv => cbv
          repeat (first | (refine .ofF ?_ ?_; (focus (simp [hu, hu2]; done)); conv => cbv) | (refine .ofT ?_ ?_; (focus (simp [hu, hu2]; done)); conv => cbv) | (refine ⟨⟨?_⟩, ?_⟩; (focus (first | (simp [hu, hu2]; done) | (simp [big, hu, hu2]; omega)))))
          have hp0 : ¬ pickS (lk c 0).toInt 4 = 0 := by simpa using hA
          have hp : pickS (lk c 0).toInt 4 = 1 := by simpa using hB
          have he : adds c = (lk c 3).toList := by rw [adds, if_neg hp0, if_pos hp]
          refine ⟨⟨s.i + 1, h1, s.out ++ (lk c 3).toList, hnext _ (by rw [← he, List.length_append]; omega)⟩, hlt, ?_⟩
          conv => cbv
          simp [Hold.iff, hu2, hw1]
        · conv => cbv
          refine Split.mk (fun hC => ?_) (fun hC => ?_)
          · conv => cbv
            repeat (first | (refine .ofF ?_ ?_; (focus (simp [hu, hu2, t1, t2, t3]; done)); conv => cbv) | (refine .ofT ?_ ?_; (focus (simp [hu, hu2, t1, t2, t3]; done)); conv => cbv) | (refine ⟨⟨?_⟩, ?_⟩; (focus (first | (simp [hu, hu2, t1, t2, t3]; done) | (simp [big, hu, hu2, t1, t2, t3]; omega)))))
            have hp0 : ¬ pickS (lk c 0).toInt 4 = 0 := by simpa using hA
            have hp1 : ¬ pickS (lk c 0).toInt 4 = 1 := by simpa using hB
            have hp : pickS (lk c 0).toInt 4 = 2 := by simpa using hC
            have he : adds c = rowB (putB (lk c 3).toList.length) ++ (lk c 3).toList := by rw [adds, if_neg hp0, if_neg hp1, if_pos hp]
            refine ⟨⟨s.i + 1, h1, s.out ++ (rowB (putB (lk c 3).toList.length) ++ (lk c 3).toList), hnext _ (by rw [← he, List.length_append]; omega)⟩, hlt, ?_⟩
            conv => cbv
            simp [Hold.iff, hu, hu2, hw1, t1, t2, t3, Nat.add_assoc]
          · conv => cbv
            repeat (first | (refine .ofF ?_ ?_; (focus (simp [hu, hu2, t1, t2, t3]; done)); conv => cbv) | (refine .ofT ?_ ?_; (focus (simp [hu, hu2, t1, t2, t3]; done)); conv => cbv) | (refine ⟨⟨?_⟩, ?_⟩; (focus (first | (simp [hu, hu2, t1, t2, t3]; done) | (simp [big, hu, hu2, t1, t2, t3]; omega)))))
            have hp0 : ¬ pickS (lk c 0).toInt 4 = 0 := by simpa using hA
            have hp1 : ¬ pickS (lk c 0).toInt 4 = 1 := by simpa using hB
            have hp : ¬ pickS (lk c 0).toInt 4 = 2 := by simpa using hC
            have he : adds c = rowB (puts (un (lk c 4).toList)) := by rw [adds, if_neg hp0, if_neg hp1, if_neg hp]
            have hlt' := hlt
            refine LoopP.mk {j : Nat // j ≤ (lk c 4).toList.length} (fun j => ⟨ev 107 [(0, .sl false ActS fun _ => x), (2, .bool fun _ => false), (3, .mp 0 0), (4, .ms 2 (fun _ => 0) fun _ => s.out.length + (puts ((un (lk c 4).toList).take j.1)).length), (5, .int .i64 fun _ => (s.i : Int)), (6, .mp 3 0), (7, .ms 4 (fun _ => 0) fun _ => (lk c 3).toList.length), (8, .int .i64 fun _ => 0), (9, .int .i64 fun _ => (j.1 : Int))],
              [(0, .obj [.ms 1 (fun _ => 0) (fun _ => s.out.length + (puts (un (lk c 4).toList)).length)]), (1, .row false U8 fun _ => s.out ++ rowB (puts (un (lk c 4).toList))), (2, .row false U8 fun _ => s.out ++ rowB (puts ((un (lk c 4).toList).take j.1))),
               (3, .obj [.int .i64 fun _ => (lk c 0).toInt, .int .u64 fun _ => (lk c 1).toInt, .int .i64 fun _ => (lk c 2).toInt, .sl false [.int .u8] fun _ => (lk c 3).toList, .sl false [.int .u64] fun _ => (lk c 4).toList]), (4, .row false U8 fun _ => (lk c 3).toList)], 10⟩) (fun j => (lk c 4).toList.length - j.1) ⟨0, Nat.zero_le _⟩ ?_ ?_
            · conv => cbv
              simp [Hold.iff, puts, rowB]
            · intro ⟨j, hj⟩
              have hpl := @puts_take_len (lk c 4).toList j
              conv => cbv
              refine Split.mk (fun h => ?_) (fun h => ?_)
              · have h : (j : Int) < ((lk c 4).toList.length : Int) := of_decide_eq_true h
                have h : j < (lk c 4).toList.length := by omega
                have v4 : 0 ≤ (j : Int) ∧ (j : Int) < ((lk c 4).toList.length : Int) := by omega
                have hw2 : IntKind.i64.wrap ((j : Int) + 1) = ((j + 1 : Nat) : Int) := by rw [wrap_i64 (by omega)]; omega
                have hlt2 : j + 1 ≤ (lk c 4).toList.length ∧ (lk c 4).toList.length - (j + 1) < (lk c 4).toList.length - j := by omega
                have hpp := puts_take h
                have hpl1 := @puts_take_len (lk c 4).toList (j + 1)
                rw [hpp, List.length_append] at hpl1
                have t4 : List.take (s.out.length + (puts ((un (lk c 4).toList).take j)).length) (s.out ++ rowB (puts ((un (lk c 4).toList).take j))) = s.out ++ rowB (puts ((un (lk c 4).toList).take j)) := List.take_of_length_le (by simp)
                conv => cbv
                repeat (first | (refine ⟨⟨?_⟩, ?_⟩; (focus (first | exact v4 | (simp [t4]; done) | (simp [big, t4]; omega)))))
                refine ⟨⟨j + 1, hlt2.1⟩, hlt2.2, ?_⟩
                conv => cbv
                simp [Hold.iff, hw2, t4, hpp, Nat.add_assoc, rowB_append]
              · have h : ¬ (j : Int) < ((lk c 4).toList.length : Int) := of_decide_eq_false h
                have hj2 : j = (lk c 4).toList.length := by omega
                have e : (un (lk c 4).toList).take j = un (lk c 4).toList := List.take_of_length_le (by simp; omega)
                have hpl2 := puts_len (un (lk c 4).toList)
                rw [un_len] at hpl2
                have t5 : List.take (s.out.length + (puts (un (lk c 4).toList)).length) (s.out ++ rowB (puts (un (lk c 4).toList))) = s.out ++ rowB (puts (un (lk c 4).toList)) := List.take_of_length_le (by simp)
                conv => cbv
                repeat (first | (refine .ofF ?_ ?_; (focus (simp [e, t5]; done)); conv => cbv) | (refine .ofT ?_ ?_; (focus (simp [e, t5]; done)); conv => cbv) | (refine ⟨⟨?_⟩, ?_⟩; (focus (first | (simp [e, t5]; done) | (simp [big, e, t5]; omega)))))
                refine ⟨⟨s.i + 1, h1, s.out ++ rowB (puts (un (lk c 4).toList)), hnext _ (by rw [← he, List.length_append]; omega)⟩, hlt, ?_⟩
                conv => cbv
                simp [Hold.iff, e, hw1, t5]
    · have h1 : ¬ (s.i : Int) < (x.length : Int) := of_decide_eq_false h1
      have h2 : s.out.length ≤ big := by simp only [big]; omega
      conv => cbv
      refine ⟨⟨rfl, rfl, h2⟩, ⟨by simp⟩, ⟨by simp⟩, .ofT (by simp) ?_⟩
      conv => cbv
      exact ⟨rfl⟩
end Go.Am
/- varint.Reader (there): fail, well, At, Err, Left, Number keep their contracts. -/
namespace Go.Am
set_option linter.all false
set_option linter.deprecated false
open Go.Proofs
set_option maxRecDepth 100000
set_option maxHeartbeats 4000000
def rdFailC : Contract := { modes := [.mut, .ro], fn := fun args M => match args, M with
  | [.mp 0 0, .int .i64 v], [(0, .obj [.int .i64 a, .int .i64 e, .ms 1 lo len]), (1, .row false [.int .u8] _)] => some ⟨[], .tup [],
      [(0, some (.obj [.int .i64 a, .int .i64 fun _ => if e () = 0 then v () else e (), .ms 1 lo len]))]⟩
  | _, _ => none }
theorem rdFail_ok : CSound Try.prog 84 rdFailC := by
  refine fsound' (G := G0) (c := codeOf Try.f84) mixed tyT (gget_nil _) Try.func84 (by rfl) (by kernel_rfl) (by kernel_rfl) fun args M r hr hvc hw hm => ?_
  unfold rdFailC at hr
  simp only at hr
  split at hr <;> cases hr
  rename_i v a e lo len xs
  clear hvc hm hw
  conv => cbv
  refine Split.mk (fun h => ?_) (fun h => ?_)
  · have h : e () = 0 := of_decide_eq_true h
    conv => cbv
    simp [Hold.iff, h]
  · have h : ¬ e () = 0 := of_decide_eq_false h
    conv => cbv
    simp [Hold.iff, h]
def rdWellC : Contract := { modes := [.mut], fn := fun args M => match args, M with
  | [.mp 0 0], [(0, .obj [.int .i64 a, .int .i64 e, .ms 1 lo len]), (1, .row false [.int .u8] _)] => some ⟨[], .bool fun _ => decide (e () = 0), []⟩
  | _, _ => none }
theorem rdWell_ok : CSound Try.prog 83 rdWellC := by
  refine fsound' (G := G0) (c := codeOf Try.f83) mixed tyT (gget_nil _) Try.func83 (by rfl) (by kernel_rfl) (by kernel_rfl) fun args M r hr hvc hw hm => ?_
  unfold rdWellC at hr
  simp only at hr
  split at hr <;> cases hr
  rename_i a e lo len xs
  clear hvc hm hw
  conv => cbv
  repeat (first | (refine .ofF ?_ ?_; (focus (simp; done)); conv => cbv) | (refine .ofT ?_ ?_; (focus (simp; done)); conv => cbv))
  simp [Hold.iff]
  rfl
def rdAtC : Contract := { modes := [.mut], fn := fun args M => match args, M with
  | [.mp 0 0], [(0, .obj [.int .i64 a, .int .i64 e, .ms 1 lo len]), (1, .row false [.int .u8] _)] => some ⟨[], .int .i64 fun _ => a (), []⟩
  | _, _ => none }
theorem rdAt_ok : CSound Try.prog 54 rdAtC := by
  refine fsound' (G := G0) (c := codeOf Try.f54) mixed tyT (gget_nil _) Try.func54 (by rfl) (by kernel_rfl) (by kernel_rfl) fun args M r hr hvc hw hm => ?_
  unfold rdAtC at hr
  simp only at hr
  split at hr <;> cases hr
  rename_i a e lo len xs
  clear hvc hm hw
  conv => cbv
  refine .no ?_
  conv => cbv
  simp [Hold.iff]
def rdErrC : Contract := { modes := [.mut], fn := fun args M => match args, M with
  | [.mp 0 0], [(0, .obj [.int .i64 a, .int .i64 e, .ms 1 lo len]), (1, .row false [.int .u8] _)] => some ⟨[], .int .i64 fun _ => e (), []⟩
  | _, _ => none }
theorem rdErr_ok : CSound Try.prog 56 rdErrC := by
  refine fsound' (G := G0) (c := codeOf Try.f56) mixed tyT (gget_nil _) Try.func56 (by rfl) (by kernel_rfl) (by kernel_rfl) fun args M r hr hvc hw hm => ?_
  unfold rdErrC at hr
  simp only at hr
  split at hr <;> cases hr
  rename_i a e lo len xs
  clear hvc hm hw
  conv => cbv
  refine .no ?_
  conv => cbv
  simp [Hold.iff]
def rdLeftC : Contract := { modes := [.mut], fn := fun args M => match args, M with
  | [.mp 0 0], [(0, .obj [.int .i64 a, .int .i64 e, .ms 1 lo len]), (1, .row false [.int .u8] _)] => some ⟨[fun _ => 0 ≤ a () ∧ a () ≤ (len () : Int) ∧ len () ≤ big], .int .i64 fun _ => (len () : Int) - a (), []⟩
  | _, _ => none }
theorem rdLeft_ok : CSound Try.prog 55 rdLeftC := by
  refine fsound' (G := G0) (c := codeOf Try.f55) mixed tyT (gget_nil _) Try.func55 (by rfl) (by kernel_rfl) (by kernel_rfl) fun args M r hr hvc hw hm => ?_
  unfold rdLeftC at hr
  simp only at hr
  split at hr <;> cases hr
  rename_i a e lo len xs
  have hb : 0 ≤ a () ∧ a () ≤ (len () : Int) ∧ len () ≤ big := hvc _ (List.mem_singleton.2 rfl)
  clear hvc hm hw
  have hb3 : len () ≤ 1099511627776 := hb.2.2
  have hw1 : IntKind.i64.wrap ((len () : Int) - a ()) = (len () : Int) - a () := wrap_i64 (by omega)
  conv => cbv
  refine .no ?_
  conv => cbv
  simp [Hold.iff, hw1]
def rNum (b : List Nat) (a e : Int) : Nat × Int × Int :=
  if e = 0 then (if (getS b a).2.2 = 0 then ((getS b a).1, (getS b a).2.1, 0) else (0, a, (getS b a).2.2)) else (0, a, e)
def rdNumC : Contract := { modes := [.mut], fn := fun args M => match args, M with
  | [.mp 0 0], [(0, .obj [.int .i64 a, .int .i64 e, .ms 1 lo len]), (1, .row false [.int .u8] xs)] => some ⟨[fun _ => lo () = 0 ∧ len () = (xs ()).length], .int .u64 fun _ => ((rNum (bn (xs ())) (a ()) (e ())).1 : Int),
      [(0, some (.obj [.int .i64 fun _ => (rNum (bn (xs ())) (a ()) (e ())).2.1, .int .i64 fun _ => (rNum (bn (xs ())) (a ()) (e ())).2.2, .ms 1 lo len]))]⟩
  | _, _ => none }
def Lrd1 : List (Nat × Contract) := [(83, rdWellC), (84, rdFailC), (21, getC)]
def Grd1 : Ctx := fun f => gget Lrd1 f
theorem Grd1_ok : ∀ f C, Grd1 f = some C → CSound Try.prog f C := gget_cons rdWell_ok (gget_cons rdFail_ok (gget_cons get_ok (gget_nil _)))
theorem rdNum_ok : CSound Try.prog 47 rdNumC := by
  refine fsound' (G := Grd1) (c := codeOf Try.f47) mixed tyT Grd1_ok Try.func47 (by rfl) (by kernel_rfl) (by kernel_rfl) fun args M r hr hvc hw hm => ?_
  unfold rdNumC at hr
  simp only at hr
  split at hr <;> cases hr
  rename_i a e lo len xs
  have hb : lo () = 0 ∧ len () = (xs ()).length := hvc _ (List.mem_singleton.2 rfl)
  clear hvc hm hw
  obtain ⟨h1, h2⟩ := hb
  have hT : List.take (len ()) (List.drop (lo ()) (xs ())) = xs () := by rw [h1, h2]; simp
  have hv : lo () + len () ≤ (xs ()).length := by omega
  conv => cbv
  refine Split.mk (fun h => ?_) (fun h => ?_)
  · have he : ¬ e () = 0 := by simpa using h
    conv => cbv
    simp [Hold.iff, rNum, he]
  · have he : e () = 0 := by simpa using h
    conv => cbv
    refine ⟨⟨hv⟩, Split.mk (fun hg => ?_) (fun hg => ?_)⟩
    · have hg : ¬ (getS (bn (List.take (len ()) (List.drop (lo ()) (xs ())))) (a ())).2.2 = 0 := by simpa using hg
      rw [hT] at hg
      conv => cbv
      simp [Hold.iff, rNum, he, hT, hg]
    · have hg : (getS (bn (List.take (len ()) (List.drop (lo ()) (xs ())))) (a ())).2.2 = 0 := by simpa using hg
      rw [hT] at hg
      conv => cbv
      simp [Hold.iff, rNum, he, hT, hg]
def rRaw (x : List (List D)) (a e n : Int) : List (List D) × Int × Int :=
  if e = 0 then (if n < 0 then ([], a, 2) else if n > (x.length : Int) - a then ([], a, 4) else ((x.drop a.toNat).take n.toNat, a + n, 0)) else ([], a, e)
def rdRawC : Contract := { modes := [.mut, .ro], fn := fun args M => match args, M with
  | [.mp 0 0, .int .i64 n], [(0, .obj [.int .i64 a, .int .i64 e, .ms 1 lo len]), (1, .row false [.int .u8] xs)] => some ⟨[fun _ => lo () = 0 ∧ len () = (xs ()).length ∧ 0 ≤ a () ∧ a () ≤ ((xs ()).length : Int) ∧ (xs ()).length ≤ big],
      .ms 2 (fun _ => 0) (fun _ => (rRaw (xs ()) (a ()) (e ()) (n ())).1.length),
      [(0, some (.obj [.int .i64 fun _ => (rRaw (xs ()) (a ()) (e ()) (n ())).2.1, .int .i64 fun _ => (rRaw (xs ()) (a ()) (e ()) (n ())).2.2, .ms 1 lo len])), (2, some (.row false U8 fun _ => (rRaw (xs ()) (a ()) (e ()) (n ())).1))]⟩
  | _, _ => none }
def Lrd2 : List (Nat × Contract) := [(83, rdWellC), (84, rdFailC), (55, rdLeftC), (80, cloneC)]
def Grd2 : Ctx := fun f => gget Lrd2 f
theorem Grd2_ok : ∀ f C, Grd2 f = some C → CSound Try.prog f C := gget_cons rdWell_ok (gget_cons rdFail_ok (gget_cons rdLeft_ok (gget_cons sclone_ok (gget_nil _))))
theorem rdRaw_ok : CSound Try.prog 49 rdRawC := by
  refine fsound' (G := Grd2) (c := codeOf Try.f49) mixed tyT Grd2_ok Try.func49 (by rfl) (by kernel_rfl) (by kernel_rfl) fun args M r hr hvc hw hm => ?_
  unfold rdRawC at hr
  simp only at hr
  split at hr <;> cases hr
  rename_i n a e lo len xs
  have hb : lo () = 0 ∧ len () = (xs ()).length ∧ 0 ≤ a () ∧ a () ≤ ((xs ()).length : Int) ∧ (xs ()).length ≤ big := hvc _ (List.mem_singleton.2 rfl)
  clear hvc hm hw
  obtain ⟨h1, h2, h3, h4, h5⟩ := hb
  have h5 : (xs ()).length ≤ 1099511627776 := h5
  have v1 : 0 ≤ a () ∧ a () ≤ (len () : Int) ∧ len () ≤ big := ⟨h3, by omega, by simp only [big]; omega⟩
  conv => cbv
  refine Split.mk (fun h => ?_) (fun h => ?_)
  · have he : ¬ e () = 0 := by simpa using h
    conv => cbv
    simp [Hold.iff, rRaw, he]
  · have he : e () = 0 := by simpa using h
    conv => cbv
    refine Split.mk (fun h => ?_) (fun h => ?_)
    · have hn : n () < 0 := of_decide_eq_true h
      conv => cbv
      simp [Hold.iff, rRaw, he, hn]
    · have hn : ¬ n () < 0 := of_decide_eq_false h
      conv => cbv
      refine ⟨⟨v1⟩, Split.mk (fun h => ?_) (fun h => ?_)⟩
      · have hg : (len () : Int) - a () < n () := by simpa using h
        have hg : ((xs ()).length : Int) - a () < n () := by omega
        conv => cbv
        simp [Hold.iff, rRaw, he, hn, hg]
      · have hg : ¬ (len () : Int) - a () < n () := by simpa using h
        have hg : ¬ ((xs ()).length : Int) - a () < n () := by omega
        have w1 : IntKind.i64.wrap (a () + n ()) = a () + n () := wrap_i64 (by omega)
        have w4 : IntKind.i64.wrap (a () + n () - n ()) = a () := by rw [wrap_i64 (by omega)]; omega
        have e1 : (a () + n ()).toNat - (a ()).toNat = (n ()).toNat := by omega
        have e2 : lo () + (a ()).toNat = (a ()).toNat := by omega
        have rr : rRaw (xs ()) (a ()) 0 (n ()) = (((xs ()).drop (a ()).toNat).take (n ()).toNat, a () + n (), 0) := by rw [rRaw, if_pos rfl, if_neg hn, if_neg hg]
        have f1 : 0 ≤ a () ∧ a () ≤ a () + n () ∧ a () + n () ≤ a () + n () ∧ a () + n () ≤ (len () : Int) := by omega
        have f2 : (a ()).toNat + (n ()).toNat ≤ (xs ()).length := by omega
        have f3 : (((xs ()).drop (a ()).toNat).take (n ()).toNat).length ≤ 1099511627776 := by rw [List.length_take, List.length_drop]; omega
        conv => cbv
        simp only [Hold.iff, w1, w4, e1, e2, rr, he, f1, f2, f3, big, and_self, and_true, true_and]
end Go.Am
/- varint.Reader (there): Text, Numbers, Read keep their contracts. -/
namespace Go.Am
set_option linter.all false
set_option linter.deprecated false
open Go.Proofs
set_option maxRecDepth 100000
set_option maxHeartbeats 4000000
def rText (x : List (List D)) (a e : Int) : List (List D) × Int × Int :=
  if e = 0 then
    (if (rNum (bn x) a 0).2.2 = 0 then
      (if (9223372036854775807 : Int) < ((rNum (bn x) a 0).1 : Int) then ([], a, 4)
       else if (rRaw x (rNum (bn x) a 0).2.1 0 (rNum (bn x) a 0).1).2.2 = 0 then rRaw x (rNum (bn x) a 0).2.1 0 (rNum (bn x) a 0).1 else ([], a, (rRaw x (rNum (bn x) a 0).2.1 0 (rNum (bn x) a 0).1).2.2))
     else ([], a, (rNum (bn x) a 0).2.2))
  else ([], a, e)
theorem and63 (g : Nat) (h : g < 9223372036854775808) : ibits .and .u64 (g : Int) 9223372036854775807 = (g : Int) := by
  show IntKind.u64.wrap (((BitVec.ofInt 64 (g : Int) &&& BitVec.ofInt 64 9223372036854775807 : BitVec 64).toNat : Nat) : Int) = _
  have e1 : BitVec.ofInt 64 (g : Int) = BitVec.ofNat 64 g := by apply BitVec.eq_of_toNat_eq; rw [BitVec.toNat_ofInt, BitVec.toNat_ofNat]; omega
  have e2 : BitVec.ofInt 64 9223372036854775807 = BitVec.ofNat 64 (2 ^ 63 - 1) := by decide
  rw [e1, e2, BitVec.toNat_and, BitVec.toNat_ofNat, BitVec.toNat_ofNat, Nat.mod_eq_of_lt (show g < 2 ^ 64 by omega), Nat.mod_eq_of_lt (show 2 ^ 63 - 1 < 2 ^ 64 by decide), Nat.and_two_pow_sub_one_eq_mod, Nat.mod_eq_of_lt (show g < 2 ^ 63 by omega)]
  exact wrap_u64 (by omega)
theorem getS_fit {b : List Nat} {a : Int} (h : (getS b a).2.2 = 0) : 0 ≤ a ∧ a < (getS b a).2.1 ∧ (getS b a).2.1 ≤ (b.length : Int) ∧ (getS b a).1 < 18446744073709551616 := by
  unfold getS at h ⊢
  by_cases h1 : a < 0 ∨ (b.length : Int) < a
  · rw [if_pos h1] at h; simp at h
  · rw [if_neg h1] at h ⊢
    simp only at h ⊢
    cases hi : idx ((b.drop a.toNat).take 10) with
    | none => rw [hi] at h; simp only at h; split at h <;> simp at h
    | some n =>
      rw [hi] at h
      simp only at h ⊢
      have hl := idx_lt hi
      rw [List.length_take, List.length_drop] at hl
      split at h
      · rename_i hp
        rw [if_pos hp]
        refine ⟨by omega, ?_, ?_, valN_lt _⟩
        · show a < a + (n : Int) + 1; omega
        · show a + (n : Int) + 1 ≤ _; omega
      · simp at h
theorem rNum_fit {b : List Nat} {a : Int} (e : Int) (h0 : 0 ≤ a) (h1 : a ≤ (b.length : Int)) : 0 ≤ (rNum b a e).2.1 ∧ (rNum b a e).2.1 ≤ (b.length : Int) ∧ (rNum b a e).1 < 18446744073709551616 ∧ ((rNum b a e).2.2 ≠ 0 → (rNum b a e).1 = 0) := by
  unfold rNum
  split
  · split
    · rename_i h
      have := getS_fit h
      refine ⟨by simp only; omega, this.2.2.1, this.2.2.2, by simp⟩
    · exact ⟨h0, h1, by simp, by simp⟩
  · exact ⟨h0, h1, by simp, by simp⟩
def rTx (x : List (List D)) (a : Int) (g : Nat × Int × Int) : List (List D) × Int × Int :=
    if g.2.2 = 0 then
      (if (9223372036854775807 : Int) < (g.1 : Int) then ([], a, 4)
       else if (rRaw x g.2.1 0 g.1).2.2 = 0 then rRaw x g.2.1 0 g.1 else ([], a, (rRaw x g.2.1 0 g.1).2.2))
     else ([], a, g.2.2)
theorem rText_eq (x : List (List D)) (a : Int) : rText x a 0 = rTx x a (rNum (bn x) a 0) := by rw [rText, if_pos rfl]; rfl
theorem rRaw_err {x : List (List D)} {a e n : Int} (h : ¬ (rRaw x a e n).2.2 = 0) : (rRaw x a e n).1 = [] := by
  unfold rRaw at h ⊢
  split
  · split
    · rfl
    · split
      · rfl
      · rw [if_pos (by assumption), if_neg (by assumption), if_neg (by assumption)] at h; simp at h
  · rfl
theorem rTx_err {x : List (List D)} {a : Int} {g : Nat × Int × Int} (hv : ¬ (9223372036854775807 : Int) < (g.1 : Int)) (h : ¬ (rRaw x g.2.1 g.2.2 g.1).2.2 = 0) :
    rTx x a g = ((rRaw x g.2.1 g.2.2 g.1).1, a, (rRaw x g.2.1 g.2.2 g.1).2.2) := by
  have e := rRaw_err h
  by_cases h0 : g.2.2 = 0
  · rw [h0] at h e ⊢
    rw [rTx, if_pos h0, if_neg hv, if_neg h, e]
  · rw [rTx, if_neg h0, rRaw, if_neg h0]
theorem rTx_fine {x : List (List D)} {a : Int} {g : Nat × Int × Int} (hv : ¬ (9223372036854775807 : Int) < (g.1 : Int)) (h : (rRaw x g.2.1 g.2.2 g.1).2.2 = 0) :
    rTx x a g = rRaw x g.2.1 g.2.2 g.1 := by
  have h0 : g.2.2 = 0 := by
    by_cases h0 : g.2.2 = 0
    · exact h0
    · rw [rRaw, if_neg h0] at h; exact h
  rw [h0] at h ⊢
  rw [rTx, if_pos h0, if_neg hv, if_pos h]
def rdTextC : Contract := { modes := [.mut], fn := fun args M => match args, M with
  | [.mp 0 0], [(0, .obj [.int .i64 a, .int .i64 e, .ms 1 lo len]), (1, .row false [.int .u8] xs)] => some ⟨[fun _ => lo () = 0 ∧ len () = (xs ()).length ∧ 0 ≤ a () ∧ a () ≤ ((xs ()).length : Int) ∧ (xs ()).length ≤ big],
      .ms 2 (fun _ => 0) (fun _ => (rText (xs ()) (a ()) (e ())).1.length),
      [(0, some (.obj [.int .i64 fun _ => (rText (xs ()) (a ()) (e ())).2.1, .int .i64 fun _ => (rText (xs ()) (a ()) (e ())).2.2, .ms 1 lo len])), (2, some (.row false U8 fun _ => (rText (xs ()) (a ()) (e ())).1))]⟩
  | _, _ => none }
def Lrd3 : List (Nat × Contract) := [(83, rdWellC), (84, rdFailC), (47, rdNumC), (49, rdRawC)]
def Grd3 : Ctx := fun f => gget Lrd3 f
theorem Grd3_ok : ∀ f C, Grd3 f = some C → CSound Try.prog f C := gget_cons rdWell_ok (gget_cons rdFail_ok (gget_cons rdNum_ok (gget_cons rdRaw_ok (gget_nil _))))
theorem rdText_ok : CSound Try.prog 51 rdTextC := by
  refine fsound' (G := Grd3) (c := codeOf Try.f51) mixed tyT Grd3_ok Try.func51 (by rfl) (by kernel_rfl) (by kernel_rfl) fun args M r hr hvc hw hm => ?_
  unfold rdTextC at hr
  simp only at hr
  split at hr <;> cases hr
  rename_i a e lo len xs
  have hb : lo () = 0 ∧ len () = (xs ()).length ∧ 0 ≤ a () ∧ a () ≤ ((xs ()).length : Int) ∧ (xs ()).length ≤ big := hvc _ (List.mem_singleton.2 rfl)
  clear hvc hm hw
  have hx : lo = fun _ => lo () := rfl
  generalize lo () = lo0 at hx hb
  subst hx
  have hx : len = fun _ => len () := rfl
  generalize len () = len0 at hx hb
  subst hx
  have hx : a = fun _ => a () := rfl
  generalize a () = a0 at hx hb
  subst hx
  have hx : e = fun _ => e () := rfl
  generalize e () = e0 at hx
  subst hx
  have hx : xs = fun _ => xs () := rfl
  generalize xs () = x at hx hb
  subst hx
  obtain ⟨h1, h2, h3, h4, h5⟩ := hb
  subst h1 h2
  have h5 : x.length ≤ 1099511627776 := h5
  by_cases he : e0 = 0
  · subst he
    have hg := @rNum_fit (bn x) a0 0 h3 (by simpa using h4)
    rw [show (bn x).length = x.length by simp] at hg
    have hT := rText_eq x a0
    conv => cbv
    refine .ofF (by simp) ?_
    conv => cbv
    have hh : (0 : Nat) = 0 ∧ x.length = x.length := ⟨rfl, rfl⟩
    refine ⟨⟨hh⟩, ?_⟩
    rw [hT]
    clear hT
    generalize rNum (bn x) a0 0 = g at hg ⊢
    obtain ⟨g1, g2, g3, g4⟩ := hg
    have v1 : 0 = 0 ∧ x.length = x.length ∧ 0 ≤ g.2.1 ∧ g.2.1 ≤ (x.length : Int) ∧ x.length ≤ big := ⟨rfl, rfl, g1, g2, h5⟩
    refine Split.mk (fun h => ?_) (fun h => ?_)
    · have hv : (9223372036854775807 : Int) < (g.1 : Int) := of_decide_eq_true h
      have h0 : g.2.2 = 0 := by
        by_cases hz : g.2.2 = 0
        · exact hz
        · have := g4 hz; omega
      conv => cbv
      refine ⟨⟨v1⟩, .ofT (by simp [rRaw, h0]) ?_⟩
      conv => cbv
      simp [Hold.iff, rTx, rRaw, h0, hv]
    · have hv : ¬ (9223372036854775807 : Int) < (g.1 : Int) := of_decide_eq_false h
      have hand : IntKind.i64.wrap (ibits .and .u64 (g.1 : Int) 9223372036854775807) = (g.1 : Int) := by rw [and63 _ (by omega), wrap_i64 (by omega)]
      conv => cbv
      refine ⟨⟨v1⟩, Split.mk (fun h => ?_) (fun h => ?_)⟩
      · have hr : ¬ (rRaw x g.2.1 g.2.2 (IntKind.i64.wrap (ibits .and .u64 (g.1 : Int) 9223372036854775807))).2.2 = 0 := by simpa using h
        rw [hand] at hr
        have ht := rTx_err (a := a0) hv hr
        conv => cbv
        simp only [Hold.iff, hand, ht, and_self]
      · have hr : (rRaw x g.2.1 g.2.2 (IntKind.i64.wrap (ibits .and .u64 (g.1 : Int) 9223372036854775807))).2.2 = 0 := by simpa using h
        rw [hand] at hr
        have ht := rTx_fine (a := a0) hv hr
        conv => cbv
        simp only [Hold.iff, hand, ht, and_self]
  · conv => cbv
    refine .ofT (by simp [he]) ?_
    conv => cbv
    simp [Hold.iff, rText, he]
def readC : Contract := { modes := [.ro], fn := fun args M => match args, M with
  | [.sl _ [.int .u8] xs], [] => some ⟨[fun _ => (xs ()).length ≤ big], .mp 0 0, [(0, some (.obj [.int .i64 fun _ => 0, .int .i64 fun _ => 0, .ms 1 (fun _ => 0) (fun _ => (xs ()).length)])), (1, some (.row false U8 fun _ => xs ()))]⟩
  | _, _ => none }
def Lrd4 : List (Nat × Contract) := [(80, cloneC)]
def Grd4 : Ctx := fun f => gget Lrd4 f
theorem Grd4_ok : ∀ f C, Grd4 f = some C → CSound Try.prog f C := gget_cons sclone_ok (gget_nil _)
theorem read_ok : CSound Try.prog 45 readC := by
  refine fsound' (G := Grd4) (c := codeOf Try.f45) mixed tyT Grd4_ok Try.func45 (by rfl) (by kernel_rfl) (by kernel_rfl) fun args M r hr hvc hw hm => ?_
  unfold readC at hr
  simp only at hr
  split at hr <;> cases hr
  rename_i nn xs
  have hb : (xs ()).length ≤ big := hvc _ (List.mem_singleton.2 rfl)
  clear hvc hm hw
  conv => cbv
  exact ⟨⟨hb⟩, ⟨rfl⟩, ⟨rfl⟩, ⟨rfl, rfl⟩, ⟨rfl⟩⟩
end Go.Am
/- alibiref01.Number, Raw, Text keep their contracts. -/
namespace Go.Am
set_option linter.all false
set_option linter.deprecated false
open Go.Proofs
set_option maxRecDepth 100000
set_option maxHeartbeats 4000000
def sRow (s : List UInt8) : List (List D) := s.map fun c => [D.int (c.toNat : Int)]
@[simp] theorem sRow_len (s : List UInt8) : (sRow s).length = s.length := by simp [sRow]
def rfNumC : Contract := { modes := [.ro], fn := fun args M => match args, M with
  | [.agg [.str s, .int .i64 a, .int .i64 e]], [] => some ⟨[fun _ => (s ()).length ≤ big],
      .tup [.agg [.str s, .int .i64 fun _ => (rNum (bn (sRow (s ()))) (a ()) (e ())).2.1, .int .i64 fun _ => (rNum (bn (sRow (s ()))) (a ()) (e ())).2.2], .int .u64 fun _ => ((rNum (bn (sRow (s ()))) (a ()) (e ())).1 : Int)], []⟩
  | _, _ => none }
def Lrf1 : List (Nat × Contract) := [(26, getC)]
def Grf1 : Ctx := fun f => gget Lrf1 f
theorem Grf1_ok : ∀ f C, Grf1 f = some C → CSound Try.prog f C := gget_cons rget_ok (gget_nil _)
theorem rfNum_ok : CSound Try.prog 46 rfNumC := by
  refine fsound' (G := Grf1) (c := codeOf Try.f46) mixed tyT Grf1_ok Try.func46 (by rfl) (by kernel_rfl) (by kernel_rfl) fun args M r hr hvc hw hm => ?_
  unfold rfNumC at hr
  simp only at hr
  split at hr <;> cases hr
  rename_i s a e
  have hb : (s ()).length ≤ big := hvc _ (List.mem_singleton.2 rfl)
  clear hvc hm hw
  conv => cbv
  refine Split.mk (fun h => ?_) (fun h => ?_)
  · have he : ¬ e () = 0 := by simpa using h
    conv => cbv
    simp [Hold.iff, rNum, he]
  · have he : e () = 0 := by simpa using h
    have hT : List.take (s ()).length (List.drop 0 (List.map (fun b => [D.int (b.toNat : Int)]) (s ()))) = sRow (s ()) := by
      rw [List.drop_zero, List.take_of_length_le (by simp)]; rfl
    conv => cbv
    refine ⟨⟨hb⟩, ⟨by simp⟩, Split.mk (fun hg => ?_) (fun hg => ?_)⟩
    · have hg : ¬ (getS (bn (List.take (s ()).length (List.drop 0 (List.map (fun b => [D.int (b.toNat : Int)]) (s ()))))) (a ())).2.2 = 0 := by simpa using hg
      rw [hT] at hg
      conv => cbv
      simp only [Hold.iff, rNum, he, if_true, hT, hg, if_false, and_self]
      try simp
    · have hg : (getS (bn (List.take (s ()).length (List.drop 0 (List.map (fun b => [D.int (b.toNat : Int)]) (s ()))))) (a ())).2.2 = 0 := by simpa using hg
      rw [hT] at hg
      conv => cbv
      simp only [Hold.iff, rNum, he, if_true, hT, hg, if_false, and_self]
      try simp
def rfRawC : Contract := { modes := [.ro, .ro], fn := fun args M => match args, M with
  | [.agg [.str s, .int .i64 a, .int .i64 e], .int .i64 n], [] => some ⟨[fun _ => 0 ≤ a () ∧ a () ≤ ((s ()).length : Int) ∧ (s ()).length ≤ big],
      .tup [.agg [.str s, .int .i64 fun _ => (rRaw (sRow (s ())) (a ()) (e ()) (n ())).2.1, .int .i64 fun _ => (rRaw (sRow (s ())) (a ()) (e ()) (n ())).2.2], .ms 0 (fun _ => 0) (fun _ => (rRaw (sRow (s ())) (a ()) (e ()) (n ())).1.length)],
      [(0, some (.row false U8 fun _ => (rRaw (sRow (s ())) (a ()) (e ()) (n ())).1))]⟩
  | _, _ => none }
theorem rfRaw_ok : CSound Try.prog 48 rfRawC := by
  refine fsound' (G := G0) (c := codeOf Try.f48) mixed tyT (gget_nil _) Try.func48 (by rfl) (by kernel_rfl) (by kernel_rfl) fun args M r hr hvc hw hm => ?_
  unfold rfRawC at hr
  simp only at hr
  split at hr <;> cases hr
  rename_i s a e n
  have hb : 0 ≤ a () ∧ a () ≤ ((s ()).length : Int) ∧ (s ()).length ≤ big := hvc _ (List.mem_singleton.2 rfl)
  clear hvc hm hw
  conv => cbv
  refine Split.mk (fun h => ?_) (fun h => ?_)
  · have he : ¬ e () = 0 := by simpa using h
    conv => cbv
    simp [Hold.iff, rRaw, he]
  · have he : e () = 0 := by simpa using h
    have h5 : (s ()).length ≤ 1099511627776 := hb.2.2
    have hw0 : IntKind.i64.wrap (((s ()).length : Int) - a ()) = ((s ()).length : Int) - a () := wrap_i64 (by omega)
    conv => cbv
    refine Split.mk (fun h => ?_) (fun h => ?_)
    · have hn : n () < 0 := of_decide_eq_true h
      conv => cbv
      simp [Hold.iff, rRaw, he, hn]
    · have hn : ¬ n () < 0 := of_decide_eq_false h
      conv => cbv
      refine Split.mk (fun h => ?_) (fun h => ?_)
      · have hg : IntKind.i64.wrap (((s ()).length : Int) - a ()) < n () := by simpa using h
        rw [hw0] at hg
        conv => cbv
        simp [Hold.iff, rRaw, he, hn, hg]
      · have hg : ¬ IntKind.i64.wrap (((s ()).length : Int) - a ()) < n () := by simpa using h
        rw [hw0] at hg
        have w1 : IntKind.i64.wrap (a () + n ()) = a () + n () := wrap_i64 (by omega)
        have e1 : (a () + n ()).toNat - (a ()).toNat = (n ()).toNat := by omega
        have rr : rRaw (sRow (s ())) (a ()) 0 (n ()) = (((sRow (s ())).drop (a ()).toNat).take (n ()).toNat, a () + n (), 0) := by rw [rRaw, if_pos rfl, if_neg hn, if_neg (by rw [sRow_len]; exact hg)]
        have f1 : 0 ≤ a () ∧ a () ≤ a () + n () ∧ a () + n () ≤ ((s ()).length : Int) := by omega
        have f3 : (((s ()).drop (a ()).toNat).take (n ()).toNat).length ≤ 1099511627776 := by rw [List.length_take, List.length_drop]; omega
        have f4 : List.map (fun b => [D.int (b.toNat : Int)]) (((s ()).drop (a ()).toNat).take (n ()).toNat) = ((sRow (s ())).drop (a ()).toNat).take (n ()).toNat := by rw [List.map_take, List.map_drop]; rfl
        conv => cbv
        simp only [Hold.iff, w1, e1, rr, he, f1, f3, f4, big, and_self, and_true, true_and]
        simp only [List.length_take, List.length_drop, sRow_len]
theorem rText_all (x : List (List D)) (a e : Int) : rText x a e = rTx x a (rNum (bn x) a e) := by
  by_cases he : e = 0
  · subst he; exact rText_eq x a
  · have hg : rNum (bn x) a e = (0, a, e) := by rw [rNum, if_neg he]
    rw [hg, rText, if_neg he, rTx, if_neg he]
def rfTextC : Contract := { modes := [.ro], fn := fun args M => match args, M with
  | [.agg [.str s, .int .i64 a, .int .i64 e]], [] => some ⟨[fun _ => 0 ≤ a () ∧ a () ≤ ((s ()).length : Int) ∧ (s ()).length ≤ big],
      .tup [.agg [.str s, .int .i64 fun _ => (rText (sRow (s ())) (a ()) (e ())).2.1, .int .i64 fun _ => (rText (sRow (s ())) (a ()) (e ())).2.2], .ms 0 (fun _ => 0) (fun _ => (rText (sRow (s ())) (a ()) (e ())).1.length)],
      [(0, some (.row false U8 fun _ => (rText (sRow (s ())) (a ()) (e ())).1))]⟩
  | _, _ => none }
def Lrf2 : List (Nat × Contract) := [(46, rfNumC), (48, rfRawC)]
def Grf2 : Ctx := fun f => gget Lrf2 f
theorem Grf2_ok : ∀ f C, Grf2 f = some C → CSound Try.prog f C := gget_cons rfNum_ok (gget_cons rfRaw_ok (gget_nil _))
theorem rfText_ok : CSound Try.prog 50 rfTextC := by
  refine fsound' (G := Grf2) (c := codeOf Try.f50) mixed tyT Grf2_ok Try.func50 (by rfl) (by kernel_rfl) (by kernel_rfl) fun args M r hr hvc hw hm => ?_
  unfold rfTextC at hr
  simp only at hr
  split at hr <;> cases hr
  rename_i s a e
  have hb : 0 ≤ a () ∧ a () ≤ ((s ()).length : Int) ∧ (s ()).length ≤ big := hvc _ (List.mem_singleton.2 rfl)
  clear hvc hm hw
  have hx : s = fun _ => s () := rfl
  generalize s () = s0 at hx hb
  subst hx
  have hx : a = fun _ => a () := rfl
  generalize a () = a0 at hx hb
  subst hx
  have hx : e = fun _ => e () := rfl
  generalize e () = e0 at hx
  subst hx
  conv => cbv
  refine ⟨⟨hb.2.2⟩, ?_⟩
  rw [rText_all]
  have hf := @rNum_fit (bn (sRow s0)) a0 e0 hb.1 (by simpa using hb.2.1)
  rw [show (bn (sRow s0)).length = s0.length by simp] at hf
  generalize rNum (bn (sRow s0)) a0 e0 = g at hf ⊢
  have v1 : 0 ≤ g.2.1 ∧ g.2.1 ≤ (s0.length : Int) ∧ s0.length ≤ big := ⟨hf.1, hf.2.1, hb.2.2⟩
  refine Split.mk (fun h => ?_) (fun h => ?_)
  · have h0 : g.2.2 = 0 := by simpa using h
    conv => cbv
    refine Split.mk (fun h => ?_) (fun h => ?_)
    · have hv : (9223372036854775807 : Int) < (g.1 : Int) := of_decide_eq_true h
      conv => cbv
      repeat (first | (refine .ofF ?_ ?_; (focus (simp; done)); conv => cbv) | (refine .ofT ?_ ?_; (focus (simp; done)); conv => cbv))
      simp [Hold.iff, rTx, h0, hv]
    · have hv : ¬ (9223372036854775807 : Int) < (g.1 : Int) := of_decide_eq_false h
      have hw0 : IntKind.i64.wrap (g.1 : Int) = (g.1 : Int) := wrap_i64 (by omega)
      conv => cbv
      refine .ofF (by simp [h0]) ?_
      conv => cbv
      refine ⟨⟨v1⟩, Split.mk (fun h => ?_) (fun h => ?_)⟩
      · have hr : ¬ (rRaw (sRow s0) g.2.1 g.2.2 (IntKind.i64.wrap (g.1 : Int))).2.2 = 0 := by simpa using h
        rw [hw0] at hr
        have ht := rTx_err (a := a0) hv hr
        have he := rRaw_err hr
        conv => cbv
        simp [Hold.iff, hw0, ht, he]
      · have hr : (rRaw (sRow s0) g.2.1 g.2.2 (IntKind.i64.wrap (g.1 : Int))).2.2 = 0 := by simpa using h
        rw [hw0] at hr
        have ht := rTx_fine (a := a0) hv hr
        conv => cbv
        simp only [Hold.iff, hw0, ht, and_self]
  · have h0 : ¬ g.2.2 = 0 := by simpa using h
    conv => cbv
    repeat (first | (refine .ofF ?_ ?_; (focus (simp [h0]; done)); conv => cbv) | (refine .ofT ?_ ?_; (focus (simp [h0]; done)); conv => cbv))
    simp [Hold.iff, rTx, h0]
end Go.Am
/- varint.Reader.Numbers and the reference's keep their contracts. -/
namespace Go.Am
set_option linter.all false
set_option linter.deprecated false
open Go.Proofs
set_option maxRecDepth 100000
set_option maxHeartbeats 4000000
def rSt (b : List Nat) (s : Int × Int × List (List D)) : Int × Int × List (List D) :=
  if s.2.1 = 0 then ((rNum b s.1 0).2.1, (rNum b s.1 0).2.2, s.2.2 ++ [[D.int ((rNum b s.1 0).1 : Int)]]) else s
def rSeq (b : List Nat) (a : Int) : Nat → Int × Int × List (List D)
  | 0 => (a, 0, [])
  | k + 1 => rSt b (rSeq b a k)
theorem rSeq_stop {b : List Nat} {a : Int} {k : Nat} (h : ¬ (rSeq b a k).2.1 = 0) (j : Nat) : rSeq b a (k + j) = rSeq b a k := by
  induction j with
  | zero => rfl
  | succ j ih => rw [← Nat.add_assoc, rSeq, ih, rSt, if_neg h]
theorem rSeq_next {b : List Nat} {a : Int} {k : Nat} (h : (rSeq b a k).2.1 = 0) : rSeq b a (k + 1) = ((rNum b (rSeq b a k).1 0).2.1, (rNum b (rSeq b a k).1 0).2.2, (rSeq b a k).2.2 ++ [[D.int ((rNum b (rSeq b a k).1 0).1 : Int)]]) := by
  rw [rSeq, rSt, if_pos h]
theorem rNum_more {b : List Nat} {a : Int} (h : (rNum b a 0).2.2 = 0) : a < (rNum b a 0).2.1 := by
  unfold rNum at h ⊢
  rw [if_pos rfl] at h ⊢
  by_cases hg : (getS b a).2.2 = 0
  · rw [if_pos hg]; exact (getS_fit hg).2.1
  · rw [if_neg hg] at h; exact absurd h hg
theorem rSeq_fit {b : List Nat} {a : Int} (h0 : 0 ≤ a) (h1 : a ≤ (b.length : Int)) (k : Nat) :
    0 ≤ (rSeq b a k).1 ∧ (rSeq b a k).1 ≤ (b.length : Int) ∧ ((rSeq b a k).2.1 = 0 → a + ((rSeq b a k).2.2.length : Int) ≤ (rSeq b a k).1) ∧ (rSeq b a k).2.2.length ≤ b.length + 1 := by
  induction k with
  | zero => exact ⟨h0, h1, by simp [rSeq], by simp [rSeq]⟩
  | succ k ih =>
    by_cases h : (rSeq b a k).2.1 = 0
    · rw [rSeq_next h]
      have hf := rNum_fit (b := b) 0 ih.1 ih.2.1
      have hi := ih.2.2.1 h
      have i2 := ih.2.1
      refine ⟨hf.1, hf.2.1, fun he => ?_, ?_⟩
      · have := rNum_more he
        simp only [List.length_append, List.length_singleton]
        omega
      · simp only [List.length_append, List.length_singleton]
        omega
    · rw [rSeq_stop h 1]; exact ih
def rNums (b : List Nat) (a e n : Int) : List (List D) × Int × Int :=
  if e = 0 then (if n < 0 then ([], a, 2) else if (rSeq b a n.toNat).2.1 = 0 then ((rSeq b a n.toNat).2.2, (rSeq b a n.toNat).1, 0) else ([], a, (rSeq b a n.toNat).2.1)) else ([], a, e)
def U64 : List Sh := [.int .u64]
def rdNumsC : Contract := { modes := [.mut, .ro], fn := fun args M => match args, M with
  | [.mp 0 0, .int .i64 n], [(0, .obj [.int .i64 a, .int .i64 e, .ms 1 lo len]), (1, .row false [.int .u8] xs)] => some ⟨[fun _ => lo () = 0 ∧ len () = (xs ()).length ∧ 0 ≤ a () ∧ a () ≤ ((xs ()).length : Int) ∧ (xs ()).length + 1 ≤ big],
      .ms 2 (fun _ => 0) (fun _ => (rNums (bn (xs ())) (a ()) (e ()) (n ())).1.length),
      [(0, some (.obj [.int .i64 fun _ => (rNums (bn (xs ())) (a ()) (e ()) (n ())).2.1, .int .i64 fun _ => (rNums (bn (xs ())) (a ()) (e ()) (n ())).2.2, .ms 1 lo len])), (2, some (.row false [.int .u64] fun _ => (rNums (bn (xs ())) (a ()) (e ()) (n ())).1))]⟩
  | _, _ => none }
theorem rdNums_ok : CSound Try.prog 53 rdNumsC := by
  refine fsound' (G := Grd3) (c := codeOf Try.f53) mixed tyT Grd3_ok Try.func53 (by rfl) (by kernel_rfl) (by kernel_rfl) fun args M r hr hvc hw hm => ?_
  unfold rdNumsC at hr
  simp only at hr
  split at hr <;> cases hr
  rename_i n a e lo len xs
  have hb : lo () = 0 ∧ len () = (xs ()).length ∧ 0 ≤ a () ∧ a () ≤ ((xs ()).length : Int) ∧ (xs ()).length + 1 ≤ big := hvc _ (List.mem_singleton.2 rfl)
  clear hvc hm
  simp only [WfVs, WfV, and_true, true_and] at hw
  have hx : lo = fun _ => lo () := rfl
  generalize lo () = lo0 at hx hb
  subst hx
  have hx : len = fun _ => len () := rfl
  generalize len () = len0 at hx hb
  subst hx
  have hx : a = fun _ => a () := rfl
  generalize a () = a0 at hx hb
  subst hx
  have hx : e = fun _ => e () := rfl
  generalize e () = e0 at hx
  subst hx
  have hx : n = fun _ => n () := rfl
  generalize n () = n0 at hx hw
  subst hx
  have hx : xs = fun _ => xs () := rfl
  generalize xs () = x at hx hb
  subst hx
  obtain ⟨h1, h2, h3, h4, h5⟩ := hb
  subst h1 h2
  have h5 : x.length + 1 ≤ 1099511627776 := h5
  by_cases he : e0 = 0
  · subst he
    conv => cbv
    refine .ofF (by simp) ?_
    conv => cbv
    refine Split.mk (fun h => ?_) (fun h => ?_)
    · have hn : n0 < 0 := of_decide_eq_true h
      conv => cbv
      refine LoopP.mk Unit (fun _ => ⟨ev 44 [(0, .mp 0 0), (1, .int .i64 fun _ => n0), (4, .nils), (5, .int .i64 fun _ => a0), (6, .int .i64 fun _ => 0)], [(0, .obj [.int .i64 fun _ => a0, .int .i64 fun _ => 2, .ms 1 (fun _ => 0) fun _ => x.length]), (1, .row false U8 fun _ => x)], 9⟩) (fun _ => 0) () ?_ ?_
      · conv => cbv
        simp [Hold.iff]
      · intro _
        conv => cbv
        refine .ofF (by simp; omega) ?_
        conv => cbv
        refine .ofF (by simp) ?_
        conv => cbv
        refine .ofT (by simp) ?_
        conv => cbv
        simp [Hold.iff, rNums, hn]
    · have hn : ¬ n0 < 0 := of_decide_eq_false h
      have hfit := fun k => @rSeq_fit (bn x) a0 h3 (by simpa using h4) k
      rw [show (bn x).length = x.length by simp] at hfit
      conv => cbv
      refine LoopP.mk {k : Nat // k ≤ n0.toNat} (fun k => ⟨ev 44 [(0, .mp 0 0), (1, .int .i64 fun _ => n0), (4, .ms 2 (fun _ => 0) fun _ => (rSeq (bn x) a0 k.1).2.2.length), (5, .int .i64 fun _ => a0), (6, .int .i64 fun _ => (k.1 : Int))],
        [(0, .obj [.int .i64 fun _ => (rSeq (bn x) a0 k.1).1, .int .i64 fun _ => (rSeq (bn x) a0 k.1).2.1, .ms 1 (fun _ => 0) fun _ => x.length]), (1, .row false U8 fun _ => x), (2, .row false [.int .u64] fun _ => (rSeq (bn x) a0 k.1).2.2)], 9⟩) (fun k => n0.toNat - k.1) ⟨0, Nat.zero_le _⟩ ?_ ?_
      · conv => cbv
        simp [Hold.iff, rSeq]
      · intro ⟨k, hk⟩
        conv => cbv
        refine Split.mk (fun h => ?_) (fun h => ?_)
        · have h : (k : Int) < n0 := of_decide_eq_true h
          have hn0 := hw
          conv => cbv
          refine Split.mk (fun h2 => ?_) (fun h2 => ?_)
          · have h2 : (rSeq (bn x) a0 k).2.1 = 0 := by simpa using h2
            have hw2 : IntKind.i64.wrap ((k : Int) + 1) = ((k + 1 : Nat) : Int) := by rw [wrap_i64 (by simp [wfB_iff] at hn0; omega)]; omega
            have hnx := rSeq_next h2
            have hf := hfit k
            have hi := hf.2.2.1 h2
            have hle : k + 1 ≤ n0.toNat ∧ n0.toNat - (k + 1) < n0.toNat - k := by omega
            have hou : (rSeq (bn x) a0 k).2.2.length + 1 ≤ 1099511627776 := by omega
            conv => cbv
            refine ⟨⟨rfl, rfl⟩, ⟨rfl⟩, ⟨Nat.le_refl _⟩, ⟨hou⟩, ⟨Nat.le_refl _⟩, ⟨k + 1, hle.1⟩, hle.2, ?_⟩
            conv => cbv
            simp [Hold.iff, hw2, hnx, h2]
          · have h2 : ¬ (rSeq (bn x) a0 k).2.1 = 0 := by simpa using h2
            have hs : rSeq (bn x) a0 n0.toNat = rSeq (bn x) a0 k := by
              rw [show n0.toNat = k + (n0.toNat - k) by omega]; exact rSeq_stop h2 _
            conv => cbv
            repeat (first | (refine .ofF ?_ ?_; (focus (simp [h2]; done)); conv => cbv) | (refine .ofT ?_ ?_; (focus (simp [h2]; done)); conv => cbv))
            simp [Hold.iff, rNums, hn, hs, h2]
        · have h : ¬ (k : Int) < n0 := of_decide_eq_false h
          have hk2 : n0.toNat = k := by omega
          conv => cbv
          refine .ofF (by simp) ?_
          conv => cbv
          refine Split.mk (fun h2 => ?_) (fun h2 => ?_)
          · have h2 : ¬ (rSeq (bn x) a0 k).2.1 = 0 := by simpa using h2
            conv => cbv
            simp [Hold.iff, rNums, hn, hk2, h2]
          · have h2 : (rSeq (bn x) a0 k).2.1 = 0 := by simpa using h2
            conv => cbv
            simp [Hold.iff, rNums, hn, hk2, h2]
  · conv => cbv
    refine .ofT (by simp [he]) ?_
    conv => cbv
    simp [Hold.iff, rNums, he]
end Go.Am
/- alibiref01.Numbers keeps its contract. -/
namespace Go.Am
set_option linter.all false
set_option linter.deprecated false
open Go.Proofs
set_option maxRecDepth 100000
set_option maxHeartbeats 4000000
def rfNumsC : Contract := { modes := [.ro, .ro], fn := fun args M => match args, M with
  | [.agg [.str s, .int .i64 a, .int .i64 e], .int .i64 n], [] => some ⟨[fun _ => 0 ≤ a () ∧ a () ≤ ((s ()).length : Int) ∧ (s ()).length + 1 ≤ big],
      .tup [.agg [.str s, .int .i64 fun _ => (rNums (bn (sRow (s ()))) (a ()) (e ()) (n ())).2.1, .int .i64 fun _ => (rNums (bn (sRow (s ()))) (a ()) (e ()) (n ())).2.2], .ms 0 (fun _ => 0) (fun _ => (rNums (bn (sRow (s ()))) (a ()) (e ()) (n ())).1.length)],
      [(0, some (.row false [.int .u64] fun _ => (rNums (bn (sRow (s ()))) (a ()) (e ()) (n ())).1))]⟩
  | _, _ => none }
def Lrf3 : List (Nat × Contract) := [(46, rfNumC)]
def Grf3 : Ctx := fun f => gget Lrf3 f
theorem Grf3_ok : ∀ f C, Grf3 f = some C → CSound Try.prog f C := gget_cons rfNum_ok (gget_nil _)
theorem rfNums_ok : CSound Try.prog 52 rfNumsC := by
  refine fsound' (G := Grf3) (c := codeOf Try.f52) mixed tyT Grf3_ok Try.func52 (by rfl) (by kernel_rfl) (by kernel_rfl) fun args M r hr hvc hw hm => ?_
  unfold rfNumsC at hr
  simp only at hr
  split at hr <;> cases hr
  rename_i s a e n
  have hb : 0 ≤ a () ∧ a () ≤ ((s ()).length : Int) ∧ (s ()).length + 1 ≤ big := hvc _ (List.mem_singleton.2 rfl)
  clear hvc hm
  simp only [WfVs, WfV, and_true, true_and] at hw
  have hw := hw.2
  have hx : s = fun _ => s () := rfl
  generalize s () = s0 at hx hb
  subst hx
  have hx : a = fun _ => a () := rfl
  generalize a () = a0 at hx hb
  subst hx
  have hx : e = fun _ => e () := rfl
  generalize e () = e0 at hx
  subst hx
  have hx : n = fun _ => n () := rfl
  generalize n () = n0 at hx hw
  subst hx
  obtain ⟨h3, h4, h5⟩ := hb
  have h5 : s0.length + 1 ≤ 1099511627776 := h5
  have v5 : s0.length ≤ big := by simp only [big]; omega
  by_cases he : e0 = 0
  · subst he
    conv => cbv
    refine .ofF (by simp) ?_
    conv => cbv
    refine Split.mk (fun h => ?_) (fun h => ?_)
    · have hn : n0 < 0 := of_decide_eq_true h
      conv => cbv
      simp [Hold.iff, rNums, hn]
    · have hn : ¬ n0 < 0 := of_decide_eq_false h
      have hfit := fun k => @rSeq_fit (bn (sRow s0)) a0 h3 (by simpa using h4) k
      rw [show (bn (sRow s0)).length = s0.length by simp] at hfit
      conv => cbv
      refine LoopP.mk {k : Nat // k ≤ n0.toNat ∧ (rSeq (bn (sRow s0)) a0 k).2.1 = 0} (fun k => ⟨ev 44 [(1, .int .i64 fun _ => n0), (2, .mp 0 0), (4, .mp 1 0), (5, .nils), (6, .ms 3 (fun _ => 0) fun _ => (rSeq (bn (sRow s0)) a0 k.1).2.2.length), (7, .mp 2 0), (8, .int .i64 fun _ => (k.1 : Int))],
        [(0, .obj [.str fun _ => s0, .int .i64 fun _ => a0, .int .i64 fun _ => 0]), (1, .obj [.str fun _ => [], .int .i64 fun _ => 0, .int .i64 fun _ => 0]), (2, .obj [.str fun _ => s0, .int .i64 fun _ => (rSeq (bn (sRow s0)) a0 k.1).1, .int .i64 fun _ => 0]), (3, .row false [.int .u64] fun _ => (rSeq (bn (sRow s0)) a0 k.1).2.2)], 9⟩) (fun k => n0.toNat - k.1) ⟨0, Nat.zero_le _, rfl⟩ ?_ ?_
      · conv => cbv
        simp [Hold.iff, rSeq]
      · intro ⟨k, hk, h2⟩
        have hnx := rSeq_next h2
        have hf := hfit k
        have hi := hf.2.2.1 h2
        conv => cbv
        refine Split.mk (fun h => ?_) (fun h => ?_)
        · have h : (k : Int) < n0 := of_decide_eq_true h
          have hw2 : IntKind.i64.wrap ((k : Int) + 1) = ((k + 1 : Nat) : Int) := by rw [wrap_i64 (by simp [wfB_iff] at hw; omega)]; omega
          have hle : k + 1 ≤ n0.toNat ∧ n0.toNat - (k + 1) < n0.toNat - k := by omega
          have hou : (rSeq (bn (sRow s0)) a0 k).2.2.length + 1 ≤ 1099511627776 := by omega
          conv => cbv
          refine ⟨⟨v5⟩, Split.mk (fun hg => ?_) (fun hg => ?_)⟩
          · have hg : ¬ (rNum (bn (sRow s0)) (rSeq (bn (sRow s0)) a0 k).1 0).2.2 = 0 := by simpa using hg
            have hs : rSeq (bn (sRow s0)) a0 n0.toNat = rSeq (bn (sRow s0)) a0 (k + 1) := by
              rw [show n0.toNat = (k + 1) + (n0.toNat - (k + 1)) by omega]; exact rSeq_stop (by rw [hnx]; exact hg) _
            conv => cbv
            simp [Hold.iff, rNums, hn, hs, hnx, hg]
          · have hg : (rNum (bn (sRow s0)) (rSeq (bn (sRow s0)) a0 k).1 0).2.2 = 0 := by simpa using hg
            conv => cbv
            refine ⟨⟨rfl⟩, ⟨Nat.le_refl _⟩, ⟨hou⟩, ⟨Nat.le_refl _⟩, ⟨k + 1, hle.1, by rw [hnx]; exact hg⟩, hle.2, ?_⟩
            conv => cbv
            simp [Hold.iff, hw2, hnx, hg]
        · have h : ¬ (k : Int) < n0 := of_decide_eq_false h
          have hk2 : n0.toNat = k := by omega
          conv => cbv
          simp [Hold.iff, rNums, hn, hk2, h2]
  · conv => cbv
    refine .ofT (by simp [he]) ?_
    conv => cbv
    simp [Hold.iff, rNums, he]
end Go.Am
/- alibilaw01.VarintReads keeps its contract: it returns true. -/
namespace Go.Am
set_option linter.all false
set_option linter.deprecated false
open Go.Proofs
set_option maxRecDepth 100000
set_option maxHeartbeats 4000000
theorem rRaw_fit {x : List (List D)} {a : Int} (e n : Int) (h0 : 0 ≤ a) (h1 : a ≤ (x.length : Int)) : 0 ≤ (rRaw x a e n).2.1 ∧ (rRaw x a e n).2.1 ≤ (x.length : Int) ∧ (rRaw x a e n).1.length ≤ x.length := by
  unfold rRaw
  split
  · split
    · exact ⟨h0, h1, by simp⟩
    · split
      · exact ⟨h0, h1, by simp⟩
      · refine ⟨by simp only; omega, by simp only; omega, ?_⟩
        simp only [List.length_take, List.length_drop]; omega
  · exact ⟨h0, h1, by simp⟩
theorem rText_fit {x : List (List D)} {a : Int} (e : Int) (h0 : 0 ≤ a) (h1 : a ≤ (x.length : Int)) : 0 ≤ (rText x a e).2.1 ∧ (rText x a e).2.1 ≤ (x.length : Int) ∧ (rText x a e).1.length ≤ x.length := by
  rw [rText_all]
  have hf := @rNum_fit (bn x) a e h0 (by simpa using h1)
  rw [show (bn x).length = x.length by simp] at hf
  unfold rTx
  split
  · split
    · exact ⟨h0, h1, by simp⟩
    · split
      · exact rRaw_fit 0 _ hf.1 hf.2.1
      · exact ⟨h0, h1, by simp⟩
  · exact ⟨h0, h1, by simp⟩
theorem rNums_fit {b : List Nat} {a : Int} (e n : Int) (h0 : 0 ≤ a) (h1 : a ≤ (b.length : Int)) : 0 ≤ (rNums b a e n).2.1 ∧ (rNums b a e n).2.1 ≤ (b.length : Int) ∧ (rNums b a e n).1.length ≤ b.length + 1 := by
  have hf := rSeq_fit h0 h1 n.toNat
  unfold rNums
  split
  · split
    · exact ⟨h0, h1, by simp⟩
    · split
      · exact ⟨hf.1, hf.2.1, hf.2.2.2⟩
      · exact ⟨h0, h1, by simp⟩
  · exact ⟨h0, h1, by simp⟩
def ofRow (x : List (List D)) : List UInt8 := x.map fun c => UInt8.ofNat (lk c 0).toInt.toNat
theorem bn_ofRow {x : List (List D)} (h : WfR U8 x) : bn (sRow (ofRow x)) = bn x := by
  simp only [bn, sRow, ofRow, List.map_map]
  refine List.map_congr_left fun c hc => ?_
  obtain ⟨i, hi, rfl⟩ := List.getElem_of_mem hc
  have h1 := h.2 i hi
  have e : lk x i = x[i] := by simp [lk, List.getD, hi]
  rw [e] at h1
  simp only [WfDs, WfD, and_true, u8_iff] at h1
  simp only [Function.comp, lk, List.getD_cons_zero]
  show ((UInt8.ofNat _).toNat : Int).toNat = _
  simp only [lk, List.getD_eq_getElem?_getD] at h1 ⊢
  rw [Int.toNat_natCast, UInt8.toNat_ofNat']
  omega
theorem ofRow_len (x : List (List D)) : (ofRow x).length = x.length := by simp [ofRow]
theorem len_bn {x y : List (List D)} (h : bn x = bn y) : x.length = y.length := by
  have := congrArg List.length h
  simpa using this
theorem rRaw_bn {x y : List (List D)} (h : bn x = bn y) (a e n : Int) : bn (rRaw x a e n).1 = bn (rRaw y a e n).1 ∧ (rRaw x a e n).2 = (rRaw y a e n).2 := by
  have hl := len_bn h
  have hb : ∀ i k, bn ((x.drop i).take k) = bn ((y.drop i).take k) := fun i k => by
    have := congrArg (fun l => (l.drop i).take k) h
    simpa only [bn, List.map_take, List.map_drop] using this
  unfold rRaw
  rw [hl]
  split
  · split
    · exact ⟨rfl, rfl⟩
    · split
      · exact ⟨rfl, rfl⟩
      · exact ⟨hb _ _, rfl⟩
  · exact ⟨rfl, rfl⟩
theorem rText_bn {x y : List (List D)} (h : bn x = bn y) (a e : Int) : bn (rText x a e).1 = bn (rText y a e).1 ∧ (rText x a e).2 = (rText y a e).2 := by
  rw [rText_all, rText_all, h]
  unfold rTx
  have hr := fun a n => rRaw_bn h a 0 n
  split
  · split
    · exact ⟨rfl, rfl⟩
    · rw [show (rRaw x (rNum (bn y) a e).2.1 0 ↑(rNum (bn y) a e).1).2.2 = (rRaw y (rNum (bn y) a e).2.1 0 ↑(rNum (bn y) a e).1).2.2 by rw [(hr _ _).2]]
      split
      · exact hr _ _
      · exact ⟨rfl, rfl⟩
  · exact ⟨rfl, rfl⟩
def Lrs : List (Nat × Contract) := [(18, trueC), (20, ownC), (22, sameC), (25, spoilC), (32, pickC), (34, fewC), (45, readC), (46, rfNumC), (47, rdNumC), (48, rfRawC), (49, rdRawC), (50, rfTextC), (51, rdTextC), (52, rfNumsC), (53, rdNumsC), (54, rdAtC), (55, rdLeftC), (56, rdErrC)]
def Grs : Ctx := fun f => gget Lrs f
theorem Grs_ok : ∀ f C, Grs f = some C → CSound Try.prog f C := gget_cons works_ok (gget_cons own_ok (gget_cons same_ok (gget_cons spoil_ok (gget_cons pick_ok (gget_cons few_ok (gget_cons read_ok (gget_cons rfNum_ok (gget_cons rdNum_ok (gget_cons rfRaw_ok (gget_cons rdRaw_ok (gget_cons rfText_ok (gget_cons rdText_ok (gget_cons rfNums_ok (gget_cons rdNums_ok (gget_cons rdAt_ok (gget_cons rdLeft_ok (gget_cons rdErr_ok (gget_nil _))))))))))))))))))

def readsC : Contract := { modes := [.ro, .ro], fn := fun args M => match args, M with
  | [.sl _ [.int .u8] _, .sl _ [.int .i64, .int .u64, .int .i64, .slice [.int .u8], .slice [.int .u64]] _], [] => some ⟨[], .bool fun _ => true, []⟩
  | _, _ => none }
def z77 (z : List (List D)) (k : Nat) : List (List D) := List.replicate k [D.int 77] ++ z.drop k
theorem z77_len {z : List (List D)} {k : Nat} (h : k ≤ z.length) : (z77 z k).length = z.length := by simp [z77]; omega
theorem z77_at {z : List (List D)} {k : Nat} (h : k < z.length) : lk (z77 z k) k = lk z k := by
  simp [z77, lk, List.getD, List.getElem?_append_right, h]
theorem z77_set {z : List (List D)} {k : Nat} (h : k < z.length) : (z77 z k).set k [D.int 77] = z77 z (k + 1) := by
  unfold z77
  rw [List.set_append_right _ _ (by simp), List.length_replicate, Nat.sub_self, List.drop_eq_getElem_cons h, List.set_cons_zero, List.replicate_succ', List.append_assoc, List.singleton_append]
structure RsI (n m : Nat) where
  i : Nat
  hi : i ≤ m
  a : Int
  e : Int
  h0 : 0 ≤ a
  h1 : a ≤ (n : Int)
theorem reads_ok : CSound Try.prog 11 readsC := by
  refine fsound' (G := Grs) (c := codeOf Try.f11) mixed tyT Grs_ok Try.func11 (by rfl) (by kernel_rfl) (by kernel_rfl) fun args M r hr hvc hw hm => ?_
  unfold readsC at hr
  simp only at hr
  split at hr <;> cases hr
  rename_i nb b nn xs
  clear hvc hm
  have hx : xs = fun _ => xs () := rfl
  generalize xs () = x at hx
  subst hx
  have hx : b = fun _ => b () := rfl
  generalize b () = b at hx
  subst hx
  simp only [WfVs, WfV, and_true] at hw
  obtain ⟨hwb, hwx⟩ := hw
  have hbn := bn_ofRow hwb
  have hbl := ofRow_len b
  have hof : List.map (fun c => UInt8.ofNat (lk c 0).toInt.toNat) b = ofRow b := rfl
  generalize ofRow b = s0 at hbn hbl hof
  conv => cbv
  refine Split.mk (fun h => ?_) (fun h => ?_)
  · conv => cbv
    refine .ofT (by simp) ?_
    conv => cbv
    exact ⟨rfl⟩
  have hlb : ¬ (200 : Int) < (b.length : Int) := by simpa using h
  conv => cbv
  refine Split.mk (fun h => ?_) (fun h => ?_)
  · conv => cbv
    exact ⟨rfl⟩
  have hF : fewS x = true := by simpa using h
  have hlen : x.length ≤ 30 := by simp only [fewS, Bool.and_eq_true, decide_eq_true_eq] at hF; exact hF.2
  have v1 : b.length ≤ big := by simp only [big]; omega
  have v0 : b.length ≤ 1099511627776 := by omega
  conv => cbv
  refine ⟨⟨v1⟩, ⟨by simp⟩, ⟨by simp [v1]⟩, ⟨by simp⟩, LoopP.mk (RsI b.length x.length) (fun s => ⟨ev 160 [(0, .sl false U8 fun _ => b), (1, .sl false ActS fun _ => x), (4, .bool fun _ => false), (6, .mp 1 0), (7, .mp 3 0), (8, .int .i64 fun _ => (s.i : Int))],
    [(1, .obj [.int .i64 fun _ => s.a, .int .i64 fun _ => s.e, .ms 2 (fun _ => 0) fun _ => b.length]), (2, .row false U8 fun _ => b), (3, .obj [.str fun _ => s0, .int .i64 fun _ => s.a, .int .i64 fun _ => s.e])], 8⟩) (fun s => x.length - s.i) ⟨0, Nat.zero_le _, 0, 0, by omega, by omega⟩ ?_ ?_⟩
  · conv => cbv
    simp [Hold.iff, hof]
  · intro s
    have hi := s.hi
    have h0 := s.h0
    have h1 := s.h1
    conv => cbv
    refine Split.mk (fun hc => ?_) (fun hc => ?_)
    · have hc : (s.i : Int) < (x.length : Int) := of_decide_eq_true hc
      have hc : s.i < x.length := by omega
      have q1 : 0 ≤ (s.i : Int) ∧ (s.i : Int) < (x.length : Int) := by omega
      have hw1 : IntKind.i64.wrap ((s.i : Int) + 1) = ((s.i + 1 : Nat) : Int) := by rw [wrap_i64 (by omega)]; omega
      have hlt : x.length - (s.i + 1) < x.length - s.i := by omega
      conv => cbv
      refine ⟨⟨q1⟩, ⟨show (4:Int) < 4611686018427387904 by omega⟩, ?_⟩
      generalize lk x ((s.i : Int)).toNat = c
      have hR := fun n => rRaw_bn hbn s.a s.e n
      have hT := rText_bn hbn s.a s.e
      have hl0 : s0.length = b.length := hbl
      have hNf := @rNum_fit (bn b) s.a s.e h0 (by simpa using h1)
      rw [show (bn b).length = b.length by simp] at hNf
      have f1 : 0 ≤ s.a ∧ s.a ≤ (s0.length : Int) ∧ s0.length ≤ big := ⟨h0, by omega, by omega⟩
      have f2 : (0:Nat) = 0 ∧ b.length = b.length ∧ 0 ≤ s.a ∧ s.a ≤ (b.length : Int) ∧ b.length ≤ big := ⟨rfl, rfl, h0, h1, v1⟩
      have f3 : 0 ≤ s.a ∧ s.a ≤ (s0.length : Int) ∧ s0.length + 1 ≤ big := ⟨h0, by omega, by simp only [big]; omega⟩
      have f4 : (0:Nat) = 0 ∧ b.length = b.length ∧ 0 ≤ s.a ∧ s.a ≤ (b.length : Int) ∧ b.length + 1 ≤ big := ⟨rfl, rfl, h0, h1, by simp only [big]; omega⟩
      have f5 : (0:Nat) = 0 ∧ b.length = b.length := ⟨rfl, rfl⟩
      have f6 : s0.length ≤ big := by omega
      refine Split.mk (fun hA => ?_) (fun hA => ?_)
      · have g1 : 0 ≤ (rNum (bn b) s.a s.e).2.1 ∧ (rNum (bn b) s.a s.e).2.1 ≤ (b.length : Int) ∧ b.length ≤ big := ⟨hNf.1, hNf.2.1, v1⟩
        have gw : IntKind.i64.wrap ((s0.length : Int) - (rNum (bn b) s.a s.e).2.1) = (b.length : Int) - (rNum (bn b) s.a s.e).2.1 := by rw [wrap_i64 (by omega)]; omega
        conv => cbv
        repeat (first | (refine .ofF ?_ ?_; (focus (simp [hbn, gw]; done)); conv => cbv) | (refine .ofT ?_ ?_; (focus (simp [hbn, gw]; done)); conv => cbv) | (refine ⟨⟨?_⟩, ?_⟩; (focus (first | exact f5 | exact f6 | exact g1 | (simp [hbn, gw, hl0, v1]; done)))))
        refine ⟨⟨s.i + 1, hc, (rNum (bn b) s.a s.e).2.1, (rNum (bn b) s.a s.e).2.2, hNf.1, hNf.2.1⟩, hlt, ?_⟩
        conv => cbv
        simp [Hold.iff, hbn, hw1]
      · conv => cbv
        refine Split.mk (fun hB => ?_) (fun hB => ?_)
        · conv => cbv
          have hRf := @rRaw_fit b s.a s.e (lk c 2).toInt h0 h1
          have g1 : 0 ≤ (rRaw b s.a s.e (lk c 2).toInt).2.1 ∧ (rRaw b s.a s.e (lk c 2).toInt).2.1 ≤ (b.length : Int) ∧ b.length ≤ big := ⟨hRf.1, hRf.2.1, v1⟩
          have gw : IntKind.i64.wrap ((s0.length : Int) - (rRaw b s.a s.e (lk c 2).toInt).2.1) = (b.length : Int) - (rRaw b s.a s.e (lk c 2).toInt).2.1 := by rw [wrap_i64 (by omega)]; omega
          repeat (first | (refine .ofF ?_ ?_; (focus (simp [hbn, hR, gw]; done)); conv => cbv) | (refine .ofT ?_ ?_; (focus (simp [hbn, hR, gw]; done)); conv => cbv) | (refine ⟨⟨?_⟩, ?_⟩; (focus (first | exact f1 | exact f2 | exact g1 | (simp [hbn, hR, gw, hl0, v1]; done)))))
          refine ⟨⟨s.i + 1, hc, (rRaw b s.a s.e (lk c 2).toInt).2.1, (rRaw b s.a s.e (lk c 2).toInt).2.2, hRf.1, hRf.2.1⟩, hlt, ?_⟩
          conv => cbv
          simp [Hold.iff, hR, hw1]
        · conv => cbv
          refine Split.mk (fun hC => ?_) (fun hC => ?_)
          · conv => cbv
            have hTf := @rText_fit b s.a s.e h0 h1
            have g1 : 0 ≤ (rText b s.a s.e).2.1 ∧ (rText b s.a s.e).2.1 ≤ (b.length : Int) ∧ b.length ≤ big := ⟨hTf.1, hTf.2.1, v1⟩
            have gw : IntKind.i64.wrap ((s0.length : Int) - (rText b s.a s.e).2.1) = (b.length : Int) - (rText b s.a s.e).2.1 := by rw [wrap_i64 (by omega)]; omega
            repeat (first | (refine .ofF ?_ ?_; (focus (simp [hbn, hT, gw]; done)); conv => cbv) | (refine .ofT ?_ ?_; (focus (simp [hbn, hT, gw]; done)); conv => cbv) | (refine ⟨⟨?_⟩, ?_⟩; (focus (first | exact f1 | exact f2 | exact g1 | (simp [hbn, hT, gw, hl0, v1]; done)))))
            refine ⟨⟨s.i + 1, hc, (rText b s.a s.e).2.1, (rText b s.a s.e).2.2, hTf.1, hTf.2.1⟩, hlt, ?_⟩
            conv => cbv
            simp [Hold.iff, hT, hw1]
          · conv => cbv
            have hNs := @rNums_fit (bn b) s.a s.e (lk c 2).toInt h0 (by simpa using h1)
            rw [show (bn b).length = b.length by simp] at hNs
            repeat (first | (refine .ofF ?_ ?_; (focus (simp [hbn]; done)); conv => cbv) | (refine .ofT ?_ ?_; (focus (simp [hbn]; done)); conv => cbv) | (refine ⟨⟨?_⟩, ?_⟩; (focus (first | exact f3 | exact f4 | (simp [hbn, hl0, v1]; done)))))
            generalize hz : (rNums (bn b) s.a s.e (lk c 2).toInt).1 = z at hNs
            generalize hz2 : (rNums (bn b) s.a s.e (lk c 2).toInt).2 = p at hNs
            have hz3 : (rNums (bn b) s.a s.e (lk c 2).toInt) = (z, p) := by rw [← hz, ← hz2]
            refine LoopP.mk {k : Nat // k ≤ z.length} (fun k => ⟨ev 160 [(0, .sl false U8 fun _ => b), (1, .sl false ActS fun _ => x), (4, .bool fun _ => false), (6, .mp 1 0), (7, .mp 3 0), (8, .int .i64 fun _ => (s.i : Int)), (19, .ms 4 (fun _ => 0) fun _ => z.length), (20, .ms 5 (fun _ => 0) fun _ => z.length), (21, .int .i64 fun _ => (k.1 : Int))],
              [(1, .obj [.int .i64 fun _ => p.1, .int .i64 fun _ => p.2, .ms 2 (fun _ => 0) fun _ => b.length]), (2, .row false U8 fun _ => b), (3, .obj [.str fun _ => s0, .int .i64 fun _ => p.1, .int .i64 fun _ => p.2]), (4, .row false U64 fun _ => z), (5, .row false U64 fun _ => z77 z k.1)], 8⟩) (fun k => z.length - k.1) ⟨0, Nat.zero_le _⟩ ?_ ?_
            · conv => cbv
              simp [Hold.iff, hbn, hz3, z77]
            · intro k
              have hk := k.2
              conv => cbv
              refine Split.mk (fun hd => ?_) (fun hd => ?_)
              · have hd : (k.1 : Int) < (z.length : Int) := of_decide_eq_true hd
                have hd : k.1 < z.length := by omega
                have q2 : 0 ≤ (k.1 : Int) ∧ (k.1 : Int) < (z.length : Int) := by omega
                have q3 : 0 + ((k.1 : Int)).toNat < (z77 z k.1).length := by rw [z77_len hk]; omega
                have q4 : 0 + ((k.1 : Int)).toNat < z.length := by omega
                have q5 : lk (z77 z k.1) (0 + ((k.1 : Int)).toNat) = lk z (0 + ((k.1 : Int)).toNat) := by
                  rw [show 0 + ((k.1 : Int)).toNat = k.1 by omega]; exact z77_at hd
                have q6 : (z77 z k.1).set (0 + ((k.1 : Int)).toNat) [D.int 77] = z77 z (k.1 + 1) := by
                  rw [show 0 + ((k.1 : Int)).toNat = k.1 by omega]; exact z77_set hd
                have hw2 : IntKind.i64.wrap ((k.1 : Int) + 1) = ((k.1 + 1 : Nat) : Int) := by rw [wrap_i64 (by omega)]; omega
                have hlt2 : k.1 + 1 ≤ z.length ∧ z.length - (k.1 + 1) < z.length - k.1 := by omega
                conv => cbv
                repeat (first | (refine .ofF ?_ ?_; (focus (simp [z77_at hd]; done)); conv => cbv) | (refine .ofT ?_ ?_; (focus (simp [z77_at hd]; done)); conv => cbv) | (refine ⟨⟨?_⟩, ?_⟩; (focus (first | exact q2 | exact q3 | exact q4 | (simp [z77_at hd]; done)))))
                refine ⟨⟨k.1 + 1, hlt2.1⟩, hlt2.2, ?_⟩
                conv => cbv
                simp [Hold.iff, hw2, z77_set hd]
              · have hd : ¬ (k.1 : Int) < (z.length : Int) := of_decide_eq_false hd
                have gw : IntKind.i64.wrap ((s0.length : Int) - p.1) = (b.length : Int) - p.1 := by rw [wrap_i64 (by omega)]; omega
                have g1 : 0 ≤ p.1 ∧ p.1 ≤ (b.length : Int) ∧ b.length ≤ big := ⟨hNs.1, hNs.2.1, v1⟩
                conv => cbv
                repeat (first | (refine .ofF ?_ ?_; (focus (simp [gw]; done)); conv => cbv) | (refine .ofT ?_ ?_; (focus (simp [gw]; done)); conv => cbv) | (refine ⟨⟨?_⟩, ?_⟩; (focus (first | exact g1 | (simp [gw]; done)))))
                refine ⟨⟨s.i + 1, hc, p.1, p.2, hNs.1, hNs.2.1⟩, hlt, ?_⟩
                conv => cbv
                simp [Hold.iff, hw1]
    · have hc : ¬ (s.i : Int) < (x.length : Int) := of_decide_eq_false hc
      conv => cbv
      exact ⟨rfl⟩
end Go.Am
