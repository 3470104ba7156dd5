/- The document's Get keeps the same contract as varint.Get. -/
import Derived.Test.YtckgeadidjmpcaaAmP7
namespace Go.Am
set_option linter.all false
set_option linter.deprecated false
open Go.Proofs
set_option maxRecDepth 100000
set_option maxHeartbeats 4000000
def L5 : List (Nat × Contract) := [(23, rputC')]
def G5 : Ctx := fun f => gget L5 f
theorem G5_ok : ∀ f C, G5 f = some C → CSound Try.prog f C := gget_cons rput_ok (gget_nil _)
def gfin (c : List Nat) (a : Int) : Nat × Int × Int :=
  match idx c with
  | none => if c.length = 10 then (0, 0, 10) else (0, 0, 4)
  | some n => if putB (valN (c.take (n + 1))) = c.take (n + 1) then (valN (c.take (n + 1)), a + n + 1, 0) else (0, 0, 10)
theorem getS_in {b : List Nat} {a : Int} (h : ¬ (a < 0 ∨ (b.length : Int) < a)) : getS b a = gfin ((b.drop a.toNat).take 10) a := by
  rw [getS, if_neg h]; rfl
structure RgI (c : List Nat) where
  n : Nat
  hn : n ≤ c.length
  h : ∀ j, j < n → 128 ≤ c.getD j 0
theorem gfin_none {c : List Nat} {a : Int} (h : ∀ j, j < c.length → 128 ≤ c.getD j 0) : gfin c a = if c.length = 10 then (0, 0, 10) else (0, 0, 4) := by
  rw [gfin, idx_none h]
theorem gfin_some {c : List Nat} {a : Int} {n : Nat} (hn : n < c.length) (h : ∀ j, j < n → 128 ≤ c.getD j 0) (hl : c.getD n 0 < 128) :
    gfin c a = if putB (valN (c.take (n + 1))) = c.take (n + 1) then (valN (c.take (n + 1)), a + n + 1, 0) else (0, 0, 10) := by
  rw [gfin, idx_some hn h hl]
structure RcI (p c : List Nat) (n : Nat) where
  i : Nat
  hi : i ≤ n + 1
  h : p.take i = c.take i
theorem mulrem (v b : Nat) (hv : v < 18446744073709551616) (hb : b < 256) :
    IntKind.u64.wrap (IntKind.u64.wrap ((v : Int) * 128) + IntKind.u64.wrap ((b : Int).tmod 128)) = ((v * 128 % 18446744073709551616 + b % 128 : Nat) : Int) := by
  rw [Int.tmod_eq_emod_of_nonneg (by omega)]
  simp only [wrap_u64_mod]
  omega
theorem rget_ok : CSound Try.prog 26 getC := by
  refine fsound' (G := G5) (c := codeOf Try.f26) mixed tyT G5_ok Try.func26 (by rfl) (by kernel_rfl) (by kernel_rfl) fun args M r hr hvc hw hm => ?_
  unfold getC at hr
  simp only at hr
  split at hr <;> cases hr
  rename_i xs a
  obtain ⟨x, rfl⟩ : ∃ x, xs = fun _ => x := ⟨xs (), rfl⟩
  obtain ⟨a, rfl⟩ : ∃ x, a = fun _ => x := ⟨a (), rfl⟩
  clear hvc hm
  simp only [WfVs, WfV, and_true, i64_iff] at hw
  have hx := hw.1.1
  obtain ⟨c, hc⟩ : ∃ c, c = (x.drop a.toNat).take 10 := ⟨_, rfl⟩
  conv => cbv
  refine Split.mk (fun h => ?_) (fun h => ?_)
  · have h : a < 0 := of_decide_eq_true h
    have e : getS (bn x) a = (0, 0, 2) := by rw [getS, if_pos (.inl h)]
    conv => cbv
    refine .yes ?_
    conv => cbv
    simp only [Hold.iff, e]
    decide
  · have h : ¬ a < 0 := of_decide_eq_false h
    conv => cbv
    refine Split.mk (fun h2 => ?_) (fun h2 => ?_)
    · have h2 : (x.length : Int) < a := of_decide_eq_true h2
      have e : getS (bn x) a = (0, 0, 2) := by rw [getS, if_pos (.inr (by simpa using h2))]
      conv => cbv
      simp only [Hold.iff, e]
      decide
    · have h2 : ¬ (x.length : Int) < a := of_decide_eq_false h2
      have hwc : WfR U8 c := by rw [hc]; exact (hw.1.drop _).take _
      have hcl : c.length = min 10 (x.length - a.toNat) := by rw [hc]; simp
      obtain ⟨al, hal⟩ : ∃ al : Nat, a = al := Int.eq_ofNat_of_zero_le (by omega)
      have hcx : ∀ i, i < c.length → (bn x).getD (al + i) 0 = (bn c).getD i 0 := fun i hi => by
        rw [hc, bn_take, bn_drop, hal]
        have : i < 10 := by omega
        simp [List.getD, List.getElem?_take, List.getElem?_drop, this]
      have hS : getS (bn x) a = gfin (bn c) a := by
        rw [getS_in (by simp; omega), hc, bn_take, bn_drop]
      clear hc
      subst hal
      simp only [Int.toNat_natCast] at hcl
      conv => cbv
      refine LoopP.mk (RgI (bn c)) (fun s => ⟨finit 93 [.sl false U8 fun _ => x, .int .i64 fun _ => al, .un, .un, .int .u64 fun _ => 0, .int .i64 fun _ => 0, .int .i64 fun _ => 0, .int .i64 fun _ => s.n], [], 8⟩) (fun s => 10 - s.n) ⟨0, Nat.zero_le _, fun _ h => by omega⟩ ?_ ?_
      · conv => cbv
        exact ⟨⟨rfl⟩, ⟨rfl⟩, ⟨rfl⟩, ⟨rfl⟩, ⟨rfl⟩, ⟨rfl⟩⟩
      · intro ⟨n, hn, he⟩
        rw [bn_len] at hn
        have hw0 : IntKind.i64.wrap ((al : Int) + n) = al + n := wrap_i64 (by omega)
        conv => cbv
        refine Split.mk (fun h3 => ?_) (fun h3 => ?_)
        · have h3 : (n : Int) < 10 := of_decide_eq_true h3
          conv => cbv
          refine Split.mk (fun h4 => ?_) (fun h4 => ?_)
          · have h4 : IntKind.i64.wrap ((al : Int) + n) < x.length := of_decide_eq_true h4
            have hB : 0 ≤ IntKind.i64.wrap ((al : Int) + n) ∧ IntKind.i64.wrap ((al : Int) + n) < x.length := by rw [hw0] at h4 ⊢; omega
            rw [hw0] at h4
            have hv : (lk (lk x (IntKind.i64.wrap ((al : Int) + n)).toNat) 0).toInt = (((bn c).getD n 0 : Nat) : Int) := by
              rw [hw0, show ((al : Int) + n).toNat = al + n by omega, bn_at hw.1 (by omega), hcx n (by omega)]
            have hnc : n < c.length := by omega
            have hnc' : n < (bn c).length := by simpa using hnc
            conv => cbv
            refine ⟨⟨hB⟩, Split.mk (fun h5 => ?_) (fun h5 => ?_)⟩
            · have h5 := of_decide_eq_true h5
              rw [hv] at h5
              have h5 : 128 ≤ (bn c).getD n 0 := Int.ofNat_le.1 h5
              have he' : ∀ j, j < n + 1 → 128 ≤ (bn c).getD j 0 := fun j hj => by
                by_cases hji : j = n
                · subst hji; exact h5
                · exact he j (by omega)
              have hw1 : IntKind.i64.wrap ((n : Int) + 1) = ((n + 1 : Nat) : Int) := by rw [wrap_i64 (by omega)]; omega
              have hlt : 10 - (n + 1) < 10 - n := by omega
              conv => cbv
              refine ⟨⟨n + 1, hnc', he'⟩, hlt, ?_⟩
              conv => cbv
              exact ⟨⟨rfl⟩, ⟨rfl⟩, ⟨rfl⟩, ⟨rfl⟩, ⟨rfl⟩, ⟨hw1⟩⟩
            · have h5 := of_decide_eq_false h5
              rw [hv] at h5
              have h5 : (bn c).getD n 0 < 128 := Nat.lt_of_not_le fun hh => h5 (Int.ofNat_le.2 hh)
              rw [gfin_some hnc' he h5] at hS
              have h6 : ¬ (n : Int) = 10 := by omega
              have h7 : ¬ ((x.length : Int) ≤ IntKind.i64.wrap ((al : Int) + n)) := by rw [hw0]; omega
              conv => cbv
              refine .ofF (beq_eq_false_iff_ne.2 h6) ?_
              conv => cbv
              refine .ofF (decide_eq_false h7) ?_
              conv => cbv
              refine LoopP.mk (GetI (bn c) n) (fun s => ⟨finit 93 [.sl false U8 fun _ => x, .int .i64 fun _ => al, .un, .un, .int .u64 fun _ => 0, .int .i64 fun _ => 0, .int .i64 fun _ => 0, .int .i64 fun _ => n, .int .u64 fun _ => s.v, .int .i64 fun _ => (s.i : Int) - 1], [], 8⟩) (fun s => s.i) ⟨n + 1, 0, Nat.le_refl _, by simp [valN]⟩ ?_ ?_
              · conv => cbv
                refine ⟨⟨rfl⟩, ⟨rfl⟩, ⟨rfl⟩, ⟨rfl⟩, ⟨rfl⟩, ⟨rfl⟩, ⟨rfl⟩, ⟨?_⟩⟩
                show (n : Int) = ((n + 1 : Nat) : Int) - 1
                omega
              · intro ⟨i, v, hi, hv⟩
                have hv64 : v < 18446744073709551616 := by rw [hv]; exact valN_lt _
                conv => cbv
                refine Split.mk (fun h8 => ?_) (fun h8 => ?_)
                · have h8 : (0 : Int) ≤ (i : Int) - 1 := of_decide_eq_true h8
                  obtain ⟨j, rfl⟩ : ∃ j, i = j + 1 := ⟨i - 1, by omega⟩
                  have hjc : j < c.length := by omega
                  have hb256 : (bn c).getD j 0 < 256 := bn_lt hwc _ (by simp [List.getD, hjc])
                  have hwi : IntKind.i64.wrap ((al : Int) + (((j + 1 : Nat) : Int) - 1)) = al + j := by rw [wrap_i64 (by omega)]; omega
                  have hidx : 0 ≤ IntKind.i64.wrap ((al : Int) + (((j + 1 : Nat) : Int) - 1)) ∧ IntKind.i64.wrap ((al : Int) + (((j + 1 : Nat) : Int) - 1)) < (x.length : Int) := by rw [hwi]; omega
                  have hbj : (lk (lk x (IntKind.i64.wrap ((al : Int) + (((j + 1 : Nat) : Int) - 1))).toNat) 0).toInt = (((bn c).getD j 0 : Nat) : Int) := by
                    rw [hwi, show ((al : Int) + j).toNat = al + j by omega, bn_at hw.1 (by omega), hcx j (by omega)]
                  have hval : valN (((bn c).take (n + 1)).drop j) = v * 128 % 18446744073709551616 + (bn c).getD j 0 % 128 := by
                    have hlt : j < ((bn c).take (n + 1)).length := by simp; omega
                    rw [List.drop_eq_getElem_cons hlt, valN, ← hv]
                    simp [List.getD, hjc]
                  have hw1 : IntKind.i64.wrap (((j + 1 : Nat) : Int) - 1 - 1) = (j : Int) - 1 := by rw [wrap_i64 (by omega)]; omega
                  have hstep := mulrem v _ hv64 hb256
                  have hn1 : j ≤ n + 1 := by omega
                  have hlt : j < j + 1 := by omega
                  have h9 : (128 : Int) ≠ 0 := by decide
                  conv => cbv
                  refine ⟨⟨hidx⟩, ⟨h9⟩, ⟨j, _, hn1, hval.symm⟩, hlt, ?_⟩
                  conv => cbv
                  refine ⟨⟨rfl⟩, ⟨rfl⟩, ⟨rfl⟩, ⟨rfl⟩, ⟨rfl⟩, ⟨rfl⟩, ⟨?_⟩, ⟨hw1⟩⟩
                  simp only [hbj]
                  exact hstep
                · have h8 : ¬ (0 : Int) ≤ (i : Int) - 1 := of_decide_eq_false h8
                  obtain rfl : i = 0 := by omega
                  have hv0 : v = valN ((bn c).take (n + 1)) := by simpa using hv
                  rw [← hv0] at hS
                  have hw1 : IntKind.i64.wrap ((n : Int) + 1) = n + 1 := wrap_i64 (by omega)
                  conv => cbv
                  refine Split.mk (fun h10 => ?_) (fun h10 => ?_)
                  · have h10 : ((putB v).length : Int) ≠ IntKind.i64.wrap ((n : Int) + 1) := ne_t h10
                    have hne : putB v ≠ (bn c).take (n + 1) := fun e => h10 (by rw [hw1, e]; simp; omega)
                    rw [if_neg hne] at hS
                    conv => cbv
                    simp only [Hold.iff, hS]
                    decide
                  · have h10 : ((putB v).length : Int) = IntKind.i64.wrap ((n : Int) + 1) := ne_f h10
                    have h10 : (putB v).length = n + 1 := by rw [hw1] at h10; omega
                    conv => cbv
                    refine LoopP.mk (RcI (putB v) (bn c) n) (fun s => ⟨finit 93 [.sl false U8 fun _ => x, .int .i64 fun _ => al, .un, .un, .int .u64 fun _ => 0, .int .i64 fun _ => 0, .int .i64 fun _ => 0, .int .i64 fun _ => n, .int .u64 fun _ => v, .un, .ms 0 (fun _ => 0) (fun _ => (putB v).length), .int .i64 fun _ => s.i], [(0, .row false U8 fun _ => rowB (putB v))], 8⟩) (fun s => n + 1 - s.i) ⟨0, Nat.zero_le _, rfl⟩ ?_ ?_
                    · conv => cbv
                      exact ⟨⟨rfl⟩, ⟨rfl⟩, ⟨rfl⟩, ⟨rfl⟩, ⟨rfl⟩, ⟨rfl⟩, ⟨rfl⟩, ⟨rfl, rfl⟩, ⟨rfl⟩, ⟨rfl⟩⟩
                    · intro ⟨i, hi, hpc⟩
                      conv => cbv
                      refine Split.mk (fun h11 => ?_) (fun h11 => ?_)
                      · have h11 : (i : Int) ≤ n := of_decide_eq_true h11
                        have h11 : i ≤ n := by omega
                        have hwi : IntKind.i64.wrap ((al : Int) + i) = al + i := wrap_i64 (by omega)
                        have hB1 : (0 : Int) ≤ (i : Int) ∧ (i : Int) < ((putB v).length : Int) := by omega
                        have hB2 : 0 + ((i : Int)).toNat < (rowB (putB v)).length := by simp; omega
                        have hB3 : 0 ≤ IntKind.i64.wrap ((al : Int) + i) ∧ IntKind.i64.wrap ((al : Int) + i) < (x.length : Int) := by rw [hwi]; omega
                        have hv1 : (lk (lk x (IntKind.i64.wrap ((al : Int) + i)).toNat) 0).toInt = (((bn c).getD i 0 : Nat) : Int) := by
                          rw [hwi, show ((al : Int) + i).toNat = al + i by omega, bn_at hw.1 (by omega), hcx i (by omega)]
                        have hv2 : (lk (lk (rowB (putB v)) (0 + ((i : Int)).toNat)) 0).toInt = (((putB v).getD i 0 : Nat) : Int) := by
                          have e1 : i < (putB v).length := by omega
                          simp [rowB, lk, List.getD, e1, D.toInt]
                        conv => cbv
                        refine ⟨⟨hB1⟩, ⟨hB2⟩, ⟨hB3⟩, Split.mk (fun h12 => ?_) (fun h12 => ?_)⟩
                        · have h12 := ne_t h12
                          rw [hv1, hv2] at h12
                          have hne : putB v ≠ (bn c).take (n + 1) := fun e => h12 (by
                            have : i < n + 1 := by omega
                            rw [e]; simp [List.getD, List.getElem?_take, this])
                          rw [if_neg hne] at hS
                          conv => cbv
                          simp only [Hold.iff, hS]
                          decide
                        · have h12 := ne_f h12
                          rw [hv1, hv2] at h12
                          have h12 : (putB v).getD i 0 = (bn c).getD i 0 := Int.ofNat_inj.1 h12
                          have hn2 := take_next (by omega) (show i < (bn c).length by simp; omega) hpc h12
                          have hi2 : i + 1 ≤ n + 1 := by omega
                          have hlt : n + 1 - (i + 1) < n + 1 - i := by omega
                          have hw2 : IntKind.i64.wrap ((i : Int) + 1) = ((i + 1 : Nat) : Int) := by rw [wrap_i64 (by omega)]; omega
                          conv => cbv
                          refine ⟨⟨i + 1, hi2, hn2⟩, hlt, ?_⟩
                          conv => cbv
                          exact ⟨⟨rfl⟩, ⟨rfl⟩, ⟨rfl⟩, ⟨rfl⟩, ⟨rfl⟩, ⟨rfl⟩, ⟨rfl⟩, ⟨rfl, rfl⟩, ⟨hw2⟩, ⟨rfl⟩⟩
                      · have h11 : ¬ (i : Int) ≤ n := of_decide_eq_false h11
                        obtain rfl : i = n + 1 := by omega
                        have heq : putB v = (bn c).take (n + 1) := by rw [← hpc, List.take_of_length_le (by omega)]
                        rw [if_pos heq] at hS
                        have hs1 : IntKind.i64.wrap (IntKind.i64.wrap ((al : Int) + n) + 1) = al + n + 1 := by rw [wrap_i64 (n := (al : Int) + n) (by omega), wrap_i64 (by omega)]
                        conv => cbv
                        simp only [Hold.iff, hS]
                        exact ⟨trivial, hs1, trivial⟩
          · have h4 : ¬ IntKind.i64.wrap ((al : Int) + n) < x.length := of_decide_eq_false h4
            rw [hw0] at h4
            have hnc : c.length = n := by omega
            rw [gfin_none (fun j hj => he j (by simp at hj; omega)), bn_len, if_neg (by omega)] at hS
            have h6 : ¬ (n : Int) = 10 := by omega
            have h7 : ((x.length : Int) ≤ IntKind.i64.wrap ((al : Int) + n)) := by rw [hw0]; omega
            conv => cbv
            refine .no ?_
            conv => cbv
            refine .ofF (beq_eq_false_iff_ne.2 h6) ?_
            conv => cbv
            refine .ofT (decide_eq_true h7) ?_
            conv => cbv
            simp only [Hold.iff, hS]
            decide
        · have h3 : ¬ (n : Int) < 10 := of_decide_eq_false h3
          have h6 : (n : Int) = 10 := by omega
          rw [gfin_none (fun j hj => he j (by simp at hj; omega)), bn_len, if_pos (by omega)] at hS
          conv => cbv
          refine .no ?_
          conv => cbv
          refine .no ?_
          conv => cbv
          refine .ofT (beq_iff_eq.2 h6) ?_
          conv => cbv
          simp only [Hold.iff, hS]
          decide
end Go.Am
