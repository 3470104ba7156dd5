/- bytes.Join, crc.Put, crc.Open keep their contracts. -/
import Derived.Test.YtckgeadidjmpcaaAmP10
namespace Go.Am
set_option linter.all false
set_option linter.deprecated false
open Go.Proofs
set_option maxRecDepth 100000
set_option maxHeartbeats 4000000
theorem noz : CSound Try.prog 89 nozC := noz_ok Try.func89 (by rfl) (by rfl) (by kernel_rfl) (ps := #[3]) (t := 23) (e := 5) (by kernel_rfl) Try.underlying23
def joinC0 : Contract := { modes := [.ro, .ro], fn := fun args M => match args, M with
  | [.sl _ [.slice [.int .u8]] xs, .sl _ [.int .u8] ys], [] => some ⟨[fun _ => (fl (xs ())).length ≤ big, fun _ => ys () = []], .ms 0 (fun _ => 0) (fun _ => (fl (xs ())).length), [(0, some (.row false U8 fun _ => fl (xs ())))]⟩
  | _, _ => none }
def Lj : List (Nat × Contract) := [(89, nozC)]
def Gj : Ctx := fun f => gget Lj f
theorem Gj_ok : ∀ f C, Gj f = some C → CSound Try.prog f C := gget_cons noz (gget_nil _)
theorem copy0 {α : Type} (R : List α) (lo len : Nat) : R.take lo ++ ([] : List α).take len ++ R.drop (lo + min len 0) = R := by simp
theorem copyY {α : Type} (A T Y : List α) (len : Nat) (h : Y.length ≤ len) (hA : A.length + len = T.length) : (A ++ T.drop A.length).take A.length ++ Y.take len ++ (A ++ T.drop A.length).drop (A.length + min len Y.length) = (A ++ Y) ++ T.drop (A ++ Y).length := by
  rw [List.take_left, List.take_of_length_le h, Nat.min_eq_right h, ← List.drop_drop, List.drop_left, List.drop_drop, List.length_append]
theorem join_ok0 : CSound Try.prog 79 joinC0 := by
  refine fsound' (G := Gj) (c := codeOf Try.f79) mixed tyT Gj_ok Try.func79 (by rfl) (by kernel_rfl) (by kernel_rfl) fun args M r hr hvc hw hm => ?_
  unfold joinC0 at hr
  simp only at hr
  split at hr <;> cases hr
  rename_i nn xs mm ys
  have hb : (fl (xs ())).length ≤ big := hvc _ List.mem_cons_self
  have hy : ys () = [] := hvc (fun _ => ys () = []) (List.mem_cons_of_mem _ List.mem_cons_self)
  clear hvc hm
  obtain ⟨x, rfl⟩ : ∃ x, xs = fun _ => x := ⟨xs (), rfl⟩
  obtain ⟨y, rfl⟩ : ∃ x, ys = fun _ => x := ⟨ys (), rfl⟩
  have hb : (fl x).length ≤ 1099511627776 := hb
  have hy : y = [] := hy
  subst hy
  simp only [WfVs, WfV, and_true] at hw
  have hx := hw.1.1
  conv => cbv
  refine Split.mk (fun h => ?_) (fun h => ?_)
  · have h : (x.length : Int) = 0 := eq_t h
    have h : x = [] := List.eq_nil_of_length_eq_zero (by omega)
    conv => cbv
    subst h
    simp [Hold.iff, fl, chunk]
  · have h : (x.length : Int) ≠ 0 := eq_f h
    conv => cbv
    refine Split.mk (fun h1 => ?_) (fun h1 => ?_)
    · have h1 : (x.length : Int) = 1 := eq_t h1
      have h2 : fl x = (lk (lk x 0) 0).toList := by
        match x, h1 with
        | [a], _ => simp [fl, lk]
      have hB : (0 : Int) ≤ 0 ∧ (0 : Int) < (x.length : Int) := by omega
      conv => cbv
      refine ⟨⟨hB⟩, ⟨?_⟩, ⟨rfl, ?_⟩, ⟨?_⟩⟩
      · show ((lk (lk x 0) 0).toList).length ≤ 1099511627776
        rw [← h2]; exact hb
      · show ((lk (lk x 0) 0).toList).length = (fl x).length
        rw [h2]
      · exact h2.symm
    · have h1 : (x.length : Int) ≠ 1 := eq_f h1
      conv => cbv
      refine .ofF (by decide) ?_
      conv => cbv
      refine LoopP.mk {i : Nat // i ≤ x.length} (fun i => ⟨ev 92 [(0, .sl false [.slice U8] fun _ => x), (1, .sl false U8 fun _ => []), (4, .nils), (5, .int .i64 fun _ => ((fl (x.take i.1)).length : Int)), (42, .sl false [.slice U8] fun _ => x), (43, .int .i64 fun _ => x.length), (44, .int .i64 fun _ => (i.1 : Int))], [], 8⟩) (fun i => x.length - i.1) ⟨0, Nat.zero_le _⟩ ?_ ?_
      · conv => cbv
        exact ⟨⟨rfl⟩, ⟨rfl⟩, ⟨rfl⟩, ⟨rfl⟩, ⟨rfl⟩, ⟨rfl⟩⟩
      · intro ⟨i, hi⟩
        conv => cbv
        refine Split.mk (fun h3 => ?_) (fun h3 => ?_)
        · have h3 : (i : Int) < x.length := of_decide_eq_true h3
          have h3 : i < x.length := by omega
          have hB : 0 ≤ (i : Int) ∧ (i : Int) < (x.length : Int) := by omega
          have h4 := fl_len_take h3
          have h5 := fl_take h3
          have hw1 : IntKind.i64.wrap ((i : Int) + 1) = ((i + 1 : Nat) : Int) := by rw [wrap_i64 (by omega)]; omega
          have hw2 : ¬ (IntKind.i64.wrap (9223372036854775807 - ((fl (x.take i)).length : Int)) < (((lk (lk x ((i : Int)).toNat) 0).toList).length : Int)) := by
            rw [wrap_i64 (by omega), Int.toNat_natCast]; omega
          have hlt : i + 1 ≤ x.length ∧ x.length - (i + 1) < x.length - i := by omega
          have hs2 : IntKind.i64.wrap (((fl (x.take i)).length : Int) + (((lk (lk x ((i : Int)).toNat) 0).toList).length : Int)) = ((fl (x.take (i + 1))).length : Int) := by
            rw [h5, Int.toNat_natCast, wrap_i64 (by omega)]; simp
          conv => cbv
          refine ⟨⟨hB⟩, .ofF (decide_eq_false hw2) ?_⟩
          conv => cbv
          refine ⟨⟨i + 1, hlt.1⟩, hlt.2, ?_⟩
          conv => cbv
          exact ⟨⟨rfl⟩, ⟨rfl⟩, ⟨hs2⟩, ⟨rfl⟩, ⟨rfl⟩, ⟨hw1⟩⟩
        · have h3 : ¬ (i : Int) < x.length := of_decide_eq_false h3
          have hi2 : i = x.length := by omega
          have e : x.take i = x := List.take_of_length_le (by omega)
          have hbig : ((big : Nat) : Int) = 1099511627776 := rfl
          have hp : 0 ≤ ((fl (x.take i)).length : Int) ∧ ((fl (x.take i)).length : Int) ≤ (big : Int) := by rw [e, hbig]; omega
          conv => cbv
          refine ⟨⟨hp⟩, fun d hd => ?_⟩
          have hdl : d.toList.length = (((fl (x.take i)).length : Int)).toNat := hd.1
          clear hd
          have hdl : d.toList.length = (fl x).length := by rw [hdl, e]; simp
          have v1 : (0 : Int) ≤ 0 ∧ (0 : Int) ≤ ((fl (x.take i)).length : Int) ∧ ((fl (x.take i)).length : Int) ≤ ((fl (x.take i)).length : Int) ∧ ((fl (x.take i)).length : Int) ≤ (((((fl (x.take i)).length : Int)).toNat : Nat) : Int) := by omega
          have v2 : (0 : Int) ≤ 0 ∧ (0 : Int) < (x.length : Int) := by omega
          have v3 : 0 + (0 : Int).toNat + ((((fl (x.take i)).length : Int)).toNat - (0 : Int).toNat) ≤ d.toList.length := by rw [hdl, e]; simp
          have v4 : (0 : Int) ≤ 1 ∧ (1 : Int) ≤ (x.length : Int) ∧ (x.length : Int) ≤ (x.length : Int) ∧ (x.length : Int) ≤ (x.length : Int) := by omega
          have hx0 : 0 < x.length := by omega
          have f1 := fl_take hx0
          have f2 := fl_len_take hx0
          simp only [List.take_zero, fl, List.map_nil, List.flatten_nil, List.nil_append, List.length_nil, Nat.zero_add] at f1 f2
          rw [← fl] at f1 f2
          conv => cbv
          refine ⟨⟨v1⟩, ⟨v2⟩, ⟨v3⟩, ⟨v4⟩, LoopP.mk {j : Nat // j + 1 ≤ x.length} (fun j => ⟨ev 92 [(0, .sl false [.slice U8] fun _ => x), (1, .sl false U8 fun _ => []), (8, .ms 0 (fun _ => 0) (fun _ => (fl x).length)), (9, .int .i64 fun _ => ((fl (x.take (j.1 + 1))).length : Int)), (70, .sl false [.slice U8] fun _ => x.drop 1), (71, .int .i64 fun _ => (x.length : Int) - 1), (72, .int .i64 fun _ => (j.1 : Int))],
            [(0, .row true U8 fun _ => fl (x.take (j.1 + 1)) ++ d.toList.drop (fl (x.take (j.1 + 1))).length)], 8⟩) (fun j => x.length - j.1) ⟨0, hx0⟩ ?_ ?_⟩
          · have w0 : (((fl (x.take i)).length : Int)).toNat - (0 : Int).toNat = (fl x).length := by rw [e]; simp
            have w1 : ((min ((((fl (x.take i)).length : Int)).toNat - (0 : Int).toNat) ((lk (lk x 0) 0).toList).length : Nat) : Int) = ((fl (x.take (0 + 1))).length : Int) := by
              rw [w0, f1]; omega
            have w2 : List.take ((x.length : Int).toNat - (1 : Int).toNat) (List.drop (1 : Int).toNat x) = x.drop 1 := List.take_of_length_le (by simp)
            have w3 : ((List.take ((x.length : Int).toNat - (1 : Int).toNat) (List.drop (1 : Int).toNat x)).length : Int) = (x.length : Int) - 1 := by rw [w2]; simp; omega
            have w4 := copyY [] d.toList (lk (lk x 0) 0).toList (fl x).length f2 (by simp; exact hdl.symm)
            simp only [List.length_nil, List.drop_zero, List.nil_append, List.take_zero, Nat.zero_add] at w4
            conv => cbv
            refine ⟨⟨rfl⟩, ⟨rfl⟩, ⟨rfl, w0⟩, ⟨w1⟩, ⟨w2⟩, ⟨w3⟩, ⟨rfl⟩, ⟨?_⟩⟩
            show d.toList.take (0 + (0 : Int).toNat) ++ ((lk (lk x 0) 0).toList).take ((((fl (x.take i)).length : Int)).toNat - (0 : Int).toNat) ++ d.toList.drop (0 + (0 : Int).toNat + min ((((fl (x.take i)).length : Int)).toNat - (0 : Int).toNat) ((lk (lk x 0) 0).toList).length) = fl (x.take (0 + 1)) ++ d.toList.drop (fl (x.take (0 + 1))).length
            rw [w0, f1]
            simpa using w4
          · intro ⟨j, hj⟩
            conv => cbv
            refine Split.mk (fun h4 => ?_) (fun h4 => ?_)
            · have h4 : (j : Int) < (x.length : Int) - 1 := of_decide_eq_true h4
              have hj1 : j + 1 < x.length := by omega
              have g1 := fl_take hj1
              have g2 := fl_len_take hj1
              have gd : lk (x.drop 1) j = lk x (j + 1) := by simp [lk, List.getD, List.getElem?_drop, Nat.add_comm]
              have y1 : 0 ≤ (j : Int) ∧ (j : Int) < ((x.drop 1).length : Int) := by simp; omega
              have y2 : 0 ≤ ((fl (x.take (j + 1))).length : Int) ∧ ((fl (x.take (j + 1))).length : Int) ≤ ((fl x).length : Int) ∧ ((fl x).length : Int) ≤ ((fl x).length : Int) ∧ ((fl x).length : Int) ≤ ((fl x).length : Int) := by omega
              have yl : (fl (x.take (j + 1)) ++ d.toList.drop (fl (x.take (j + 1))).length).length = (fl x).length := by simp; omega
              have y3 : 0 + (((fl (x.take (j + 1))).length : Int)).toNat + ((((fl x).length : Int)).toNat - (((fl (x.take (j + 1))).length : Int)).toNat) ≤ (fl (x.take (j + 1)) ++ d.toList.drop (fl (x.take (j + 1))).length).length := by rw [yl]; omega
              have yw : IntKind.i64.wrap (((fl (x.take (j + 1))).length : Int) + ((0 : Nat) : Int)) = ((fl (x.take (j + 1))).length : Int) := by rw [wrap_i64] <;> omega
              conv => cbv
              refine ⟨⟨y1⟩, ⟨y2⟩, ⟨y3⟩, ⟨?_⟩, ⟨?_⟩, ⟨j + 1, hj1⟩, ?_, ?_⟩
              · simp only [Int.toNat_natCast, List.length_nil, Nat.min_zero, yw]
                exact y2
              · simp only [Int.toNat_natCast, List.length_nil, Nat.min_zero, yw, List.take_nil, List.append_nil, Nat.add_zero, List.take_append_drop, yl]
                omega
              · simp only; omega
              · have k1 : IntKind.i64.wrap ((j : Int) + 1) = ((j + 1 : Nat) : Int) := by rw [wrap_i64 (by omega)]; omega
                have k2 : min ((fl x).length - (fl (x.take (j + 1))).length) ((lk (lk x (j + 1)) 0).toList).length = ((lk (lk x (j + 1)) 0).toList).length := by omega
                have k3 : IntKind.i64.wrap (((fl (x.take (j + 1))).length : Int) + (((lk (lk x (j + 1)) 0).toList).length : Int)) = ((fl (x.take (j + 1 + 1))).length : Int) := by
                  rw [g1, wrap_i64 (by omega)]; simp
                have k4 := copyY (fl (x.take (j + 1))) d.toList (lk (lk x (j + 1)) 0).toList ((fl x).length - (fl (x.take (j + 1))).length) (by omega) (by omega)
                rw [k2, ← g1] at k4
                conv => cbv
                refine ⟨⟨rfl⟩, ⟨rfl⟩, ⟨rfl, rfl⟩, ⟨?_⟩, ⟨rfl⟩, ⟨rfl⟩, ⟨k1⟩, ⟨?_⟩⟩
                · simp only [Int.toNat_natCast, List.length_nil, Nat.min_zero, yw, gd, k2]
                  exact k3
                · simp only [Int.toNat_natCast, List.length_nil, Nat.min_zero, yw, gd, k2, List.take_nil, List.append_nil, Nat.add_zero, Nat.zero_add, List.take_append_drop]
                  exact k4
            · have h4 : ¬ (j : Int) < (x.length : Int) - 1 := of_decide_eq_false h4
              have hjx : j + 1 = x.length := by omega
              have e2 : x.take (j + 1) = x := List.take_of_length_le (by omega)
              conv => cbv
              refine ⟨⟨rfl, rfl⟩, ⟨?_⟩⟩
              show fl (x.take (j + 1)) ++ d.toList.drop (fl (x.take (j + 1))).length = fl x
              rw [e2]
              simp [List.drop_of_length_le, hdl]
def joinC : Contract := { modes := [.ro, .ro], fn := fun args M => match args, M with
  | [.sl _ [.slice [.int .u8]] xs, .nils], [] => some ⟨[fun _ => (fl (xs ())).length ≤ big], .ms 0 (fun _ => 0) (fun _ => (fl (xs ())).length), [(0, some (.row false U8 fun _ => fl (xs ())))]⟩
  | _, _ => none }
theorem join_ok : CSound Try.prog 79 joinC := csound_weak join_ok0 fun args M r hr hvc hw => by
  unfold joinC at hr
  simp only at hr
  split at hr <;> cases hr
  rename_i nn xs
  have hb : (fl (xs ())).length ≤ big := hvc _ (List.mem_singleton.2 rfl)
  refine ⟨[.sl nn [.slice U8] xs, .sl false U8 fun _ => []], _, rfl, fun p hp => ?_, rfl, rfl, fun w I σ vs h => ?_⟩
  · rcases List.mem_cons.1 hp with rfl | hp
    · exact hb
    · rw [List.mem_singleton.1 hp]
  · simp only [VRs] at h ⊢
    obtain ⟨u, us, rfl, h1, u2, us2, rfl, h2, rfl⟩ := h
    exact ⟨u, [u2], rfl, h1, u2, [], rfl, nils_sl (by decide) h2, rfl⟩
end Go.Am
