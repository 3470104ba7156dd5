/- frame: the reference's join, what a frame is to the reference, Same, Size, few keep their contracts. -/
import Derived.Test.YtckgeadidjmpcaaAmPartD
import Derived.RangeFuncIn
import Derived.OrdersIn
import Derived.TacticsIn
import Derived.Sort.LoopGhostIn
import Derived.RangeFuncLeaves
import Derived.RangeFuncRecord
namespace Go.Am
set_option linter.all false
set_option linter.deprecated false
open Go.Proofs
set_option maxRecDepth 100000
set_option maxHeartbeats 4000000
def fjoinC : Contract := { modes := [.ro, .ro], fn := fun args M => match args, M with
  | [.sl _ [.int .u8] xs, .sl _ [.int .u8] ys], [] => some ⟨[fun _ => (xs ()).length + (ys ()).length ≤ big], .ms 0 (fun _ => 0) (fun _ => (xs ()).length + (ys ()).length), [(0, some (.row false U8 fun _ => xs () ++ ys ()))]⟩
  | _, _ => none }
theorem fjoin_ok : CSound Try.prog 88 fjoinC := by
  refine fsound' (G := G0) (c := codeOf Try.f88) mixed tyT (gget_nil _) Try.func88 (by rfl) (by kernel_rfl) (by kernel_rfl) fun args M r hr hvc hw hm => ?_
  unfold fjoinC at hr
  simp only at hr
  split at hr <;> cases hr
  rename_i n1 xs n2 ys
  have hb : (xs ()).length + (ys ()).length ≤ big := hvc _ (List.mem_singleton.2 rfl)
  clear hvc hm hw
  have hx : xs = fun _ => xs () := rfl
  generalize xs () = xs at hx hb
  subst hx
  have hx : ys = fun _ => ys () := rfl
  generalize ys () = ys at hx hb
  subst hx
  have v1 : xs.length ≤ big := by omega
  conv => cbv
  repeat (refine ⟨⟨?_⟩, ?_⟩; (focus (first | exact v1 | exact hb | (simp; done))))
  simp [Hold.iff]
def fconvC : Contract := { modes := [.ro], fn := fun args M => match args, M with
  | [.agg [.int .u8 k, .sl _ [.int .u8] xs]], [] => some ⟨[], .agg [.int .u8 k, .str fun _ => ofRow (xs ())], []⟩
  | _, _ => none }
theorem fconv_ok : CSound Try.prog 62 fconvC := by
  refine fsound' (G := G0) (c := codeOf Try.f62) mixed tyT (gget_nil _) Try.func62 (by rfl) (by kernel_rfl) (by kernel_rfl) fun args M r hr hvc hw hm => ?_
  unfold fconvC at hr
  simp only at hr
  split at hr <;> cases hr
  rename_i k n1 xs
  clear hvc hm hw
  have ho : ofRow (xs ()) = List.map (fun c => UInt8.ofNat (lk c 0).toInt.toNat) (xs ()) := rfl
  conv => cbv
  simp [Hold.iff, ho]
def LGfs1 : List (Nat × Contract) := [(74, sameC)]
def Gfs1 : Ctx := fun f => gget LGfs1 f
theorem Gfs1_ok : ∀ f C, Gfs1 f = some C → CSound Try.prog f C := gget_cons bequal_ok (gget_nil _)
def fsameC : Contract := { modes := [.ro, .ro], fn := fun args M => match args, M with
  | [.agg [.int .u8 k, .sl _ [.int .u8] xs], .agg [.int .u8 k', .sl _ [.int .u8] ys]], [] => some ⟨[], .bool fun _ => k () == k' () && bn (xs ()) == bn (ys ()), []⟩
  | _, _ => none }
theorem fsame_ok : CSound Try.prog 69 fsameC := by
  refine fsound' (G := Gfs1) (c := codeOf Try.f69) mixed tyT Gfs1_ok Try.func69 (by rfl) (by kernel_rfl) (by kernel_rfl) fun args M r hr hvc hw hm => ?_
  unfold fsameC at hr
  simp only at hr
  split at hr <;> cases hr
  rename_i k n1 xs k2 n2 ys
  clear hvc hm hw
  have hx : k = fun _ => k () := rfl
  generalize k () = k at hx
  subst hx
  have hx : k2 = fun _ => k2 () := rfl
  generalize k2 () = k2 at hx
  subst hx
  conv => cbv
  refine Split.mk (fun h => ?_) (fun h => ?_)
  · have h : k = k2 := by simpa using h
    conv => cbv
    simp [Hold.iff, h]
  · have h : ¬ k = k2 := by simpa using h
    conv => cbv
    simp [Hold.iff, h]
def LGfs2 : List (Nat × Contract) := [(24, sizeC)]
def Gfs2 : Ctx := fun f => gget LGfs2 f
theorem Gfs2_ok : ∀ f C, Gfs2 f = some C → CSound Try.prog f C := gget_cons size_ok (gget_nil _)
def fsizeC : Contract := { modes := [.ro], fn := fun args M => match args, M with
  | [.agg [.int .u8 _, .nils]], [] => some ⟨[], .int .i64 fun _ => 6, []⟩
  | [.agg [.int .u8 _, .sl _ [.int .u8] xs]], [] => some ⟨[fun _ => (xs ()).length + 32 ≤ big], .int .i64 fun _ => ((1 + (putB (xs ()).length).length + (xs ()).length + 4 : Nat) : Int), []⟩
  | _, _ => none }
theorem fsize_ok : CSound Try.prog 68 fsizeC := by
  refine fsound' (G := Gfs2) (c := codeOf Try.f68) mixed tyT Gfs2_ok Try.func68 (by rfl) (by kernel_rfl) (by kernel_rfl) fun args M r hr hvc hw hm => ?_
  unfold fsizeC at hr
  simp only at hr
  split at hr <;> cases hr
  · clear hvc hm hw
    have e1 : IntKind.i64.wrap (IntKind.i64.wrap (IntKind.i64.wrap (1 + ((putB (IntKind.u64.wrap 0).toNat).length : Int)) + 0) + 4) = 6 := by decide
    conv => cbv
    exact ⟨e1⟩
  · rename_i k n1 xs
    have hb : (xs ()).length + 32 ≤ big := hvc _ (List.mem_singleton.2 rfl)
    clear hvc hm hw
    have hx : xs = fun _ => xs () := rfl
    generalize xs () = xs at hx hb
    subst hx
    have hl := put1_len 9 xs.length
    rw [← putB] at hl
    have hb : xs.length + 32 ≤ 1099511627776 := hb
    have w0 : (IntKind.u64.wrap (xs.length : Int)).toNat = xs.length := by rw [wrap_u64 (by omega)]; omega
    have e1 : IntKind.i64.wrap (IntKind.i64.wrap (IntKind.i64.wrap (1 + ((putB (IntKind.u64.wrap (xs.length : Int)).toNat).length : Int)) + (xs.length : Int)) + 4) = ((1 + (putB xs.length).length + xs.length + 4 : Nat) : Int) := by
      rw [w0, wrap_i64 (n := 1 + _) (by omega), wrap_i64 (n := _ + (xs.length : Int)) (by omega), wrap_i64 (by omega)]; omega
    conv => cbv
    exact ⟨e1⟩
def fewOkF (c : List D) : Bool := decide ((lk c 1).toList.length ≤ 200)
def fewF (xs : List (List D)) : Bool := (xs.take 13).all fewOkF && decide (xs.length ≤ 12)
abbrev FrS : List Sh := [.int .u8, .slice [.int .u8]]
def ffewC : Contract := { modes := [.ro], fn := fun args M => match args, M with
  | [.sl _ [.int .u8, .slice [.int .u8]] xs], [] => some ⟨[], .bool fun _ => fewF (xs ()), []⟩
  | _, _ => none }
structure FfI (x : List (List D)) where
  i : Nat
  hi : i ≤ x.length
  hk : i ≤ 13
  h : (x.take i).all fewOkF = true
theorem fewF_bad {x : List (List D)} {i : Nat} (h1 : i < x.length) (h2 : i < 13) (h : fewOkF (lk x i) = false) : fewF x = false := by
  have : (x.take 13).all fewOkF = false := by
    rw [List.all_eq_false]
    refine ⟨lk x i, ?_, by rw [h]; simp⟩
    have e : lk x i = (x.take 13)[i]'(by simp; omega) := by simp [lk, List.getD, h1]
    rw [e]
    exact List.getElem_mem _
  rw [fewF, this]; rfl
theorem ffew_ok : CSound Try.prog 66 ffewC := by
  refine fsound' (G := G0) (c := codeOf Try.f66) mixed tyT (gget_nil _) Try.func66 (by rfl) (by kernel_rfl) (by kernel_rfl) fun args M r hr hvc hw hm => ?_
  unfold ffewC at hr
  simp only at hr
  split at hr <;> cases hr
  rename_i nn x
  clear hvc hm hw
  have hx : x = fun _ => x () := rfl
  generalize x () = x at hx
  subst hx
  conv => cbv
  refine LoopP.mk (FfI x) (fun s => ⟨ev 24 [(0, .sl false FrS fun _ => x), (2, .bool fun _ => false), (3, .int .i64 fun _ => (s.i : Int))], [], 8⟩) (fun s => x.length - s.i) ⟨0, Nat.zero_le _, Nat.zero_le _, by simp⟩ ?_ ?_
  · conv => cbv
    simp [Hold.iff]
  · intro s
    have hi := s.hi
    have hk := s.hk
    have hall := s.h
    conv => cbv
    refine Split.mk (fun h1 => ?_) (fun h1 => ?_)
    · have h1 : (s.i : Int) < (x.length : Int) := of_decide_eq_true h1
      have v1 : 0 ≤ (s.i : Int) ∧ (s.i : Int) < (x.length : Int) := by omega
      conv => cbv
      refine Split.mk (fun h2 => ?_) (fun h2 => ?_)
      · have h2 : (s.i : Int) < 13 := of_decide_eq_true h2
        have hw1 : IntKind.i64.wrap ((s.i : Int) + 1) = ((s.i + 1 : Nat) : Int) := by rw [wrap_i64 (by omega)]; omega
        have hc : lk x ((s.i : Int)).toNat = lk x s.i := by rw [Int.toNat_natCast]
        conv => cbv
        refine ⟨⟨v1⟩, Split.mk (fun h3 => ?_) (fun h3 => ?_)⟩
        · have h3 : (200 : Int) < ((lk (lk x ((s.i : Int)).toNat) 1).toList.length : Int) := of_decide_eq_true h3
          rw [hc] at h3
          have hf : fewF x = false := fewF_bad (i := s.i) (by omega) (by omega) (by simp [fewOkF]; omega)
          conv => cbv
          exact ⟨hf.symm⟩
        · have h3 : ¬ (200 : Int) < ((lk (lk x ((s.i : Int)).toNat) 1).toList.length : Int) := of_decide_eq_false h3
          rw [hc] at h3
          have hf : fewOkF (lk x s.i) = true := by simp [fewOkF]; omega
          have hn : (x.take (s.i + 1)).all fewOkF = true := by
            rw [List.take_add_one, List.all_append, hall]
            have e : x[s.i]? = some (lk x s.i) := by simp [lk, List.getD, show s.i < x.length by omega]
            rw [e]; simp [hf]
          have hlt : s.i + 1 ≤ x.length ∧ s.i + 1 ≤ 13 ∧ x.length - (s.i + 1) < x.length - s.i := by omega
          conv => cbv
          refine ⟨⟨s.i + 1, hlt.1, hlt.2.1, hn⟩, hlt.2.2, ?_⟩
          conv => cbv
          simp [Hold.iff, hw1]
      · have h2 : ¬ (s.i : Int) < 13 := of_decide_eq_false h2
        have hf : fewF x = decide ((x.length : Int) ≤ 12) := by
          have e : fewF x = false := by simp [fewF]; omega
          rw [e]
          symm
          exact decide_eq_false (by omega)
        conv => cbv
        repeat (first | (refine .ofF ?_ ?_; (focus (simp; done)); conv => cbv) | (refine .ofT ?_ ?_; (focus (simp; done)); conv => cbv))
        exact ⟨hf.symm⟩
    · have h1 : ¬ (s.i : Int) < (x.length : Int) := of_decide_eq_false h1
      have hx2 : s.i = x.length := by omega
      have hf : fewF x = decide ((x.length : Int) ≤ 12) := by
        rw [hx2, List.take_length] at hall
        rw [fewF, List.take_of_length_le (by omega), hall, Bool.true_and]
        by_cases h : x.length ≤ 12
        · rw [decide_eq_true h]; exact (decide_eq_true (by omega)).symm
        · rw [decide_eq_false h]; exact (decide_eq_false (by omega)).symm
      conv => cbv
      repeat (first | (refine .ofF ?_ ?_; (focus (simp; done)); conv => cbv) | (refine .ofT ?_ ?_; (focus (simp; done)); conv => cbv))
      exact ⟨hf.symm⟩
end Go.Am
/- frame.check, the reference's Put and frame.Put keep their contracts. -/
namespace Go.Am
set_option linter.all false
set_option linter.deprecated false
open Go.Proofs
set_option maxRecDepth 100000
set_option maxHeartbeats 4000000
def le4 (n : Nat) : List Nat := [n % 256, n / 256 % 256, n / 65536 % 256, n / 16777216 % 256]
def ckR (b : List (List D)) : List (List D) := rowB (le4 (crcs 0 (bn b)).toNat)
@[simp] theorem ckR_len (b : List (List D)) : (ckR b).length = 4 := by simp [ckR, le4]
def frH (k : Int) (p : List (List D)) : List (List D) := [[D.int k]] ++ rowB (putB p.length) ++ p
def frR (k : Int) (p : List (List D)) : List (List D) := frH k p ++ ckR (frH k p)
theorem frH_len (k : Int) (p : List (List D)) : (frH k p).length = 1 + (putB p.length).length + p.length := by simp [frH]; omega
theorem frR_len (k : Int) (p : List (List D)) : (frR k p).length = 1 + (putB p.length).length + p.length + 4 := by simp [frR, frH_len]
def fcheckC : Contract := { modes := [.ro], fn := fun args M => match args, M with
  | [.sl _ [.int .u8] xs], [] => some ⟨[fun _ => (xs ()).length ≤ big], .ms 0 (fun _ => 0) (fun _ => 4), [(0, some (.row false U8 fun _ => ckR (xs ())))]⟩
  | _, _ => none }
theorem wrap_u8_nat (n : Nat) : IntKind.u8.wrap (n : Int) = ((n % 256 : Nat) : Int) := by
  simp [IntKind.wrap, IntKind.bits, IntKind.signed]
theorem le4_get (n i : Nat) (h : i < 4) : (le4 n)[i]? = some (n / 256 ^ i % 256) := by
  match i, h with
  | 0, _ => simp [le4]
  | 1, _ => simp [le4]
  | 2, _ => simp [le4]
  | 3, _ => simp [le4]
def LGfc : List (Nat × Contract) := [(33, sumC)]
def Gfc : Ctx := fun f => gget LGfc f
theorem Gfc_ok : ∀ f C, Gfc f = some C → CSound Try.prog f C := gget_cons sum_ok (gget_nil _)
theorem fcheck_ok : CSound Try.prog 87 fcheckC := by
  refine fsound' (G := Gfc) (c := codeOf Try.f87) mixed tyT Gfc_ok Try.func87 (by rfl) (by kernel_rfl) (by kernel_rfl) fun args M r hr hvc hw hm => ?_
  unfold fcheckC at hr
  simp only at hr
  split at hr <;> cases hr
  rename_i nn xs
  have hb : (xs ()).length ≤ big := hvc _ (List.mem_singleton.2 rfl)
  clear hvc hm hw
  have hx : xs = fun _ => xs () := rfl
  generalize xs () = xs at hx hb
  subst hx
  have hb : xs.length ≤ 1099511627776 := hb
  have hfl : fl (List.map dall (chunk 1 1 [fun _ => D.list xs])) = xs := by simp [fl, chunk, dall, lk, D.toList]
  generalize hc : (crcs 0 (bn xs)).toNat = c0
  have hlt : c0 < 4294967296 := by rw [← hc]; exact (crcs 0 (bn xs)).isLt
  have hck : ckR xs = rowB (le4 c0) := by rw [ckR, hc]
  conv => cbv
  refine ⟨⟨by simp [chunk]⟩, ⟨by rw [show (fl (List.take 1 (List.drop 0 (List.map dall (chunk 1 1 [fun _ => D.list xs]))))) = xs by simpa using hfl]; omega⟩, ?_⟩
  refine LoopP.mk {i : Nat // i ≤ 4} (fun s => ⟨ev 18 [(2, .ms 0 (fun _ => 0) fun _ => s.1), (3, .int .u32 fun _ => ((c0 / 256 ^ s.1 : Nat) : Int)), (7, .int .i64 fun _ => (s.1 : Int))], [(0, .row false U8 fun _ => rowB ((le4 c0).take s.1))], 8⟩) (fun s => 4 - s.1) ⟨0, by omega⟩ ?_ ?_
  · conv => cbv
    have e : fl (List.take 1 (List.map dall (chunk 1 1 [fun _ => D.list xs]))) = xs := by simpa using hfl
    simp [Hold.iff, e, rowB]
    exact congrArg (fun n : Nat => (n : Int)) hc
  · intro s
    have hi := s.2
    conv => cbv
    refine Split.mk (fun h => ?_) (fun h => ?_)
    · have h : (s.1 : Int) < 4 := of_decide_eq_true h
      have h4 : s.1 < 4 := by omega
      have hw1 : IntKind.i64.wrap ((s.1 : Int) + 1) = ((s.1 + 1 : Nat) : Int) := by rw [wrap_i64 (by omega)]; omega
      have hn : s.1 + 1 ≤ 4 ∧ 4 - (s.1 + 1) < 4 - s.1 := by omega
      have hl4 : (le4 c0).length = 4 := rfl
      have hlen : (rowB ((le4 c0).take s.1)).length = s.1 := by simp [hl4]; omega
      have hsh : ishr IntKind.u32 ((c0 / 256 ^ s.1 : Nat) : Int) 8 = ((c0 / 256 ^ (s.1 + 1) : Nat) : Int) := by
        have e : ishr IntKind.u32 ((c0 / 256 ^ s.1 : Nat) : Int) 8 = (((c0 / 256 ^ s.1 : Nat) : Int)).fdiv 256 := rfl
        rw [e, Int.fdiv_eq_ediv_of_nonneg _ (by omega), Nat.pow_succ, ← Nat.div_div_eq_div_mul]
        rfl
      have hu : IntKind.u8.wrap ((c0 / 256 ^ s.1 : Nat) : Int) = ((c0 / 256 ^ s.1 % 256 : Nat) : Int) := wrap_u8_nat _
      have hrow : rowB ((le4 c0).take s.1) ++ [[D.int (((c0 / 256 ^ s.1 % 256 : Nat) : Int))]] = rowB ((le4 c0).take (s.1 + 1)) := by
        rw [List.take_add_one, le4_get c0 s.1 h4]; simp [rowB]
      push_cast at hsh hu hrow
      have g1 : s.1 ≤ (rowB ((le4 c0).take s.1)).length := by omega
      have g2 : s.1 + 1 ≤ big := by simp only [big]; omega
      have t1 : List.take s.1 (rowB ((le4 c0).take s.1)) = rowB ((le4 c0).take s.1) := List.take_of_length_le (by omega)
      conv => cbv
      repeat (first | (refine ⟨⟨?_⟩, ?_⟩; (focus (first | exact g1 | exact g2 | (simp [chunk]; done) | (simp [chunk]; omega)))))
      refine ⟨⟨s.1 + 1, hn.1⟩, hn.2, ?_⟩
      conv => cbv
      simp [Hold.iff, hw1, hsh, hu, t1, chunk, dall, hrow]
    · have h : ¬ (s.1 : Int) < 4 := of_decide_eq_false h
      have h4 : s.1 = 4 := by omega
      have t1 : (le4 c0).take 4 = le4 c0 := rfl
      conv => cbv
      simp [Hold.iff, h4, t1, hck]
theorem dg0 (c : Nat) : IntKind.u8.wrap ((c : Int).tmod 256) = ((c % 256 : Nat) : Int) := by
  have e : (c : Int).tmod 256 = ((c % 256 : Nat) : Int) := (Int.ofNat_tmod c 256).symm
  rw [e, wrap_u8_nat, Nat.mod_mod]
theorem dg1 (c d : Nat) (h : c < 4294967296) : IntKind.u8.wrap ((IntKind.u32.wrap ((c : Int) / (d : Int))).tmod 256) = ((c / d % 256 : Nat) : Int) := by
  have e : (c : Int) / (d : Int) = ((c / d : Nat) : Int) := rfl
  have hle := Nat.div_le_self c d
  rw [e, wrap_u32_nat _ (by omega), dg0]
theorem dg3 (c d : Nat) (h : c < 4294967296) : IntKind.u8.wrap (IntKind.u32.wrap ((c : Int) / (d : Int))) = ((c / d % 256 : Nat) : Int) := by
  have e : (c : Int) / (d : Int) = ((c / d : Nat) : Int) := rfl
  have hle := Nat.div_le_self c d
  rw [e, wrap_u32_nat _ (by omega), wrap_u8_nat]
def frputC : Contract := { modes := [.ro], fn := fun args M => match args, M with
  | [.agg [.int .u8 k, .str s]], [] => some ⟨[fun _ => 8 * (frR (k ()) (sRow (s ()))).length + 64 ≤ big], .ms 0 (fun _ => 0) (fun _ => (frR (k ()) (sRow (s ()))).length), [(0, some (.row false U8 fun _ => frR (k ()) (sRow (s ()))))]⟩
  | _, _ => none }
def LGfp : List (Nat × Contract) := [(23, rputC'), (30, rsumC), (88, fjoinC)]
def Gfp : Ctx := fun f => gget LGfp f
theorem Gfp_ok : ∀ f C, Gfp f = some C → CSound Try.prog f C := gget_cons rput_ok (gget_cons rsum_ok (gget_cons fjoin_ok (gget_nil _)))
theorem frput_ok : CSound Try.prog 67 frputC := by
  refine fsound' (G := Gfp) (c := codeOf Try.f67) mixed tyT Gfp_ok Try.func67 (by rfl) (by kernel_rfl) (by kernel_rfl) fun args M r hr hvc hw hm => ?_
  unfold frputC at hr
  simp only at hr
  split at hr <;> cases hr
  rename_i k s
  have hb : 8 * (frR (k ()) (sRow (s ()))).length + 64 ≤ big := hvc _ (List.mem_singleton.2 rfl)
  clear hvc hm
  have hx : k = fun _ => k () := rfl
  generalize k () = k at hx hb hw
  subst hx
  have hx : s = fun _ => s () := rfl
  generalize s () = s at hx hb hw
  subst hx
  have hb : 8 * (frR k (sRow s)).length + 64 ≤ 1099511627776 := hb
  rw [frR_len, sRow_len] at hb
  have hz : IntKind.u64.wrap (s.length : Int) = (s.length : Int) := wrap_u64 (by omega)
  have hz2 : (IntKind.u64.wrap (s.length : Int)).toNat = s.length := by rw [hz]; omega
  have e1 : List.take 1 (List.drop 0 (List.map dall (chunk 1 1 [fun _ => D.int k]))) = [[D.int k]] := rfl
  have e2 : List.take (putB (IntKind.u64.wrap (s.length : Int)).toNat).length (List.drop 0 (rowB (putB (IntKind.u64.wrap (s.length : Int)).toNat))) = rowB (putB s.length) := by simp [hz2]
  have e3 : List.map (fun b => [D.int (b.toNat : Int)]) s = sRow s := rfl
  have hh : [[D.int k]] ++ rowB (putB s.length) ++ sRow s = frH k (sRow s) := by rw [frH, sRow_len]
  have hl := frH_len k (sRow s)
  rw [sRow_len] at hl
  conv => cbv
  repeat (first | (refine ⟨⟨?_⟩, ?_⟩; (focus (first | (simp [chunk, hz2, big]; done) | (simp [chunk, hz2, big]; omega)))))
  have t1 : List.take s.length (sRow s) = sRow s := List.take_of_length_le (by simp)
  have t2 : List.take (putB s.length).length (rowB (putB s.length)) = rowB (putB s.length) := List.take_of_length_le (by simp)
  have m1 : min (1 + (putB s.length).length) ((putB s.length).length + 1) = (putB s.length).length + 1 := by omega
  have m2 : List.take (1 + (putB s.length).length) ([D.int k] :: rowB (putB s.length)) = [D.int k] :: rowB (putB s.length) := List.take_of_length_le (by simp; omega)
  have m3 : List.take ((putB s.length).length + 1 + s.length) ([D.int k] :: (rowB (putB s.length) ++ sRow s)) = [D.int k] :: (rowB (putB s.length) ++ sRow s) := List.take_of_length_le (by simp; omega)
  simp [Hold.iff, chunk, dall, hz2, e3, t1, t2, frR, frH, ckR, m1, m2, m3]
  generalize hq : crcs (0#32) (bn ([D.int k] :: (rowB (putB s.length) ++ sRow s))) = q
  have hlt : q.toNat < 4294967296 := q.isLt
  have d1 := dg1 q.toNat 256 hlt
  have d2 := dg1 q.toNat 65536 hlt
  have d3 := dg3 q.toNat 16777216 hlt
  refine ⟨by simp [le4]; omega, ?_⟩
  rw [dg0]
  simp only [rowB, le4, List.map_cons, List.map_nil, List.cons.injEq, D.int.injEq, and_true, true_and]
  exact ⟨d1, d2, d3⟩
def frRs (xs : List (List D)) : List (List D) := xs.flatMap fun c => frR (lk c 0).toInt (lk c 1).toList
theorem frRs_next {x : List (List D)} {i : Nat} (h : i < x.length) : frRs (x.take (i + 1)) = frRs (x.take i) ++ frR (lk (lk x i) 0).toInt (lk (lk x i) 1).toList := by
  have e : x[i]? = some (lk x i) := by simp [lk, List.getD, h]
  unfold frRs
  rw [List.take_add_one, e, List.flatMap_append]
  simp only [Option.toList_some, List.flatMap_cons, List.flatMap_nil, List.append_nil]
theorem frRs_le (x : List (List D)) (i : Nat) : (frRs (x.take i)).length ≤ (frRs x).length := by
  conv => rhs; rw [← List.take_append_drop i x]
  rw [frRs, frRs, List.flatMap_append, List.length_append]; omega
def fputC : Contract := { modes := [.ro], fn := fun args M => match args, M with
  | [.nils], [] => some ⟨[], .ms 0 (fun _ => 0) (fun _ => 0), [(0, some (.row false U8 fun _ => []))]⟩
  | [.sl _ [.int .u8, .slice [.int .u8]] xs], [] => some ⟨[fun _ => (frRs (xs ())).length + 64 ≤ big], .ms 0 (fun _ => 0) (fun _ => (frRs (xs ())).length), [(0, some (.row false U8 fun _ => frRs (xs ())))]⟩
  | _, _ => none }
def LGfq : List (Nat × Contract) := [(36, rawC), (37, textC), (38, bytesC), (87, fcheckC)]
def Gfq : Ctx := fun f => gget LGfq f
theorem Gfq_ok : ∀ f C, Gfq f = some C → CSound Try.prog f C := gget_cons raw_ok (gget_cons text_ok (gget_cons bytes_ok (gget_cons fcheck_ok (gget_nil _))))
theorem fput_ok : CSound Try.prog 70 fputC := by
  refine fsound' (G := Gfq) (c := codeOf Try.f70) mixed tyT Gfq_ok Try.func70 (by rfl) (by kernel_rfl) (by kernel_rfl) fun args M r hr hvc hw hm => ?_
  unfold fputC at hr
  simp only at hr
  split at hr <;> cases hr
  · clear hvc hm hw
    conv => cbv
    refine LoopP.mk Unit (fun _ => ⟨ev 30 [(2, .nils), (3, .nils), (8, .nils), (9, .int .i64 fun _ => 0), (10, .int .i64 fun _ => 0)], [], 8⟩) (fun _ => 0) () ?_ ?_
    · conv => cbv
      simp [Hold.iff]
    · intro s
      conv => cbv
      refine .ofF (by simp) ?_
      conv => cbv
      simp [Hold.iff]
  rename_i nn x
  have hb : (frRs (x ())).length + 64 ≤ big := hvc _ (List.mem_singleton.2 rfl)
  clear hvc hm
  have hx : x = fun _ => x () := rfl
  generalize x () = x at hx hb
  subst hx
  simp only [WfVs, WfV, and_true] at hw
  have hxl := hw.1
  have hb : (frRs x).length + 64 ≤ 1099511627776 := hb
  conv => cbv
  refine LoopP.mk {i : Nat // i ≤ x.length} (fun s => ⟨ev 30 [(2, .nils), (3, .ms 0 (fun _ => 0) fun _ => (frRs (x.take s.1)).length), (8, .sl false FrS fun _ => x), (9, .int .i64 fun _ => (x.length : Int)), (10, .int .i64 fun _ => (s.1 : Int))], [(0, .row false U8 fun _ => frRs (x.take s.1))], 8⟩) (fun s => x.length - s.1) ⟨0, by omega⟩ ?_ ?_
  · conv => cbv
    simp [Hold.iff, frRs]
  · intro s
    have hi := s.2
    conv => cbv
    refine Split.mk (fun h => ?_) (fun h => ?_)
    · have h : (s.1 : Int) < (x.length : Int) := of_decide_eq_true h
      have h4 : s.1 < x.length := by omega
      have hn : s.1 + 1 ≤ x.length ∧ x.length - (s.1 + 1) < x.length - s.1 := by omega
      have v1 : 0 ≤ (s.1 : Int) ∧ (s.1 : Int) < (x.length : Int) := by omega
      have hnx := frRs_next h4
      have hle := frRs_le x (s.1 + 1)
      rw [hnx, List.length_append, frR_len] at hle
      have hc : lk x ((s.1 : Int)).toNat = lk x s.1 := by rw [Int.toNat_natCast]
      conv => cbv
      rw [hc]
      generalize (lk (lk x s.1) 1).toList = q at hnx hle ⊢
      generalize (lk (lk x s.1) 0).toInt = k at hnx hle ⊢
      generalize frRs (x.take s.1) = o at hnx hle ⊢
      have hl := (put1_len 9 q.length)
      rw [← putB] at hl
      have hw1 : IntKind.i64.wrap ((s.1 : Int) + 1) = ((s.1 + 1 : Nat) : Int) := by rw [wrap_i64 (by omega)]; omega
      refine ⟨⟨v1⟩, ?_⟩
      repeat (first | (refine ⟨⟨?_⟩, ?_⟩; (focus (first | (simp [chunk, big]; done) | (simp [chunk, big]; omega)))))
      refine ⟨⟨s.1 + 1, hn.1⟩, hn.2, ?_⟩
      conv => cbv
      have t0 : List.take o.length o = o := List.take_length ..
      have e1 : [[D.int k]] ++ rowB (putB q.length) ++ q = frH k q := rfl
      have t1 : List.take (frH k q).length (frH k q) = frH k q := List.take_length ..
      have t2 : List.take 4 (ckR (frH k q)) = ckR (frH k q) := List.take_of_length_le (by simp)
      have t3 : List.take (o.length + (frH k q).length) (o ++ frH k q) = o ++ frH k q := List.take_of_length_le (by simp)
      have e0 : List.take 1 (List.map dall (chunk 1 1 [fun _ => D.int k])) = [[D.int k]] := rfl
      simp only [Hold.iff, List.drop_zero, e0, e1, t0, t1, t2, t3, hw1, hnx, frR, and_self]
      simp only [List.length_append, ckR_len, List.append_assoc, Nat.add_assoc, and_self]
    · have h : ¬ (s.1 : Int) < (x.length : Int) := of_decide_eq_false h
      have h4 : s.1 = x.length := by omega
      conv => cbv
      simp [Hold.iff, h4]
end Go.Am
/- frame.Get keeps its contract. -/
namespace Go.Am
set_option linter.all false
set_option linter.deprecated false
open Go.Proofs
set_option maxRecDepth 100000
set_option maxHeartbeats 4000000
structure FG where
  k : Int
  p : List (List D)
  n : Int
  r : Int
def fgetG (x : List (List D)) (a : Int) (g : Nat × Int × Int) : FG :=
  if g.2.2 = 10 then ⟨0, [], 0, 2⟩
  else if g.2.2 = 0 ∧ 4 ≤ (x.length : Int) - g.2.1 ∧ (g.1 : Int) ≤ (x.length : Int) - g.2.1 - 4 then
    (if bn (ckR ((x.drop a.toNat).take ((g.2.1 + g.1).toNat - a.toNat))) = bn ((x.drop (g.2.1 + g.1).toNat).take 4) then
      ⟨(lk (lk x a.toNat) 0).toInt, (x.drop g.2.1.toNat).take g.1, g.2.1 + g.1 + 4, 0⟩
    else ⟨0, [], 0, 3⟩)
  else ⟨0, [], 0, 1⟩
def fgetR (x : List (List D)) (a : Int) : FG :=
  if a < 0 ∨ (x.length : Int) ≤ a then ⟨0, [], 0, 1⟩ else fgetG x a (getS (bn x) (a + 1))
def fgetC : Contract := { modes := [.ro, .ro], fn := fun args M => match args, M with
  | [.sl _ [.int .u8] xs, .int .i64 a], [] => some ⟨[fun _ => (xs ()).length + 64 ≤ big],
      .tup [.agg [.int .u8 fun _ => (fgetR (xs ()) (a ())).k, .ms 0 (fun _ => 0) fun _ => (fgetR (xs ()) (a ())).p.length], .int .i64 fun _ => (fgetR (xs ()) (a ())).n, .int .i64 fun _ => (fgetR (xs ()) (a ())).r],
      [(0, some (.row false U8 fun _ => (fgetR (xs ()) (a ())).p))]⟩
  | _, _ => none }
def LGfg : List (Nat × Contract) := [(21, getC), (74, sameC), (80, cloneC), (87, fcheckC)]
def Gfg : Ctx := fun f => gget LGfg f
theorem Gfg_ok : ∀ f C, Gfg f = some C → CSound Try.prog f C := gget_cons get_ok (gget_cons bequal_ok (gget_cons sclone_ok (gget_cons fcheck_ok (gget_nil _))))
theorem fget_ok : CSound Try.prog 60 fgetC := by
  refine fsound' (G := Gfg) (c := codeOf Try.f60) mixed tyT Gfg_ok Try.func60 (by rfl) (by kernel_rfl) (by kernel_rfl) fun args M r hr hvc hw hm => ?_
  unfold fgetC at hr
  simp only at hr
  split at hr <;> cases hr
  rename_i nn x a
  have hb : (x ()).length + 64 ≤ big := hvc _ (List.mem_singleton.2 rfl)
  clear hvc hm
  have hx : x = fun _ => x () := rfl
  generalize x () = x at hx hb hw
  subst hx
  have hx : a = fun _ => a () := rfl
  generalize a () = a at hx hw
  subst hx
  have hb : x.length + 64 ≤ 1099511627776 := hb
  clear hw
  conv => cbv
  refine Split.mk (fun h => ?_) (fun h => ?_)
  · have h : a < 0 := of_decide_eq_true h
    have e : fgetR x a = ⟨0, [], 0, 1⟩ := by rw [fgetR, if_pos (.inl h)]
    conv => cbv
    refine .ofT (by simp) ?_
    conv => cbv
    simp [Hold.iff, e]
  have h0 : ¬ a < 0 := of_decide_eq_false h
  conv => cbv
  refine Split.mk (fun h => ?_) (fun h => ?_)
  · have h : (x.length : Int) ≤ a := of_decide_eq_true h
    have e : fgetR x a = ⟨0, [], 0, 1⟩ := by rw [fgetR, if_pos (.inr h)]
    conv => cbv
    simp [Hold.iff, e]
  have h1 : ¬ (x.length : Int) ≤ a := of_decide_eq_false h
  have ea : IntKind.i64.wrap (a + 1) = a + 1 := wrap_i64 (by omega)
  have er : fgetR x a = fgetG x a (getS (bn x) (IntKind.i64.wrap (a + 1))) := by rw [fgetR, if_neg (by omega), ea]
  have hf := @getS_fit (bn x) (IntKind.i64.wrap (a + 1))
  rw [show (bn x).length = x.length by simp] at hf
  conv => cbv
  rw [er]
  generalize getS (bn x) (IntKind.i64.wrap (a + 1)) = g at hf ⊢
  rw [ea] at hf
  refine Split.mk (fun h => ?_) (fun h => ?_)
  · have h : g.2.2 = 10 := by simpa using h
    have e : fgetG x a g = ⟨0, [], 0, 2⟩ := by rw [fgetG, if_pos h]
    conv => cbv
    simp [Hold.iff, e]
  have h2 : ¬ g.2.2 = 10 := by simpa using h
  have bad : ¬ (g.2.2 = 0 ∧ 4 ≤ (x.length : Int) - g.2.1 ∧ (g.1 : Int) ≤ (x.length : Int) - g.2.1 - 4) → fgetG x a g = ⟨0, [], 0, 1⟩ := fun hn => by rw [fgetG, if_neg h2, if_neg hn]
  conv => cbv
  refine Split.mk (fun h => ?_) (fun h => ?_)
  · have h : ¬ g.2.2 = 0 := by simpa using h
    have e := bad (by omega)
    conv => cbv
    repeat (first | (refine .ofT ?_ ?_; (focus (first | (simp; done) | (simp [h]; done))); conv => cbv))
    simp [Hold.iff, e]
  have h3 : g.2.2 = 0 := by simpa using h
  have hf := hf h3
  have w1 : IntKind.i64.wrap ((x.length : Int) - g.2.1) = (x.length : Int) - g.2.1 := wrap_i64 (by omega)
  conv => cbv
  refine Split.mk (fun h => ?_) (fun h => ?_)
  · have h : IntKind.i64.wrap ((x.length : Int) - g.2.1) < 4 := of_decide_eq_true h
    rw [w1] at h
    have e := bad (by omega)
    conv => cbv
    repeat (first | (refine .ofT ?_ ?_; (focus (first | (simp; done) | (simp [h3, w1]; done) | (simp [h3, w1]; omega))); conv => cbv))
    simp [Hold.iff, e]
  have h4 : ¬ IntKind.i64.wrap ((x.length : Int) - g.2.1) < 4 := of_decide_eq_false h
  rw [w1] at h4
  have w2 : IntKind.u64.wrap (IntKind.i64.wrap (IntKind.i64.wrap ((x.length : Int) - g.2.1) - 4)) = (x.length : Int) - g.2.1 - 4 := by
    rw [w1, wrap_i64 (by omega), wrap_u64 (by omega)]
  conv => cbv
  refine Split.mk (fun h => ?_) (fun h => ?_)
  · have h : (IntKind.u64.wrap (IntKind.i64.wrap (IntKind.i64.wrap ((x.length : Int) - g.2.1) - 4))) < (g.1 : Int) := of_decide_eq_true h
    rw [w2] at h
    have e := bad (by omega)
    conv => cbv
    simp [Hold.iff, e]
  have h5 : ¬ (IntKind.u64.wrap (IntKind.i64.wrap (IntKind.i64.wrap ((x.length : Int) - g.2.1) - 4))) < (g.1 : Int) := of_decide_eq_false h
  rw [w2] at h5
  have w3 : IntKind.i64.wrap (g.2.1 + IntKind.i64.wrap (g.1 : Int)) = g.2.1 + (g.1 : Int) := by rw [wrap_i64 (n := (g.1 : Int)) (by omega), wrap_i64 (by omega)]
  have w4 : IntKind.i64.wrap (g.2.1 + (g.1 : Int) + 4) = g.2.1 + (g.1 : Int) + 4 := wrap_i64 (by omega)
  have w5 : IntKind.i64.wrap ((IntKind.i64.wrap (g.2.1 + IntKind.i64.wrap (g.1 : Int))) + 4) = g.2.1 + (g.1 : Int) + 4 := by rw [w3, w4]
  have g1 : 0 ≤ a ∧ a ≤ (IntKind.i64.wrap (g.2.1 + IntKind.i64.wrap (g.1 : Int))) ∧ (IntKind.i64.wrap (g.2.1 + IntKind.i64.wrap (g.1 : Int))) ≤ (IntKind.i64.wrap (g.2.1 + IntKind.i64.wrap (g.1 : Int))) ∧ (IntKind.i64.wrap (g.2.1 + IntKind.i64.wrap (g.1 : Int))) ≤ (x.length : Int) := by rw [w3]; omega
  have g2 : (List.take (((IntKind.i64.wrap (g.2.1 + IntKind.i64.wrap (g.1 : Int)))).toNat - a.toNat) (List.drop a.toNat x)).length ≤ big := by rw [w3, List.length_take, List.length_drop]; simp only [big]; omega
  have g3 : 0 ≤ (IntKind.i64.wrap (g.2.1 + IntKind.i64.wrap (g.1 : Int))) ∧ (IntKind.i64.wrap (g.2.1 + IntKind.i64.wrap (g.1 : Int))) ≤ IntKind.i64.wrap ((IntKind.i64.wrap (g.2.1 + IntKind.i64.wrap (g.1 : Int))) + 4) ∧ IntKind.i64.wrap ((IntKind.i64.wrap (g.2.1 + IntKind.i64.wrap (g.1 : Int))) + 4) ≤ IntKind.i64.wrap ((IntKind.i64.wrap (g.2.1 + IntKind.i64.wrap (g.1 : Int))) + 4) ∧ IntKind.i64.wrap ((IntKind.i64.wrap (g.2.1 + IntKind.i64.wrap (g.1 : Int))) + 4) ≤ (x.length : Int) := by rw [w5, w3]; omega
  have g4 : 0 ≤ a ∧ a < (x.length : Int) := by omega
  have g5 : 0 ≤ g.2.1 ∧ g.2.1 ≤ (IntKind.i64.wrap (g.2.1 + IntKind.i64.wrap (g.1 : Int))) ∧ (IntKind.i64.wrap (g.2.1 + IntKind.i64.wrap (g.1 : Int))) ≤ (IntKind.i64.wrap (g.2.1 + IntKind.i64.wrap (g.1 : Int))) ∧ (IntKind.i64.wrap (g.2.1 + IntKind.i64.wrap (g.1 : Int))) ≤ (x.length : Int) := by rw [w3]; omega
  have g6 : (List.take (((IntKind.i64.wrap (g.2.1 + IntKind.i64.wrap (g.1 : Int)))).toNat - g.2.1.toNat) (List.drop g.2.1.toNat x)).length ≤ big := by rw [w3, List.length_take, List.length_drop]; simp only [big]; omega
  have t1 : ∀ z, List.take 4 (List.drop 0 (ckR z)) = ckR z := fun z => List.take_of_length_le (by simp)
  have t2 : (IntKind.i64.wrap ((IntKind.i64.wrap (g.2.1 + IntKind.i64.wrap (g.1 : Int))) + 4)).toNat - ((IntKind.i64.wrap (g.2.1 + IntKind.i64.wrap (g.1 : Int)))).toNat = 4 := by rw [w5, w3]; omega
  have t3 : ((IntKind.i64.wrap (g.2.1 + IntKind.i64.wrap (g.1 : Int)))).toNat - g.2.1.toNat = g.1 := by rw [w3]; omega
  conv => cbv
  repeat (first | (refine ⟨⟨?_⟩, ?_⟩; (focus (first | exact g1 | exact g2 | exact g3 | exact g4 | exact g5 | exact g6 | (simp; done)))))
  refine Split.mk (fun h => ?_) (fun h => ?_)
  · have h : ¬ bn (ckR (List.take (((IntKind.i64.wrap (g.2.1 + IntKind.i64.wrap (g.1 : Int)))).toNat - a.toNat) (List.drop a.toNat x))) = bn (List.take 4 (List.drop ((IntKind.i64.wrap (g.2.1 + IntKind.i64.wrap (g.1 : Int)))).toNat x)) := by
      rw [t1, t2] at h; simpa using h
    rw [w3] at h
    have e : fgetG x a g = ⟨0, [], 0, 3⟩ := by rw [fgetG, if_neg h2, if_pos (by omega), if_neg h]
    conv => cbv
    simp [Hold.iff, e]
  · have h : bn (ckR (List.take (((IntKind.i64.wrap (g.2.1 + IntKind.i64.wrap (g.1 : Int)))).toNat - a.toNat) (List.drop a.toNat x))) = bn (List.take 4 (List.drop ((IntKind.i64.wrap (g.2.1 + IntKind.i64.wrap (g.1 : Int)))).toNat x)) := by
      rw [t1, t2] at h; simpa using h
    rw [w3] at h
    have e : fgetG x a g = ⟨(lk (lk x a.toNat) 0).toInt, (x.drop g.2.1.toNat).take g.1, g.2.1 + g.1 + 4, 0⟩ := by rw [fgetG, if_neg h2, if_pos (by omega), if_pos h]
    conv => cbv
    repeat (first | (refine ⟨⟨?_⟩, ?_⟩; (focus (first | exact g1 | exact g2 | exact g3 | exact g4 | exact g5 | exact g6 | (simp; done)))))
    rw [e]
    simp only [Hold.iff, t3, w5, and_self]
end Go.Am
/- In a round of a range over a function too: what is shown of the symbolic state holds of the machine. -/
namespace Go.Am
set_option linter.all false
set_option linter.deprecated false
def FW : Option Nat → Fence
  | none => Fence.wide
  | some l => Fence.wide.inRound l
theorem FW_fn (ρ : Option Nat) (f : FuncId) : (FW ρ).fn f := by cases ρ <;> exact trivial
theorem FW_round (ρ : Option Nat) : (FW ρ).round = ρ := by cases ρ <;> rfl
theorem FW_depth (ρ : Option Nat) : (FW ρ).depth = none := by cases ρ <;> rfl
theorem FW_fenced (ρ : Option Nat) (P : Program) : Machine.fenced P (FW ρ) = Machine.fenced P Fence.wide := by cases ρ <;> rfl
theorem FW_calls {ρ : Option Nat} {n : Nat} {P : Program} {f : FuncId} {args : Array Value} {w : World} {R : Ending → World → Prop} (h : Calls P f args w R) : CallsIn (FW ρ) n P f args w R := by
  cases ρ with
  | none => exact callsIn_wide.2 h
  | some l => exact (callsIn_wide (n := n)).2 h
theorem FW_rows {ρ : Option Nat} {n : Nat} {P : Program} {row : String} {args : Array Value} {w : World} {R : Value → World → Prop} (h : Rows P row args w R) : RowsIn (FW ρ) n P row args w R := by
  intro c cs _
  obtain ⟨v, w', r, s⟩ := h c cs
  refine ⟨v, w', r, ?_⟩
  rw [FW_fenced]
  exact stepsIn_wide.2 s
section
variable {ds : List Deferred} {P : Program} {a : Act} {w w' w0 : World} {I I' I0 : Nat → Prop} {σ σ' σ0 : Sig} {M M' M0 : MS} {T : TT} {G : Ctx} {env : List AV} {key : Nat} {ρ : Option Nat}
theorem opIn {o : Oper} {K : Act → World → Prop} {Q : Exit → Act → World → Prop} (hd : ∀ c, o.op ≠ .defer c) (h : o.wp P a w K Q) : o.wpIn (FW ρ) 0 P a w K Q := by
  refine ⟨fun f _ => FW_fn ρ f, ?_⟩
  rw [FW_round, Oper.semAt_eq ρ a.eval o hd]
  unfold Oper.wp at h
  revert h
  cases (execOp a.eval o).run P w with
  | ok v w' =>
    cases v <;> intro h <;> first | exact h | exact h.elim | skip
    · exact ⟨fun q => (by rw [FW_depth] at q; cases q), FW_calls h⟩
    · exact ⟨fun q => (by rw [FW_depth] at q; cases q), FW_rows h⟩
  | halt h w' => cases h <;> intro q <;> first | exact q | exact q.elim
theorem aop_nd {res : List (Nat × Bool)} {o : Op} {e : Eff} (h : aop T G env res M key o = some e) : ∀ c, o ≠ .defer c := by
  intro c hc; subst hc; simp [aop] at h
theorem nop_nd {o : Op} {e : NEff} (h : nop T G env M key o = some e) : ∀ c, o ≠ .defer c := by
  intro c hc; subst hc; simp [nop] at h
/-- A region, one operation behind the other: what is shown of the symbolic state holds of the machine. 'R': the region's own loop (in the text's order here). -/
theorem wopsN_seqIn (hT : ∀ t i, T t = some i → TIok P t i) (hG : ∀ f C, G f = some C → CSound P f C) {all : List Oper} {base : Nat} {Q : Exit → Act → World → Prop} {K : RS → Prop} :
    ∀ (os : List Oper) (i : Nat) (r : RS) (a : Act) (w : World) (I : Nat → Prop) (σ : Sig), wopsN T G all base os i r K → St ds w0 I0 σ0 M0 r.env r.M (base + 8 * i) a w I σ → ResOk r.res a.tmps →
      (∀ r' a' w' I' σ', K r' → St ds w0 I0 σ0 M0 r'.env r'.M (base + 8 * (i + os.length)) a' w' I' σ' → ResOk r'.res a'.tmps → Q .normal a' w') → wpListIn (FW ρ) 0 P all.toArray Q os a w
  | [], i, r, a, w, I, σ, h, hs, hres, hQ => hQ r a w I σ h (by simpa using hs) hres
  | o :: os, i, r, a, w, I, σ, h, hs, hres, hQ => by
    have hQ' : ∀ r' a' w' I' σ', K r' → St ds w0 I0 σ0 M0 r'.env r'.M (base + 8 * (i + 1 + os.length)) a' w' I' σ' → ResOk r'.res a'.tmps → Q .normal a' w' := fun r' a' w' I' σ' hk hst hre => hQ r' a' w' I' σ' hk (by
      rw [show i + (o :: os).length = i + 1 + os.length by simp; omega]; exact hst) hre
    have run : ∀ (r : RS), St ds w0 I0 σ0 M0 r.env r.M (base + 8 * i) a w I σ → ResOk r.res a.tmps → wopN T G i base o r (fun r => wopsN T G all base os (i + 1) r K) → o.wpIn (FW ρ) 0 P a w (wpListIn (FW ρ) 0 P all.toArray Q os) Q := by
      intro r hs hres hw
      unfold wopN at hw
      split at hw
      · rename_i e he
        obtain ⟨hvc, hw⟩ := vcs_iff _ _ hw
        refine opIn (aop_nd he) (aop_ok hT hG hs.ok hs.envr hres (fun k hk _ => hs.free k hk) he hvc _ _ fun v w' hp => ?_)
        obtain ⟨I', σ', hs'⟩ := hs.step o.dst hp
        exact wopsN_seqIn hT hG os (i + 1) _ _ _ I' σ' hw (by rw [show base + 8 * (i + 1) = base + 8 * i + 8 by omega]; exact hs') (hres.put _ _) hQ'
      · split at hw
        · exact hw.elim
        · rename_i n hn
          obtain ⟨hvc, hw⟩ := vcs_iff _ _ hw
          refine opIn (nop_nd hn) (nop_ok hT hG hs.ok hs.envr (fun k hk _ => hs.free k hk) hn hvc _ _ fun v w' hp => ?_)
          obtain ⟨d, hd, hp⟩ := hp
          have hw := hw d hd
          split at hw
          · exact hw.elim
          · rename_i e he
            obtain ⟨I', σ', hs'⟩ := hs.step o.dst (hp e he)
            exact wopsN_seqIn hT hG os (i + 1) _ _ _ I' σ' hw (by rw [show base + 8 * (i + 1) = base + 8 * i + 8 by omega]; exact hs') (hres.put _ _) hQ'
    have skip : ∀ (r : RS), St ds w0 I0 σ0 M0 r.env r.M (base + 8 * i) a w I σ → ResOk r.res a.tmps → wopsN T G all base os (i + 1) (skipR o r) K → wpListIn (FW ρ) 0 P all.toArray Q os (a.put o.dst undef) w := by
      intro r hs hres hw
      exact wopsN_seqIn hT hG os (i + 1) _ _ _ I σ hw (hs.skip o.dst (by omega)) (hres.put _ _) hQ'
    unfold wopsN at h
    unfold wpListIn
    split at h
    · rename_i hg
      rw [if_pos (by simp [Region.wanted, hg])]
      exact (run r hs hres h)
    · rename_i j want hg
      split at h
      · exact h.elim
      · rename_i d hd
        have hw : Region.wanted o (yielded all.toArray a.tmps) = (yielded all.toArray a.tmps j == some want) := by simp [Region.wanted, hg]
        rw [hw]
        split at h
        · rename_i b hb
          rw [yielded_of hd (hres d b hb)]
          have e1 : ((some b : Option Bool) == some want) = beqB b want := by rw [beqB_iff]; rfl
          rw [e1]
          split at h
          · rename_i hbb
            rw [if_pos hbb]
            exact (run r hs hres h)
          · rename_i hbb
            rw [if_neg (by simp [hbb])]
            exact ⟨fun f _ => FW_fn ρ f, skip r hs hres h⟩
        · split at h
          · rename_i f hf
            have hv := hs.envr d
            rw [hf] at hv
            simp only [VR] at hv
            rw [yielded_of hd hv]
            have e1 : ((some (f ()) : Option Bool) == some want) = (f () == want) := rfl
            rw [e1]
            split at h
            · cases hfv : f () with
              | true =>
                rw [if_pos (by simp)]
                exact (run ⟨r.env, r.M, (d, true) :: r.res, []⟩ hs (hres.cons (by rw [hv, hfv])) (h.t hfv))
              | false =>
                rw [if_neg (by simp)]
                exact ⟨fun f _ => FW_fn ρ f, skip ⟨r.env, r.M, (d, false) :: r.res, []⟩ hs (hres.cons (by rw [hv, hfv])) (h.f hfv)⟩
            · cases hfv : f () with
              | true =>
                rw [if_neg (by simp)]
                exact ⟨fun f _ => FW_fn ρ f, skip ⟨r.env, r.M, (d, true) :: r.res, []⟩ hs (hres.cons (by rw [hv, hfv])) (h.t hfv)⟩
              | false =>
                rw [if_pos (by simp)]
                exact (run ⟨r.env, r.M, (d, false) :: r.res, []⟩ hs (hres.cons (by rw [hv, hfv])) (h.f hfv))
          · rename_i hf
            have hv := hs.envr d
            rw [hf] at hv
            simp only [VR] at hv
            rw [yielded_undef hd hv, if_neg (by simp)]
            exact ⟨fun f _ => FW_fn ρ f, skip r hs hres h⟩
          · exact h.elim
/-- one operation, whenever its turn comes -/
theorem Step.runIn (hT : ∀ t i, T t = some i → TIok P t i) (hG : ∀ f C, G f = some C → CSound P f C) {all : List Oper} {Q : Exit → Act → World → Prop} {K : Act → World → Prop} {i key : Nat} {o : Oper} {x : Ent} {s : PS}
    (ho : all[i]? = some o) (h : Step T G all key o x s) (hs : Sd ds w0 I0 σ0 M0 s a w I σ) (hf : ∀ k, key ≤ k → k < key + 8 → σ k = none)
    (hK : ∀ a' w' I' σ', Sd ds w0 I0 σ0 M0 (x.app s) a' w' I' σ' → a'.tmps.size = a.tmps.size → (∀ k, σ' k = σ k ∨ (key ≤ k ∧ k < key + 8)) → K a' w') : wpOpIn (FW ρ) 0 P all.toArray Q i K a w := by
  have gs : ∀ j want d, o.guard = some (j, want) → gslot all j = some d → Region.wanted o (yielded all.toArray a.tmps) = (yielded all.toArray a.tmps j == some want) := fun j want d q _ => by simp [Region.wanted, q]
  unfold wpOpIn
  simp only [List.getElem?_toArray, ho]
  obtain ⟨hd, ⟨res, e, hr, hg, ha, hvc, e1, e2, e3⟩ | ⟨⟨j, want, d, q1, q2, q3⟩, e1, e2, e3⟩⟩ := h
  · have hw : Region.wanted o (yielded all.toArray a.tmps) = true := by
      cases hgu : o.guard with
      | none => simp [Region.wanted, hgu]
      | some p =>
        obtain ⟨j, want⟩ := p
        obtain ⟨d, f, q1, q2, q3⟩ := hg j want hgu
        rw [gs j want d hgu q1]
        have hv := hs.envr d
        rw [q2] at hv
        simp only [VR] at hv
        rw [yielded_of q1 hv, q3]
        simp
    rw [if_pos hw]
    refine opIn (aop_nd ha) (aop_ok hT hG hs.ok hs.envr (fun t b hb => ?_) hf ha hvc K Q fun v w' hp => ?_)
    · obtain ⟨f, r1, r2⟩ := hr t b hb
      have hv := hs.envr t
      rw [r1] at hv
      simp only [VR] at hv
      rw [hv, r2]
    · rw [← e1, ← e3] at hp
      obtain ⟨I', σ', g1, g2⟩ := hs.step hp
      rw [← hd]
      exact hK _ _ I' σ' g1 (put_size _ _ _) g2
  · have hw : Region.wanted o (yielded all.toArray a.tmps) = false := by
      rw [gs j want d q1 q2]
      have hv := hs.envr d
      rcases q3 with q3 | ⟨f, q3, q4⟩
      · rw [q3] at hv
        simp only [VR] at hv
        rw [yielded_undef q2 hv]
        rfl
      · rw [q3] at hv
        simp only [VR] at hv
        rw [yielded_of q2 hv]
        simpa using q4
    rw [if_neg (by rw [hw]; simp), ← hd]
    refine ⟨fun f _ => FW_fn ρ f, ?_⟩
    exact hK _ _ I σ (hs.skip e1 e3) (put_size _ _ _) fun _ => .inl rfl

theorem wpAny_planIn (hT : ∀ t i, T t = some i → TIok P t i) (hG : ∀ f C, G f = some C → CSound P f C) {ops : List Oper} {base : Nat} {Q : Exit → Act → World → Prop} {xs : List Ent} {s0 : PS}
    (he : edgesOk ops = true) (hsl : slotsOk ops = true) (hlog : okLog ops (logX xs 0 []) = true) (hlen : xs.length = ops.length)
    (hplan : ∀ j o x, ops[j]? = some o → xs[j]? = some x → Step T G ops (base + 8 * j) o x (runS (fun _ => true) (xs.take j) 0 s0))
    (hQ : ∀ a' w' I' σ', Sd ds w0 I0 σ0 M0 (runS (fun _ => true) xs 0 s0) a' w' I' σ' → (∀ k, base + 8 * ops.length ≤ k → σ' k = none) → Q .normal a' w') :
    ∀ (fuel : Nat) (listed : Array Bool) (a : Act) (w : World) (I : Nat → Prop) (σ : Sig), listed.size = ops.length → ((List.range ops.length).filter fun i => !dn listed i).length ≤ fuel →
      Closed ops (dn listed) → Sd ds w0 I0 σ0 M0 (runS (dn listed) xs 0 s0) a w I σ → (∀ k, base ≤ k → (∀ i, i < ops.length → dn listed i = true → ¬ (base + 8 * i ≤ k ∧ k < base + 8 * i + 8)) → σ k = none) →
      wpAnyIn (FW ρ) 0 P .any ops.toArray Q fuel listed a w := by
  have fin : ∀ (listed : Array Bool) (a : Act) (w : World) (I : Nat → Prop) (σ : Sig), listed.size = ops.length → 
      Sd ds w0 I0 σ0 M0 (runS (dn listed) xs 0 s0) a w I σ → (∀ k, base ≤ k → (∀ i, i < ops.length → dn listed i = true → ¬ (base + 8 * i ≤ k ∧ k < base + 8 * i + 8)) → σ k = none) → 
      (∀ i, i < ops.length → dn listed i = true) → Q .normal a w := by
    intro listed a w I σ hsz hs hf hall
    rw [runS_all (S' := fun _ => true) xs 0 s0 (fun j hj => by rw [Nat.zero_add]; exact hall j (by omega))] at hs
    exact hQ a w I σ hs fun k hk => hf k (by omega) fun i hi _ => by omega
  have allOf : ∀ (listed : Array Bool), listed.size = ops.length → Region.ready .any ops.toArray listed = [] → ∀ i, i < ops.length → dn listed i = true := by
    intro listed hsz hr i
    induction i using Nat.strongRecOn with
    | _ i ih =>
      intro hi
      cases hd : dn listed i with
      | true => rfl
      | false =>
        have ho : ops[i]? = some ops[i] := by simp [hi]
        have : i ∈ Region.ready .any ops.toArray listed := (ready_iff hsz).2 ⟨_, ho, hd, fun e hm => ih e (edgesOk_iff he ho e hm) (by have := edgesOk_iff he ho e hm; omega)⟩
        rw [hr] at this
        cases this
  intro fuel
  induction fuel with
  | zero =>
    intro listed a w I σ hsz hcnt hcl hs hf
    have hall : ∀ i, i < ops.length → dn listed i = true := by
      intro i hi
      cases hd : dn listed i with
      | true => rfl
      | false =>
        have hm : i ∈ (List.range ops.length).filter fun i => !dn listed i := by simp [hi, hd]
        have := List.length_pos_of_mem hm
        omega
    refine ⟨?_, fin listed a w I σ hsz hs hf hall⟩
    cases hr : Region.ready .any ops.toArray listed with
    | nil => rfl
    | cons i l =>
      have : i ∈ Region.ready .any ops.toArray listed := by rw [hr]; exact List.mem_cons_self
      obtain ⟨o, ho, h1, _⟩ := (ready_iff hsz).1 this
      rw [hall i (List.getElem?_eq_some_iff.1 ho).1] at h1
      cases h1
  | succ fuel ih =>
    intro listed a w I σ hsz hcnt hcl hs hf
    refine ⟨fun hr => fin listed a w I σ hsz hs hf (allOf listed hsz hr), fun i hi => ?_⟩
    obtain ⟨o, ho, hd, hpre⟩ := (ready_iff hsz).1 hi
    have hil : i < ops.length := (List.getElem?_eq_some_iff.1 ho).1
    obtain ⟨x, hx⟩ : ∃ x, xs[i]? = some x := ⟨xs[i], by simp [hlen, hil]⟩
    have dstOf : ∀ (j : Nat) (y : Ent) (o' : Oper), xs[j]? = some y → ops[j]? = some o' → y.dst = o'.dst := fun j y o' h1 h2 => (hplan j o' y h2 h1).1
    have opOf : ∀ (j : Nat) (y : Ent), xs[j]? = some y → ∃ o', ops[j]? = some o' := fun j y h => ⟨ops[j]'(by have := (List.getElem?_eq_some_iff.1 h).1; omega), by simp⟩
    -- what must come ahead of it has come, what must follow has not
    have ahead : ∀ j, nmem (anc ops i) j = true → j = i ∨ dn listed j = true := fun j hj => anc_closed hcl (fun o' ho' e hm => by rw [ho] at ho'; cases ho'; exact hpre e hm) hj
    have behind : ∀ j, dn listed j = true → nmem (anc ops j) i = true → j = i := fun j hj hn => by
      rcases anc_closed (j := j) hcl (fun o' ho' => hcl j o' ho' hj) hn with h | h
      · exact h.symm
      · rw [hd] at h; cases h
    have clashed : ∀ (j : Nat) (y : Ent) (o' : Oper), xs[j]? = some y → ops[j]? = some o' → j ≠ i → (j < i → clash ops o' o = true) → (i < j → clash ops o o' = true) → dn listed j = decide (j < i) := by
      intro j y o' hj ho' hne c1 c2
      by_cases hlt : j < i
      · rcases ahead j (slotsOk_iff hsl ho' ho hlt (c1 hlt)) with h | h
        · exact (hne h).elim
        · rw [h]; simp [hlt]
      · cases hS : dn listed j with
        | false => simp [hlt]
        | true => exact (hne (behind j hS (slotsOk_iff hsl ho ho' (by omega) (c2 (by omega))))).elim
    have keyed : ∀ (j : Nat) (y : Ent), xs[j]? = some y → j ≠ i → ¬ apartL (if j < i then (i, x.rd, ukeys x.upd) else (j, y.rd, ukeys y.upd)) (if j < i then (j, y.rd, ukeys y.upd) else (i, x.rd, ukeys x.upd)) → dn listed j = decide (j < i) := by
      intro j y hj hne hap
      by_cases hlt : j < i
      · rw [if_pos hlt, if_pos hlt] at hap
        have := logX_pair xs 0 [] hlog j i y x hj hx hlt
        simp only [Nat.zero_add] at this
        rcases this with h | h | h
        · exact (hap h).elim
        · have hlow : i ≤ j := by
            obtain ⟨o', ho'⟩ := opOf j y hj
            have hc : Closed ops (fun e => decide (e < j)) := fun i' o2 ho2 h2 e hm => by
              have := edgesOk_iff he ho2 e hm
              simp at h2 ⊢; omega
            rcases anc_closed (j := j) hc (fun o2 ho2 e hm => by have := edgesOk_iff he ho2 e hm; simpa using this) h with h | h
            · omega
            · simp at h; omega
          omega
        · rcases ahead j h with h | h
          · exact (hne h).elim
          · rw [h]; simp [hlt]
      · rw [if_neg hlt, if_neg hlt] at hap
        have := logX_pair xs 0 [] hlog i j x y hx hj (by omega)
        simp only [Nat.zero_add] at this
        cases hS : dn listed j with
        | false => simp [hlt]
        | true =>
          rcases this with h | h | h
          · exact (hap h).elim
          · rcases ahead j h with h | h
            · exact (hne h).elim
            · have hc : Closed ops (fun e => decide (e < i)) := fun i' o2 ho2 h2 e hm => by
                have := edgesOk_iff he ho2 e hm
                simp at h2 ⊢; omega
              rcases anc_closed (j := i) hc (fun o2 ho2 e hm => by have := edgesOk_iff he ho2 e hm; simpa using this) ‹_› with h | h
              · omega
              · simp at h; omega
          · exact (hne (behind j hS h)).elim
    have hst : Step T G ops (base + 8 * i) o x (runS (dn listed) xs 0 s0) := by
      have h0 := hplan i o x ho hx
      rw [runS_take] at h0
      refine h0.move (fun t ht => ?_) fun k hk => ?_
      · refine runS_slot xs 0 _ _ rfl rfl fun j y hj hy => ?_
        rw [Nat.zero_add]
        by_cases hji : j = i
        · subst hji; rw [hd]; simp
        · obtain ⟨o', ho'⟩ := opOf j y hj
          have hdo := dstOf j y o' hj ho'
          rw [hdo] at hy
          exact clashed j y o' hj ho' hji (fun _ => clash_of hy ht) fun _ => clash_of' hy ht
      · refine runS_key xs 0 _ _ rfl fun j y hj hy => ?_
        rw [Nat.zero_add]
        by_cases hji : j = i
        · subst hji; rw [hd]; simp
        · refine keyed j y hj hji fun hap => ?_
          by_cases hlt : j < i
          · rw [if_pos hlt, if_pos hlt] at hap
            exact hap.2 k hy hk
          · rw [if_neg hlt, if_neg hlt] at hap
            exact (hap.1 k hy).1 hk
    refine Step.runIn hT hG ho hst hs (fun k h1 h2 => ?_) fun a' w' I' σ' hs' hsize hσ => ?_
    · refine hf k (by omega) fun j hj hS hjk => ?_
      have : j = i := by omega
      subst this
      rw [hd] at hS; cases hS
    · obtain ⟨r1, r2⟩ := runS_add (s := s0) hx hd (fun j y hj hij hS t h1 h2 => by
        obtain ⟨o', ho'⟩ := opOf j y hj
        have q1 := dstOf j y o' hj ho'
        have q2 := dstOf i x o hx ho
        rw [q1] at h2
        rw [q2] at h1
        have := behind j hS (slotsOk_iff hsl ho ho' hij (clash_dst h1 h2))
        omega) fun j y hj hij hS k h1 h2 => by
          have := keyed j y hj (by omega) fun hap => by
            rw [if_neg (by omega), if_neg (by omega)] at hap
            exact (hap.1 k h2).2 h1
          rw [hS] at this
          simp at this
          omega
      have hdn : dn (listed.setIfInBounds i true) = fun j => dn listed j || decide (j = i) := funext fun j => dn_set (by omega) j
      have hS' : ∀ j, dn (listed.setIfInBounds i true) j = true ↔ (dn listed j = true ∨ j = i) := fun j => by rw [hdn]; simp
      refine ih (listed.setIfInBounds i true) a' w' I' σ' (by simp [hsz]) ?_ ?_ ?_ ?_
      · have := countP_lt (l := List.range ops.length) (p := fun j => !dn listed j) (q := fun j => !dn (listed.setIfInBounds i true) j) (fun j _ hj => by
          rw [hdn] at hj
          simp at hj ⊢
          exact hj.1) ⟨i, by simp [hil], by simp [hd], by rw [hdn]; simp⟩
        omega
      · intro j o' ho' hj e hm
        rcases (hS' j).1 hj with h | rfl
        · exact (hS' e).2 (.inl (hcl j o' ho' h e hm))
        · rw [ho] at ho'
          cases ho'
          exact (hS' e).2 (.inl (hpre e hm))
      · rw [hdn]
        exact hs'.congr (by rw [runS_len]; simp [Ent.app, lset?_length, runS_len]) r1 r2
      · intro k hk hno
        rcases hσ k with h | h
        · rw [h]
          exact hf k hk fun j hj hjS => hno j hj ((hS' j).2 (.inl hjS))
        · exact (hno i hil ((hS' i).2 (.inr rfl)) h).elim
theorem region_okIn (hp : P.follows .mixedOrders = true) (hT : ∀ t i, T t = some i → TIok P t i) (hG : ∀ f C, G f = some C → CSound P f C) {ops : Array Oper} {id nx : Nat} {draw : Bool} {env : List AV} {Qm : Exit → Act → World → Prop} {K : AState → Prop}
    (hc : codeOk (.region id ops draw) = true)
    (h : match draw with
      | false => wopsN T G ops.toList nx ops.toList 0 ⟨env, M, [], []⟩ (fun r => K ⟨r.env, r.M, nx + 8 * ops.toList.length⟩)
      | true => wops T G ops.toList nx ops.toList 0 ⟨env, M, [], []⟩ (fun r => match okLog ops.toList r.log with
        | true => K ⟨r.env, r.M, nx + 8 * ops.toList.length⟩
        | false => False)) (hs : St ds w0 I0 σ0 M0 env M nx a w I σ)
    (hQ : ∀ s' a' w' I' σ', K s' → St ds w0 I0 σ0 M0 s'.env s'.M s'.nx a' w' I' σ' → Qm .normal a' w') : (Code.region id ops draw).wpIn (FW ρ) 0 P Qm a w := by
  cases draw with
  | false =>
    refine wpIn_region_list ?_
    have := wopsN_seqIn (ρ := ρ) (ds := ds) (w0 := w0) (I0 := I0) (σ0 := σ0) (M0 := M0) (Q := Qm) hT hG ops.toList 0 ⟨env, M, [], []⟩ a w I σ h (by simpa using hs) (fun s b hb => by simp [rget] at hb)
      fun r' a' w' I' σ' hk hst _ => hQ ⟨r'.env, r'.M, nx + 8 * ops.toList.length⟩ a' w' I' σ' hk (by simpa using hst)
    simpa using this
  | true =>
    simp only [codeOk, Bool.and_eq_true] at hc
    obtain ⟨xs, r', hk, hlen, hrun, hlog, hplan⟩ := wops_plan ops.toList 0 _ h (fun s b hb => by simp [rget] at hb)
    simp only at hk hrun hlog hplan
    split at hk
    · rename_i hok
      refine wpIn_region_any hp ?_
      rw [hlog] at hok
      have hs1 : Sd ds w0 I0 σ0 M0 (env, M) a w I σ := ⟨hs.envr, hs.len, hs.ok, hs.ext, hs.def0⟩
      have := wpAny_planIn (ρ := ρ) (ds := ds) (w0 := w0) (I0 := I0) (σ0 := σ0) (M0 := M0) (Q := Qm) (base := nx) (s0 := (env, M)) hT hG hc.1 hc.2 hok hlen (fun j o x h1 h2 => by
        have := hplan j o x h1 h2
        rwa [Nat.zero_add] at this) (fun a' w' I' σ' hsd hfr => hQ _ a' w' I' σ' hk (by
          rw [← hrun] at hsd
          exact ⟨hsd.envr, hsd.len, hsd.ok, fun k hk => hfr k hk, hsd.ext, hsd.def0⟩))
        ops.size (Array.replicate ops.size false) a { w with drawn := w.drawn + 1 } I σ (by simp) (by
          refine Nat.le_trans (List.length_filter_le _ _) (by simp)) (fun i o _ h => by simp [dn, Array.getD_eq_getD_getElem?, Array.getElem?_replicate] at h; split at h <;> simp_all)
        (by rw [runS_none _ _ _ fun j hj => by simp [dn, Array.getD_eq_getD_getElem?, Array.getElem?_replicate]; split <;> rfl]; exact hs1.heap rfl rfl rfl rfl)
        (fun k hk _ => hs.free k hk)
      simpa using this
    · exact hk.elim
theorem awp_okIn {m : Nat} (hm : ∀ k, m ≤ k → σ0 k = none) (hp : P.follows .mixedOrders = true) (hT : ∀ t i, T t = some i → TIok P t i) (hG : ∀ f C, G f = some C → CSound P f C) :
    ∀ (c : Code), codeOk c = true → ∀ (Qa : AExit → AState → Prop) (Qm : Exit → Act → World → Prop) (s : AState) (a : Act) (w : World) (I : Nat → Prop) (σ : Sig),
      awp T G m c Qa s → St ds w0 I0 σ0 M0 s.env s.M s.nx a w I σ → (∀ e s' a' w' I' σ', Qa e s' → St ds w0 I0 σ0 M0 s'.env s'.M s'.nx a' w' I' σ' → Qm e.to a' w') → c.wpIn (FW ρ) 0 P Qm a w := by
  intro c
  induction c with
  | skip => intro _ Qa Qm s a w I σ h hs hQ; exact wpIn_skip (hQ .normal s a w I σ h hs)
  | ret => intro _ Qa Qm s a w I σ h hs hQ; exact wpIn_ret (hQ .ret s a w I σ h hs)
  | exit id => intro _ Qa Qm s a w I σ h hs hQ; exact wpIn_exit (hQ (.exit id) s a w I σ h hs)
  | region id ops draw =>
    intro hc Qa Qm s a w I σ h hs hQ
    refine region_okIn (draw := draw) (K := fun s => Qa .normal s) hp hT hG hc (by simp only [awp] at h; cases draw <;> exact h) hs fun s' a' w' I' σ' hk hst => hQ .normal s' a' w' I' σ' hk hst
  | seq x y ihx ihy =>
    intro hc Qa Qm s a w I σ h hs hQ
    simp only [codeOk, Bool.and_eq_true] at hc
    refine wpIn_seq (ihx hc.1 _ _ s a w I σ h hs fun e s' a' w' I' σ' hq hst => ?_)
    cases e with
    | normal => exact ihy hc.2 Qa Qm s' a' w' I' σ' hq hst hQ
    | exit id => exact hQ _ s' a' w' I' σ' hq hst
    | ret => exact hQ _ s' a' w' I' σ' hq hst
  | cond c x y ihx ihy =>
    intro hc Qa Qm s a w I σ h hs hQ
    simp only [codeOk, Bool.and_eq_true] at hc
    simp only [awp] at h
    split at h
    · rename_i b hb
      have hv := opv_ok hs.envr c
      rw [hb] at hv
      simp only [VR] at hv
      exact wpIn_cond_split hv (fun ht => ihx hc.1 Qa Qm s a w I σ (h.t ht) hs hQ) fun hf => ihy hc.2 Qa Qm s a w I σ (h.f hf) hs hQ
    · exact h.elim
  | block id c ih =>
    intro hc Qa Qm s a w I σ h hs hQ
    simp only [codeOk] at hc
    refine wpIn_block (ih hc _ _ s a w I σ h hs fun e s' a' w' I' σ' hq hst => ?_)
    cases e with
    | normal => exact hQ .normal s' a' w' I' σ' hq hst
    | exit i =>
      simp only at hq
      simp only [AExit.to, Exit.inBlock]
      split at hq
      · rename_i hb
        rw [if_pos (Nat.eq_of_beq_eq_true hb)]
        exact hQ .normal s' a' w' I' σ' hq hst
      · rename_i hb
        rw [if_neg (Nat.ne_of_beq_eq_false hb)]
        exact hQ (.exit i) s' a' w' I' σ' hq hst
    | ret => exact hQ .ret s' a' w' I' σ' hq hst
  | loop c ih =>
    intro hc Qa Qm s a w I σ h hs hQ
    simp only [codeOk] at hc
    obtain ⟨ι, inv, μ, x, start, round⟩ := h
    refine wpIn_loop_ghost (fun n a w => ∃ x, μ x = n ∧ ∃ I σ, St ds w0 I0 σ0 M0 (inv x).env (inv x).M (inv x).nx a w I σ) (μ x) ⟨x, rfl, fit_ok hm hs start⟩ ?_
    rintro n a w ⟨y, rfl, I, σ, hst⟩
    refine ih hc _ _ (inv y) a w I σ (round y) hst fun e s' a' w' I' σ' hq hst' => ?_
    cases e with
    | normal =>
      obtain ⟨z, hz, hf⟩ := hq
      exact ⟨μ z, hz, z, rfl, fit_ok hm hst' hf⟩
    | exit id => exact hQ (.exit id) s' a' w' I' σ' hq hst'
    | ret => exact hQ .ret s' a' w' I' σ' hq hst'
  | rangeFunc f ps asg b _ _ => intro _ Qa Qm s a w I σ h; exact h.elim
  | scope b _ => intro _ Qa Qm s a w I σ h; exact h.elim
  | label l => intro _ Qa Qm s a w I σ h; exact h.elim
  | goto l => intro _ Qa Qm s a w I σ h; exact h.elim
  | refuse y => intro _ Qa Qm s a w I σ h; exact h.elim
end
end Go.Am
/- A range over a function: the function's own code is walked in place, each call of yield by the loop's body. -/
namespace Go.Am
set_option linter.all false
set_option linter.deprecated false
/-- what a round does: the values handed over, the memory, the next free number; what follows -/
abbrev Hd := List AV → MS → Nat → (MS → Nat → Option AExit → Prop) → Prop
structure YS where
  s : AState
  pend : Option AExit
def yldArgs (env : List AV) (o : Op) : Option (Nat × List AV) :=
  match o with
  | .call c => match c.callee with
    | .value f => match opv env f with
      | .yl l => some (l, opvs env c.args.toList)
      | _ => none
    | _ => none
  | _ => none
def noPend : Option AExit → Bool
  | none => true
  | some _ => false
def wopsY (T : TT) (G : Ctx) (all : List Oper) (l : Nat) (H : Hd) : List Oper → Nat → Nat → RS → Option AExit → (Nat → RS → Option AExit → Prop) → Prop
  | [], _, base, r, p, K => K base r p
  | o :: os, i, base, r, p, K => match yldArgs r.env o.op with
    | some (l', args) => match o.guard, p, Nat.beq l' l with
      | none, none, true => H args r.M (base + 8 * i) (fun M' nx' p' => wopsY T G all l H os (i + 1) (nx' - 8 * (i + 1)) ⟨lset? r.env o.dst (.bool fun _ => noPend p'), M', rdel r.res o.dst, []⟩ p' K)
      | _, _, _ => False
    | none => wopsN T G all base [o] i r (fun r' => wopsY T G all l H os (i + 1) base r' p K)
inductive YLoopP (B : YS → (AExit → YS → Prop) → Prop) (Fit : AState → AState → Prop) (Q : AExit → YS → Prop) (s : YS) : Prop where
  | mk (ι : Type) (inv : ι → AState) (μ : ι → Nat) (x : ι) (pend : s.pend = none) (start : Fit s.s (inv x))
      (round : ∀ x, B ⟨inv x, none⟩ (fun e s' => match e with
        | .normal => match s'.pend with
          | none => ∃ y, μ y < μ x ∧ Fit s'.s (inv y)
          | some _ => False
        | e => Q e s')) : YLoopP B Fit Q s
/-- the code of a function that is ranged over -/
def ywp (T : TT) (G : Ctx) (m l : Nat) (H : Hd) : Code → (AExit → YS → Prop) → YS → Prop
  | .skip, Q, s => Q .normal s
  | .ret, Q, s => Q .ret s
  | .exit id, Q, s => Q (.exit id) s
  | .seq a b, Q, s => ywp T G m l H a (fun e s => match e with | .normal => ywp T G m l H b Q s | e => Q e s) s
  | .block id c, Q, s => ywp T G m l H c (fun e s => match e with
      | .exit i => match Nat.beq i id with | true => Q .normal s | false => Q (.exit i) s
      | e => Q e s) s
  | .cond c x y, Q, s => match opv s.s.env c with
    | .bool b => Split b (fun _ => ywp T G m l H x Q s) (fun _ => ywp T G m l H y Q s)
    | _ => False
  | .loop c, Q, s => YLoopP (fun s Q => ywp T G m l H c Q s) (fit m) Q s
  | .region _ ops draw, Q, s => match draw with
    | false => wopsY T G ops.toList l H ops.toList 0 s.s.nx ⟨s.s.env, s.s.M, [], []⟩ s.pend (fun base r p => Q .normal ⟨⟨r.env, r.M, base + 8 * ops.toList.length⟩, p⟩)
    | true => wops T G ops.toList s.s.nx ops.toList 0 ⟨s.s.env, s.s.M, [], []⟩ (fun r => match okLog ops.toList r.log with
      | true => Q .normal ⟨⟨r.env, r.M, s.s.nx + 8 * ops.toList.length⟩, s.pend⟩
      | false => False)
  | _, _, _ => False
def setPs : List AV → List Tmp → List AV → List AV
  | env, p :: ps, v :: vs => setPs (lset env p v) ps vs
  | env, _, _ => env
/-- what the loop's body does in a round -/
def bodyH (T : TT) (G : Ctx) (asg b : Code) (env : List AV) (ps : List Tmp) : Hd := fun args M nx K => match Nat.beq (llen args) ps.length with
  | false => False
  | true => awp T G nx asg (fun e s1 => match e with
    | .normal => awp T G s1.nx b (fun e s2 => match e with
      | .normal => K s2.M s2.nx none
      | e => K s2.M s2.nx (some e)) s1
    | _ => False) ⟨setPs env ps args, M, nx⟩
abbrev Fns := Nat → Option (Code × Nat)
/-- the code of a function that ranges over functions -/
def rwp (T : TT) (G : Ctx) (FT : Fns) (m : Nat) : Code → (AExit → AState → Prop) → AState → Prop
  | .skip, Q, s => Q .normal s
  | .ret, Q, s => Q .ret s
  | .exit id, Q, s => Q (.exit id) s
  | .seq a b, Q, s => rwp T G FT m a (fun e s => match e with | .normal => rwp T G FT m b Q s | e => Q e s) s
  | .block id c, Q, s => rwp T G FT m c (fun e s => match e with
      | .exit i => match Nat.beq i id with | true => Q .normal s | false => Q (.exit i) s
      | e => Q e s) s
  | .cond c x y, Q, s => match opv s.env c with
    | .bool b => Split b (fun _ => rwp T G FT m x Q s) (fun _ => rwp T G FT m y Q s)
    | _ => False
  | .loop c, Q, s => LoopP (fun s Q => rwp T G FT m c Q s) (fit m) Q s
  | .region _ ops draw, Q, s => match draw with
    | false => wopsN T G ops.toList s.nx ops.toList 0 ⟨s.env, s.M, [], []⟩ (fun r => Q .normal ⟨r.env, r.M, s.nx + 8 * ops.toList.length⟩)
    | true => wops T G ops.toList s.nx ops.toList 0 ⟨s.env, s.M, [], []⟩ (fun r => match okLog ops.toList r.log with
      | true => Q .normal ⟨r.env, r.M, s.nx + 8 * ops.toList.length⟩
      | false => False)
  | .rangeFunc f ps asg b, Q, s => match opv s.env f with
    | .fn g caps => match FT g with
      | none => False
      | some (c, n) => ∀ l, ywp T G s.nx l (bodyH T G asg b s.env ps.toList) c (fun e ys => match e with
          | .exit _ => False
          | _ => match ys.pend with
            | none => Q .normal ⟨s.env, ys.s.M, ys.s.nx⟩
            | some p => Q p ⟨s.env, ys.s.M, ys.s.nx⟩) ⟨⟨finit n (lapp [.yl l] caps), s.M, s.nx⟩, none⟩
    | _ => False
  | _, _, _ => False

section
variable {ds : List Deferred} {P : Program} {a : Act} {w w' w0 : World} {I I' I0 : Nat → Prop} {σ σ' σ0 : Sig} {M M' M0 : MS} {T : TT} {G : Ctx} {env : List AV} {key nx : Nat} {ρ : Option Nat}
/-- a block that is neither the symbolic memory's nor among what stays -/
structure Frn (w : World) (I : Nat → Prop) (σ : Sig) (M : MS) (b : Nat) (o : Obj) : Prop where
  here : w.heap[b]? = some o
  own : ¬ Owned σ M b
  imm : ¬ I b
theorem Frn.lt {b : Nat} {o : Obj} (h : Frn w I σ M b o) : b < w.heap.size := (Array.getElem?_eq_some_iff.1 h.here).1
theorem Frn.ext {b : Nat} {o : Obj} (h : Frn w I σ M b o) (e : Ext w I σ M w' I' σ' M') : Frn w' I' σ' M' b o := by
  refine ⟨by rw [e.blk b h.lt h.own]; exact h.here, fun q => ?_, fun q => ?_⟩
  · rcases e.own b q with q | q
    · exact h.own q
    · exact absurd h.lt (by omega)
  · rcases e.fresh b q with q | q | q
    · exact h.imm q
    · exact h.own q
    · exact absurd h.lt (by omega)
/-- another block turns, or is laid: nothing of what is said turns -/
structure Side (w : World) (I : Nat → Prop) (σ : Sig) (M : MS) (w' : World) : Prop where
  os : w'.os = w.os
  tape : w'.tape = w.tape
  output : w'.output = w.output
  size : w.heap.size ≤ w'.heap.size
  blk : ∀ b, I b ∨ Owned σ M b → w'.heap[b]? = w.heap[b]?
theorem Side.keep (h : Side w I σ M w') : Keep w I σ w' I σ := ⟨fun b hb => h.blk b (.inl hb), fun _ h => h, fun _ _ h => h⟩
theorem Side.ok (h : Side w I σ M w') (hok : Ok w I σ M) : Ok w' I σ M := by
  refine ⟨fun b hb => Nat.lt_of_lt_of_le (hok.lt b hb) h.size, fun k o hk => ?_, hok.sep, hok.inj⟩
  obtain ⟨p, hp, ho⟩ := hok.obj k o hk
  refine ⟨p, hp, OR.keep h.keep (fun q b hq hf => ?_) ho⟩
  subst hq
  by_cases hx : owns o
  · exact h.blk _ (.inr ⟨k, _, q, hk, hx, hp, hf⟩)
  · cases o with
    | imm nn e xs => exact h.blk _ (.inl (hf ▸ ho.2))
    | _ => exact (hx trivial).elim
theorem Side.ext (h : Side w I σ M w') (e : Ext w0 I0 σ0 M0 w I σ M) (hb : ∀ b, b < w0.heap.size → w'.heap[b]? = w.heap[b]?) : Ext w0 I0 σ0 M0 w' I σ M :=
  ⟨h.os.trans e.os, h.tape.trans e.tape, h.output.trans e.output, Nat.le_trans e.size h.size, fun b h1 h2 => (hb b h1).trans (e.blk b h1 h2), e.mono, e.fresh, e.own, e.sig⟩
theorem Side.st (h : Side w I σ M w') (s : St ds w0 I0 σ0 M0 env M nx a w I σ) (hb : ∀ b, b < w0.heap.size → w'.heap[b]? = w.heap[b]?) : St ds w0 I0 σ0 M0 env M nx a w' I σ :=
  ⟨fun t => VR.keep h.keep _ _ (s.envr t), s.len, h.ok s.ok, s.free, h.ext s.ext hb, s.def0⟩
theorem Side.alloc (hok : Ok w I σ M) (o : Obj) : Side w I σ M (w.alloc o) := by
  refine ⟨rfl, rfl, rfl, by show _ ≤ (w.heap.push o).size; simp, fun b hb => ?_⟩
  have : b < w.heap.size := by
    rcases hb with hb | ⟨k, x, p, h1, h2, h3, h4⟩
    · exact hok.lt b hb
    · obtain ⟨q, hq, ho⟩ := hok.obj k x h1
      rw [h3] at hq
      cases hq
      exact ho.foot_lt h4
  show (w.heap.push o)[b]? = _
  rw [Array.getElem?_push, if_neg (by omega)]
theorem Side.putObj {b : Nat} {o : Obj} (h : Frn w I σ M b o) (o' : Obj) : Side w I σ M (w.putObj b o') := by
  refine ⟨rfl, rfl, rfl, by simp, fun c hc => World.putObj_heap_other fun e => ?_⟩
  subst e
  rcases hc with hc | hc
  · exact h.imm hc
  · exact h.own hc
theorem Frn.side {b : Nat} {o : Obj} (h : Frn w I σ M b o) (hb : w'.heap[b]? = w.heap[b]?) : Frn w' I σ M b o := ⟨hb.trans h.here, h.own, h.imm⟩
theorem Frn.put {b : Nat} {o o' : Obj} (h : Frn w I σ M b o) : Frn (w.putObj b o') I σ M b o' := ⟨World.putObj_heap_same h.lt, h.own, h.imm⟩
theorem Frn.new (hok : Ok w I σ M) (o : Obj) : Frn (w.alloc o) I σ M w.heap.size o := by
  refine ⟨World.alloc_heap_new w o, fun ⟨k, x, p, h1, h2, h3, h4⟩ => ?_, fun h => absurd (hok.lt _ h) (by omega)⟩
  obtain ⟨q, hq, ho⟩ := hok.obj k x h1
  rw [h3] at hq
  cases hq
  have := ho.foot_lt h4
  omega
end
end Go.Am
/- A range over a function: a round, and the code that yields. -/
namespace Go.Am
set_option linter.all false
set_option linter.deprecated false
def AExit.code : AExit → Code
  | .normal => .skip
  | .exit id => .exit id
  | .ret => .ret
def recOf (fn : FuncId) (tmps : Array Value) (ps : Array Tmp) (asg b : Code) (D : Nat) (p : Option AExit) : Loop :=
  { state := match p with | none => .ready | some _ => .done, pending := p.map AExit.code, fn, tmps, params := ps, assign := asg, body := b, defers := D }
section
variable {P : Program} {a : Act} {w w' wb : World} {I I' Ib : Nat → Prop} {σ σ' σb : Sig} {M M' Mb : MS} {T : TT} {G : Ctx} {env : List AV} {l D : Nat}
theorem Keep.tr {w'' : World} {I'' : Nat → Prop} {σ'' : Sig} (h : Keep w I σ w' I' σ') (k : Keep w' I' σ' w'' I'' σ'') : Keep w I σ w'' I'' σ'' :=
  ⟨fun b hb => (k.blk b (h.mono b hb)).trans (h.blk b hb), fun b hb => k.mono b (h.mono b hb), fun j p hj => k.sig j p (h.sig j p hj)⟩
theorem EnvR.keep {tmps : Array Value} (K : Keep w I σ w' I' σ') (h : EnvR w I σ env tmps) : EnvR w' I' σ' env tmps := fun t => VR.keep K _ _ (h t)
structure Rnd (wb : World) (Ib : Nat → Prop) (σb : Sig) (Mb : MS) (l D : Nat) (rec : Option AExit → Loop) (M : MS) (nx : Nat) (p : Option AExit) (w : World) (I : Nat → Prop) (σ : Sig) : Prop where
  ok : Ok w I σ M
  free : ∀ k, nx ≤ k → σ k = none
  ext : Ext wb Ib σb Mb w I σ M
  recd : Frn w I σ M l (.loop (rec p))
  dfr : Frn w I σ M D (.deferred (some []))
def HdOk (P : Program) (wb : World) (Ib : Nat → Prop) (σb : Sig) (Mb : MS) (l D : Nat) (rec : Option AExit → Loop) (H : Hd) : Prop :=
  ∀ args M nx K, H args M nx K → ∀ w I σ us, Rnd wb Ib σb Mb l D rec M nx none w I σ → VRs w I σ args us →
    us.length = (rec none).params.size ∧ RoundIn (FW none) 0 P l (rec none).fn (((rec none).params.zip us.toArray).foldl (fun tmps (t, a) => tmps.setIfInBounds t a) (rec none).tmps) (rec none).assign (rec none).body w
      fun e w' => ∃ M' nx' p I' σ', K M' nx' p ∧ e = .returned (.bool (noPend p)) ∧ Rnd wb Ib σb Mb l D rec M' nx' p w' I' σ' ∧ Keep w I σ w' I' σ'
theorem setPs_ok : ∀ (ps : List Tmp) (args : List AV) (us : List Value) (env : List AV) (tmps : Array Value), VRs w I σ args us → EnvR w I σ env tmps → env.length ≤ tmps.size →
    EnvR w I σ (setPs env ps args) ((ps.zip us).foldl (fun tmps (t, a) => tmps.setIfInBounds t a) tmps) ∧ (setPs env ps args).length ≤ ((ps.zip us).foldl (fun tmps (t, a) => tmps.setIfInBounds t a) tmps).size
  | [], _, _, env, tmps, _, h, hl => by simpa [setPs] using ⟨h, hl⟩
  | p :: ps, [], us, env, tmps, hv, h, hl => by
    simp only [VRs] at hv
    subst hv
    simpa [setPs] using ⟨h, hl⟩
  | p :: ps, v :: vs, us, env, tmps, hv, h, hl => by
    simp only [VRs] at hv
    obtain ⟨u, us, rfl, h1, h2⟩ := hv
    simp only [setPs, List.zip_cons_cons, List.foldl_cons]
    have := EnvR.put (a := { tmps := tmps, defers := [] }) h hl (d := some p) h1
    refine setPs_ok ps vs us _ _ h2 this ?_
    rw [lset_length, Array.size_setIfInBounds]; exact hl
theorem bodyH_ok (hp : P.follows .mixedOrders = true) (hT : ∀ t i, T t = some i → TIok P t i) (hG : ∀ f C, G f = some C → CSound P f C) {fn : FuncId} {tmps : Array Value} {ps : Array Tmp} {asg b : Code} (ha : codeOk asg = true) (hb : codeOk b = true)
    (okb : Ok wb Ib σb Mb) (henv : EnvR wb Ib σb env tmps) (hlen : env.length ≤ tmps.size) (hD : wb.heap.size ≤ D) (hl : wb.heap.size ≤ l) (hne : D ≠ l) :
    HdOk P wb Ib σb Mb l D (recOf fn tmps ps asg b D) (bodyH T G asg b env ps.toList) := by
  intro args M nx K h w I σ us R hus
  unfold bodyH at h
  split at h
  · exact h.elim
  rename_i hsz
  have hsz := Nat.eq_of_beq_eq_true hsz
  rw [llen_eq] at hsz
  have hul : us.length = args.length := hus.length
  refine ⟨by rw [hul, hsz]; simp [recOf], ?_⟩
  have henv1 : EnvR w I σ env tmps := henv.keep (R.ext.keep okb)
  obtain ⟨e1, e2⟩ := setPs_ok ps.toList args us env tmps hus henv1 hlen
  have ez : ((ps.zip us.toArray).foldl (fun tmps (t, a) => tmps.setIfInBounds t a) tmps) = ((ps.toList.zip us).foldl (fun tmps (t, a) => tmps.setIfInBounds t a) tmps) := by
    rw [← Array.foldl_toList]; simp
  refine roundIn_of_wpIn (F := FW none) (FW_fn none _) ?_
  show asg.wpIn (FW (some l)) 0 P _ { tmps := ((ps.zip us.toArray).foldl (fun tmps (t, a) => tmps.setIfInBounds t a) tmps), defers := [] } w
  rw [ez]
  refine awp_okIn (ρ := some l) (ds := []) (w0 := w) (I0 := I) (σ0 := σ) (M0 := M) (m := nx) R.free hp hT hG asg ha _ _ ⟨setPs env ps.toList args, M, nx⟩ _ w I σ h ⟨e1, e2, R.ok, R.free, Ext.refl R.ok, rfl⟩ fun e s1 a1 w1 I1 σ1 hq hst => ?_
  cases e with
  | exit id => exact hq.elim
  | ret => exact hq.elim
  | normal =>
    have x1 := hst.ext
    have r1 := R.recd.ext x1
    have d1 := R.dfr.ext x1
    refine ⟨w1.putObj l (.loop { recOf fn tmps ps asg b D none with state := .busy }), run_beginRound r1.here rfl, ?_⟩
    obtain ⟨w2, hw2⟩ : ∃ w2, w2 = w1.putObj l (.loop { recOf fn tmps ps asg b D none with state := .busy }) := ⟨_, rfl⟩
    rw [← hw2]
    have s2 : Side w1 I1 σ1 s1.M w2 := by rw [hw2]; exact Side.putObj r1 _
    have r2 : Frn w2 I1 σ1 s1.M l (.loop { recOf fn tmps ps asg b D none with state := .busy }) := by rw [hw2]; exact r1.put
    have d2 : Frn w2 I1 σ1 s1.M D (.deferred (some [])) := d1.side (by rw [hw2]; exact World.putObj_heap_other hne)
    have xb2 : Ext wb Ib σb Mb w2 I1 σ1 s1.M := s2.ext (R.ext.trans x1) fun c hc => by rw [hw2]; exact World.putObj_heap_other (by omega)
    refine awp_okIn (ρ := some l) (ds := []) (w0 := w2) (I0 := I1) (σ0 := σ1) (M0 := s1.M) (m := s1.nx) hst.free hp hT hG b hb _ _ s1 a1 w2 I1 σ1 hq ⟨hst.envr.keep s2.keep, hst.len, s2.ok hst.ok, hst.free, Ext.refl (s2.ok hst.ok), hst.def0⟩ fun e s3 a3 w3 I3 σ3 hq3 hst3 => ?_
    have x3 := hst3.ext
    have r3 := r2.ext x3
    have d3 := d2.ext x3
    have fin : ∀ p : Option AExit, K s3.M s3.nx p → ∃ v w', (Instr.endRound l (p.map AExit.code)).run P w3 = .ok v w' ∧ ∃ M' nx' p I' σ', K M' nx' p ∧ (Ending.returned v) = .returned (.bool (noPend p)) ∧ Rnd wb Ib σb Mb l D (recOf fn tmps ps asg b D) M' nx' p w' I' σ' ∧ Keep w I σ w' I' σ' := by
      intro p hk
      refine ⟨_, _, run_endRound (p.map AExit.code) r3.here, s3.M, s3.nx, p, I3, σ3, hk, by cases p <;> rfl, ?_, ?_⟩
      · have s4 : Side w3 I3 σ3 s3.M (w3.putObj l (.loop { { recOf fn tmps ps asg b D none with state := .busy } with state := if (p.map AExit.code).isNone then .ready else .done, pending := p.map AExit.code })) := Side.putObj r3 _
        refine ⟨s4.ok hst3.ok, hst3.free, s4.ext (xb2.trans x3) fun c hc => World.putObj_heap_other (by omega), ?_, d3.side (World.putObj_heap_other hne)⟩
        have := r3.put (o' := .loop { { recOf fn tmps ps asg b D none with state := .busy } with state := if (p.map AExit.code).isNone then .ready else .done, pending := p.map AExit.code })
        cases p <;> exact this
      · exact (((x1.keep R.ok).tr s2.keep).tr (x3.keep (s2.ok hst.ok))).tr (Side.putObj r3 _).keep
    cases e with
    | normal => exact fin none hq3
    | exit id => exact fin (some (.exit id)) hq3
    | ret => exact fin (some .ret) hq3
end
end Go.Am
/- A range over a function: the code of the function that is ranged over. -/
namespace Go.Am
set_option linter.all false
set_option linter.deprecated false
section
variable {P : Program} {a : Act} {w w' wb : World} {I I' Ib : Nat → Prop} {σ σ' σb : Sig} {M M' Mb : MS} {T : TT} {G : Ctx} {env : List AV} {l D : Nat} {rec : Option AExit → Loop}
theorem Oper.wpIn_q {F : Fence} {n : Nat} {o : Oper} {K K' : Act → World → Prop} {Q Q' : Exit → Act → World → Prop} (hK : ∀ a w, K a w → K' a w) (hQ : ∀ e a w, e ≠ .normal → Q e a w → Q' e a w) (h : o.wpIn F n P a w K Q) : o.wpIn F n P a w K' Q' := by
  refine ⟨h.1, ?_⟩
  have h := h.2
  revert h
  cases (o.semAt F.round a.eval).run P w with
  | ok v w' =>
    cases v <;> intro h <;> first | exact hK _ _ h | exact h.elim | skip
    · refine ⟨h.1, h.2.1, fun cs hr => ?_⟩
      obtain ⟨e, w2, fr, q, s⟩ := h.2.2 cs hr
      refine ⟨e, w2, fr, ?_, s⟩
      cases e with
      | returned v => exact hK _ _ q
      | panicked ch => exact hQ _ _ _ (by simp) q
      | outgrown => obtain ⟨x, y, q⟩ := q; exact ⟨x, y, hQ _ _ _ (by simp) q⟩
    · refine ⟨h.1, h.2.mono fun e w2 q => ?_⟩
      cases e with
      | returned v => exact hK _ _ q
      | panicked ch => exact hQ _ _ _ (by simp) q
      | outgrown => obtain ⟨x, y, q⟩ := q; exact ⟨x, y, hQ _ _ _ (by simp) q⟩
    · exact ⟨h.1, h.2.mono fun v w2 q => hK _ _ q⟩
  | halt h w' => cases h <;> intro q <;> first | exact hQ _ _ _ (by simp) q | exact q.elim
theorem wpListIn_app {F : Fence} {n : Nat} {ops : Array Oper} {Q Q' : Exit → Act → World → Prop} {ys : List Oper} (hn : ∀ a w, Q' .normal a w → wpListIn F n P ops Q ys a w) (hQ : ∀ e a w, e ≠ .normal → Q' e a w → Q e a w) :
    ∀ (xs : List Oper) (a : Act) (w : World), wpListIn F n P ops Q' xs a w → wpListIn F n P ops Q (xs ++ ys) a w
  | [], a, w, h => hn a w h
  | x :: xs, a, w, h => by
    simp only [List.cons_append]
    unfold wpListIn at h ⊢
    split
    · rename_i hw
      rw [if_pos hw] at h
      exact Oper.wpIn_q (fun a w h => wpListIn_app hn hQ xs a w h) hQ h
    · rename_i hw
      rw [if_neg hw] at h
      exact ⟨h.1, wpListIn_app hn hQ xs _ _ h.2⟩
structure Yst (wb : World) (Ib : Nat → Prop) (σb : Sig) (Mb : MS) (l D : Nat) (rec : Option AExit → Loop) (env : List AV) (M : MS) (nx : Nat) (p : Option AExit) (a : Act) (w : World) (I : Nat → Prop) (σ : Sig) : Prop where
  st : St [] wb Ib σb Mb env M nx a w I σ
  recd : Frn w I σ M l (.loop (rec p))
  dfr : Frn w I σ M D (.deferred (some []))
theorem Yst.base {nx : Nat} {p : Option AExit} (h : Yst wb Ib σb Mb l D rec env M nx p a w I σ) : St [] w I σ M env M nx a w I σ := ⟨h.st.envr, h.st.len, h.st.ok, h.st.free, Ext.refl h.st.ok, h.st.def0⟩
theorem Yst.next {env' : List AV} {nx nx' : Nat} {p : Option AExit} {a' : Act} (h : Yst wb Ib σb Mb l D rec env M nx p a w I σ) (k : St [] w I σ M env' M' nx' a' w' I' σ') : Yst wb Ib σb Mb l D rec env' M' nx' p a' w' I' σ' :=
  ⟨⟨k.envr, k.len, k.ok, k.free, h.st.ext.trans k.ext, k.def0⟩, h.recd.ext k.ext, h.dfr.ext k.ext⟩
theorem yld_run {o : Oper} {args : List AV} {l' : Nat} (henv : EnvR w I σ env a.tmps) (h : yldArgs env o.op = some (l', args)) :
    ∃ us : List Value, VRs w I σ args us ∧ (∀ c, o.op ≠ .defer c) ∧ (execOp a.eval o).run P w = (Instr.yield l' us.toArray).run P w := by
  unfold yldArgs at h
  split at h <;> (try (cases h; done))
  rename_i c hop
  split at h <;> (try (cases h; done))
  rename_i f hcal
  split at h <;> (try (cases h; done))
  rename_i l2 hf
  cases h
  have hfv := opv_ok henv f
  rw [hf] at hfv
  simp only [VR] at hfv
  refine ⟨c.args.toList.map a.eval, opvs_ok henv c.args.toList, fun c' hc => (by rw [hop] at hc; cases hc), ?_⟩
  simp only [execOp, hop, resolve, hcal, hfv, Deferred.ofValue, pure_bind, invoke]
  congr 2
  apply Array.ext'
  simp
theorem wopsY_ok (hT : ∀ t i, T t = some i → TIok P t i) (hG : ∀ f C, G f = some C → CSound P f C) {H : Hd} (hH : HdOk P wb Ib σb Mb l D rec H) {all : List Oper} {Q : Exit → Act → World → Prop} {K : Nat → RS → Option AExit → Prop} :
    ∀ (os : List Oper) (i base : Nat) (r : RS) (p : Option AExit) (a : Act) (w : World) (I : Nat → Prop) (σ : Sig), wopsY T G all l H os i base r p K → Yst wb Ib σb Mb l D rec r.env r.M (base + 8 * i) p a w I σ → ResOk r.res a.tmps →
      (∀ base' r' p' a' w' I' σ', K base' r' p' → Yst wb Ib σb Mb l D rec r'.env r'.M (base' + 8 * (i + os.length)) p' a' w' I' σ' → Q .normal a' w') → wpListIn (FW none) 0 P all.toArray Q os a w
  | [], i, base, r, p, a, w, I, σ, h, hs, _, hQ => hQ base r p a w I σ h (by simpa using hs)
  | o :: os, i, base, r, p, a, w, I, σ, h, hs, hres, hQ => by
    have hQ' : ∀ base' r' p' a' w' I' σ', K base' r' p' → Yst wb Ib σb Mb l D rec r'.env r'.M (base' + 8 * (i + 1 + os.length)) p' a' w' I' σ' → Q .normal a' w' := fun base' r' p' a' w' I' σ' hk hst => hQ base' r' p' a' w' I' σ' hk (by
      rw [show i + (o :: os).length = i + 1 + os.length by simp; omega]; exact hst)
    unfold wopsY at h
    split at h
    · rename_i l' args hy
      split at h <;> (try exact h.elim)
      rename_i hg hl
      have hl := (Nat.eq_of_beq_eq_true hl).symm
      subst hl
      obtain ⟨us, hus, hnd, hrun⟩ := yld_run (P := P) hs.st.envr hy
      obtain ⟨hz, hround⟩ := hH args r.M (base + 8 * i) _ h w I σ us ⟨hs.st.ok, hs.st.free, hs.st.ext, hs.recd, hs.dfr⟩ hus
      unfold wpListIn
      rw [if_pos (by simp [Region.wanted, hg])]
      refine ⟨fun f _ => FW_fn none f, ?_⟩
      rw [FW_round, Oper.semAt_eq none a.eval o hnd, hrun, run_yield hs.recd.here (by simpa using hz)]
      refine ⟨fun q => (by rw [FW_depth] at q; cases q), hround.mono fun e w' hq => ?_⟩
      obtain ⟨M', nx', p', I', σ', hk, rfl, hR, hK⟩ := hq
      refine wopsY_ok hT hG hH os (i + 1) (nx' - 8 * (i + 1)) _ p' _ w' I' σ' hk ⟨⟨?_, ?_, hR.ok, fun k hk => hR.free k (by omega), hR.ext, ?_⟩, hR.recd, hR.dfr⟩ (hres.put _ _) hQ'
      · exact EnvR.put (hs.st.envr.keep hK) hs.st.len (by simp only [VR])
      · show (lset? _ _ _).length ≤ _
        rw [lset?_length, put_size]; exact hs.st.len
      · rw [put_defers]; exact hs.st.def0
    · have := wopsN_seqIn (ρ := none) (ds := []) (w0 := w) (I0 := I) (σ0 := σ) (M0 := r.M) (Q := fun e a w => match e with | .normal => wpListIn (FW none) 0 P all.toArray Q os a w | e => Q e a w) hT hG [o] i r a w I σ h hs.base hres
        fun r' a' w' I' σ' hk hst hre => wopsY_ok hT hG hH os (i + 1) base r' p a' w' I' σ' hk (hs.next hst) hre hQ'
      refine wpListIn_app (ys := os) (fun a w h => h) (fun e a w hne h => ?_) [o] a w this
      cases e <;> first | exact h | exact absurd rfl hne
theorem ywp_ok {m : Nat} (hm : ∀ k, m ≤ k → σb k = none) (hp : P.follows .mixedOrders = true) (hT : ∀ t i, T t = some i → TIok P t i) (hG : ∀ f C, G f = some C → CSound P f C) {H : Hd} (hH : HdOk P wb Ib σb Mb l D rec H) :
    ∀ (c : Code), codeOk c = true → ∀ (Qa : AExit → YS → Prop) (Qm : Exit → Act → World → Prop) (s : YS) (a : Act) (w : World) (I : Nat → Prop) (σ : Sig),
      ywp T G m l H c Qa s → Yst wb Ib σb Mb l D rec s.s.env s.s.M s.s.nx s.pend a w I σ → (∀ e s' a' w' I' σ', Qa e s' → Yst wb Ib σb Mb l D rec s'.s.env s'.s.M s'.s.nx s'.pend a' w' I' σ' → Qm e.to a' w') → c.wpIn (FW none) 0 P Qm a w := by
  intro c
  induction c with
  | skip => intro _ Qa Qm s a w I σ h hs hQ; exact wpIn_skip (hQ .normal s a w I σ h hs)
  | ret => intro _ Qa Qm s a w I σ h hs hQ; exact wpIn_ret (hQ .ret s a w I σ h hs)
  | exit id => intro _ Qa Qm s a w I σ h hs hQ; exact wpIn_exit (hQ (.exit id) s a w I σ h hs)
  | region id ops draw =>
    intro hc Qa Qm s a w I σ h hs hQ
    cases draw with
    | false =>
      simp only [ywp] at h
      refine wpIn_region_list ?_
      have := wopsY_ok (Q := Qm) hT hG hH ops.toList 0 s.s.nx ⟨s.s.env, s.s.M, [], []⟩ s.pend a w I σ h (by simpa using hs) (fun s b hb => by simp [rget] at hb)
        fun base' r' p' a' w' I' σ' hk hst => hQ .normal ⟨⟨r'.env, r'.M, base' + 8 * ops.toList.length⟩, p'⟩ a' w' I' σ' hk (by simpa using hst)
      simpa using this
    | true =>
      simp only [ywp] at h
      refine region_okIn (ρ := none) (ds := []) (w0 := w) (I0 := I) (σ0 := σ) (M0 := s.s.M) (draw := true) (K := fun s' => Qa .normal ⟨s', s.pend⟩) hp hT hG hc h hs.base fun s' a' w' I' σ' hk hst => hQ .normal ⟨s', s.pend⟩ a' w' I' σ' hk (hs.next hst)
  | seq x y ihx ihy =>
    intro hc Qa Qm s a w I σ h hs hQ
    simp only [codeOk, Bool.and_eq_true] at hc
    refine wpIn_seq (ihx hc.1 _ _ s a w I σ h hs fun e s' a' w' I' σ' hq hst => ?_)
    cases e with
    | normal => exact ihy hc.2 Qa Qm s' a' w' I' σ' hq hst hQ
    | exit id => exact hQ _ s' a' w' I' σ' hq hst
    | ret => exact hQ _ s' a' w' I' σ' hq hst
  | cond c x y ihx ihy =>
    intro hc Qa Qm s a w I σ h hs hQ
    simp only [codeOk, Bool.and_eq_true] at hc
    simp only [ywp] at h
    split at h
    · rename_i b hb
      have hv := opv_ok hs.st.envr c
      rw [hb] at hv
      simp only [VR] at hv
      exact wpIn_cond_split hv (fun ht => ihx hc.1 Qa Qm s a w I σ (h.t ht) hs hQ) fun hf => ihy hc.2 Qa Qm s a w I σ (h.f hf) hs hQ
    · exact h.elim
  | block id c ih =>
    intro hc Qa Qm s a w I σ h hs hQ
    simp only [codeOk] at hc
    refine wpIn_block (ih hc _ _ s a w I σ h hs fun e s' a' w' I' σ' hq hst => ?_)
    cases e with
    | normal => exact hQ .normal s' a' w' I' σ' hq hst
    | exit i =>
      simp only at hq
      simp only [AExit.to, Exit.inBlock]
      split at hq
      · rename_i hb
        rw [if_pos (Nat.eq_of_beq_eq_true hb)]
        exact hQ .normal s' a' w' I' σ' hq hst
      · rename_i hb
        rw [if_neg (Nat.ne_of_beq_eq_false hb)]
        exact hQ (.exit i) s' a' w' I' σ' hq hst
    | ret => exact hQ .ret s' a' w' I' σ' hq hst
  | loop c ih =>
    intro hc Qa Qm s a w I σ h hs hQ
    simp only [codeOk] at hc
    obtain ⟨ι, inv, μ, x, pend, start, round⟩ := h
    have into : ∀ {s1 s2 : AState} {a : Act} {w : World} {I : Nat → Prop} {σ : Sig}, Yst wb Ib σb Mb l D rec s1.env s1.M s1.nx none a w I σ → fit m s1 s2 → ∃ J τ, Yst wb Ib σb Mb l D rec s2.env s2.M s2.nx none a w J τ := by
      intro s1 s2 a w I σ hy hf
      obtain ⟨J, τ, h1, h2, h3⟩ := fit_ok2 hm hy.st hf
      refine ⟨J, τ, h1, ⟨hy.recd.here, fun q => hy.recd.own (h3 _ q), fun q => ?_⟩, ⟨hy.dfr.here, fun q => hy.dfr.own (h3 _ q), fun q => ?_⟩⟩
      · rcases h2 _ q with q | q
        · exact hy.recd.imm q
        · exact hy.recd.own q
      · rcases h2 _ q with q | q
        · exact hy.dfr.imm q
        · exact hy.dfr.own q
    refine wpIn_loop_ghost (fun n a w => ∃ x, μ x = n ∧ ∃ I σ, Yst wb Ib σb Mb l D rec (inv x).env (inv x).M (inv x).nx none a w I σ) (μ x) ⟨x, rfl, into (by rw [pend] at hs; exact hs) start⟩ ?_
    rintro n a w ⟨y, rfl, I, σ, hst⟩
    refine ih hc _ _ ⟨inv y, none⟩ a w I σ (round y) hst fun e s' a' w' I' σ' hq hst' => ?_
    cases e with
    | normal =>
      simp only at hq
      split at hq
      · rename_i hpn
        obtain ⟨z, hz, hf⟩ := hq
        exact ⟨μ z, hz, z, rfl, into (by rw [hpn] at hst'; exact hst') hf⟩
      · exact hq.elim
    | exit id => exact hQ (.exit id) s' a' w' I' σ' hq hst'
    | ret => exact hQ .ret s' a' w' I' σ' hq hst'
  | rangeFunc f ps asg b _ _ => intro _ Qa Qm s a w I σ h; exact h.elim
  | scope b _ => intro _ Qa Qm s a w I σ h; exact h.elim
  | label l => intro _ Qa Qm s a w I σ h; exact h.elim
  | goto l => intro _ Qa Qm s a w I σ h; exact h.elim
  | refuse y => intro _ Qa Qm s a w I σ h; exact h.elim
end
end Go.Am
/- A range over a function: the statement, and a function that holds it. -/
namespace Go.Am
set_option linter.all false
set_option linter.deprecated false
def codeOkR : Code → Bool
  | .region _ ops true => edgesOk ops.toList && slotsOk ops.toList
  | .seq a b => codeOkR a && codeOkR b
  | .cond _ a b => codeOkR a && codeOkR b
  | .block _ c => codeOkR c
  | .loop c => codeOkR c
  | .rangeFunc _ _ a b => codeOk a && codeOk b
  | _ => true
abbrev markOf (D : Nat) : Deferred := { target := .collected D, args := #[] }
section
variable {ds : List Deferred} {P : Program} {a : Act} {w w' w0 : World} {I I' I0 : Nat → Prop} {σ σ' σ0 : Sig} {M M' M0 : MS} {T : TT} {G : Ctx} {env : List AV} {key nx : Nat}
def Marks (B : Nat) (w : World) (I : Nat → Prop) (σ : Sig) (M : MS) (ds : List Deferred) : Prop := ∃ Ds : List Nat, ds = Ds.map markOf ∧ Ds.Nodup ∧ ∀ D ∈ Ds, B ≤ D ∧ Frn w I σ M D (.deferred (some []))
theorem Marks.ext {B : Nat} (h : Marks B w I σ M ds) (e : Ext w I σ M w' I' σ' M') : Marks B w' I' σ' M' ds := let ⟨Ds, h1, h2, h3⟩ := h; ⟨Ds, h1, h2, fun D hD => ⟨(h3 D hD).1, (h3 D hD).2.ext e⟩⟩
theorem Marks.of {B : Nat} {J : Nat → Prop} {τ : Sig} {N : MS} (h : Marks B w I σ M ds) (h2 : ∀ b, J b → I b ∨ Owned σ M b) (h3 : ∀ b, Owned τ N b → Owned σ M b) : Marks B w J τ N ds := by
  obtain ⟨Ds, e1, e2, e3⟩ := h
  refine ⟨Ds, e1, e2, fun D hD => ⟨(e3 D hD).1, (e3 D hD).2.here, fun q => (e3 D hD).2.own (h3 _ q), fun q => ?_⟩⟩
  rcases h2 _ q with q | q
  · exact (e3 D hD).2.imm q
  · exact (e3 D hD).2.own q
theorem finit_ok {args : List AV} {vs : List Value} (n : Nat) (h : VRs w I σ args vs) : EnvR w I σ (finit n args) (vs.toArray ++ Array.replicate (n - vs.toArray.size) undef) ∧ (finit n args).length ≤ (vs.toArray ++ Array.replicate (n - vs.toArray.size) undef).size := by
  have hlen := h.length
  refine ⟨fun t => ?_, ?_⟩
  · simp only [finit, lapp_get]
    by_cases ht : t < args.length
    · rw [if_pos ht]
      have := h.get t ht
      simp only [Array.getD_eq_getD_getElem?, List.getD] at this ⊢
      rw [Array.getElem?_append_left (by simp; omega)]
      simpa using this
    · rw [if_neg ht, uns_get]
      simp only [VR]
  · have e1 : (lapp args (uns (n - llen args))).length = args.length + (n - llen args) := by
      have : ∀ (xs ys : List AV), (lapp xs ys).length = xs.length + ys.length := by
        intro xs
        induction xs with
        | nil => simp [lapp]
        | cons x xs ih => intro ys; simp [lapp, ih]; omega
      rw [this, uns_len]
    have e2 := llen_eq args
    rw [finit, e1, Array.size_append, Array.size_replicate, List.size_toArray]
    omega
/-- the functions that may be ranged over -/
structure FnOk (P : Program) (g : Nat) (c : Code) (n : Nat) : Prop where
  func : ∃ fn : Func, P.funcs[g]? = some fn ∧ fn.body = some c ∧ fn.ntmps = n ∧ fn.results = #[] ∧ (fn.name == "runtime.NumGoroutine") = false
  code : codeOk c = true
def FnsOk (P : Program) (FT : Fns) : Prop := ∀ g c n, FT g = some (c, n) → FnOk P g c n
theorem rwp_ok {m : Nat} {FT : Fns} (hm : ∀ k, m ≤ k → σ0 k = none) (hp : P.follows .mixedOrders = true) (hT : ∀ t i, T t = some i → TIok P t i) (hG : ∀ f C, G f = some C → CSound P f C) (hFT : FnsOk P FT) :
    ∀ (c : Code), codeOkR c = true → ∀ (Qa : AExit → AState → Prop) (Qm : Exit → Act → World → Prop) (s : AState) (ds : List Deferred) (a : Act) (w : World) (I : Nat → Prop) (σ : Sig),
      rwp T G FT m c Qa s → St ds w0 I0 σ0 M0 s.env s.M s.nx a w I σ → Marks w0.heap.size w I σ s.M ds →
      (∀ e s' ds' a' w' I' σ', Qa e s' → St ds' w0 I0 σ0 M0 s'.env s'.M s'.nx a' w' I' σ' → Marks w0.heap.size w' I' σ' s'.M ds' → Qm e.to a' w') → c.wpIn (FW none) 0 P Qm a w := by
  intro c
  induction c with
  | skip => intro _ Qa Qm s ds a w I σ h hs hk hQ; exact wpIn_skip (hQ .normal s ds a w I σ h hs hk)
  | ret => intro _ Qa Qm s ds a w I σ h hs hk hQ; exact wpIn_ret (hQ .ret s ds a w I σ h hs hk)
  | exit id => intro _ Qa Qm s ds a w I σ h hs hk hQ; exact wpIn_exit (hQ (.exit id) s ds a w I σ h hs hk)
  | region id ops draw =>
    intro hc Qa Qm s ds a w I σ h hs hk hQ
    have hb : St ds w I σ s.M s.env s.M s.nx a w I σ := ⟨hs.envr, hs.len, hs.ok, hs.free, Ext.refl hs.ok, hs.def0⟩
    refine region_okIn (ρ := none) (ds := ds) (w0 := w) (I0 := I) (σ0 := σ) (M0 := s.M) (draw := draw) (K := fun s => Qa .normal s) hp hT hG (by cases draw <;> simpa [codeOkR, codeOk] using hc) (by simp only [rwp] at h; cases draw <;> exact h) hb fun s' a' w' I' σ' hq hst => ?_
    exact hQ .normal s' ds a' w' I' σ' hq ⟨hst.envr, hst.len, hst.ok, hst.free, hs.ext.trans hst.ext, hst.def0⟩ (hk.ext hst.ext)
  | seq x y ihx ihy =>
    intro hc Qa Qm s ds a w I σ h hs hk hQ
    simp only [codeOkR, Bool.and_eq_true] at hc
    refine wpIn_seq (ihx hc.1 _ _ s ds a w I σ h hs hk fun e s' ds' a' w' I' σ' hq hst hk' => ?_)
    cases e with
    | normal => exact ihy hc.2 Qa Qm s' ds' a' w' I' σ' hq hst hk' hQ
    | exit id => exact hQ _ s' ds' a' w' I' σ' hq hst hk'
    | ret => exact hQ _ s' ds' a' w' I' σ' hq hst hk'
  | cond c x y ihx ihy =>
    intro hc Qa Qm s ds a w I σ h hs hk hQ
    simp only [codeOkR, Bool.and_eq_true] at hc
    simp only [rwp] at h
    split at h
    · rename_i b hb
      have hv := opv_ok hs.envr c
      rw [hb] at hv
      simp only [VR] at hv
      exact wpIn_cond_split hv (fun ht => ihx hc.1 Qa Qm s ds a w I σ (h.t ht) hs hk hQ) fun hf => ihy hc.2 Qa Qm s ds a w I σ (h.f hf) hs hk hQ
    · exact h.elim
  | block id c ih =>
    intro hc Qa Qm s ds a w I σ h hs hk hQ
    simp only [codeOkR] at hc
    refine wpIn_block (ih hc _ _ s ds a w I σ h hs hk fun e s' ds' a' w' I' σ' hq hst hk' => ?_)
    cases e with
    | normal => exact hQ .normal s' ds' a' w' I' σ' hq hst hk'
    | exit i =>
      simp only at hq
      simp only [AExit.to, Exit.inBlock]
      split at hq
      · rename_i hb
        rw [if_pos (Nat.eq_of_beq_eq_true hb)]
        exact hQ .normal s' ds' a' w' I' σ' hq hst hk'
      · rename_i hb
        rw [if_neg (Nat.ne_of_beq_eq_false hb)]
        exact hQ (.exit i) s' ds' a' w' I' σ' hq hst hk'
    | ret => exact hQ .ret s' ds' a' w' I' σ' hq hst hk'
  | loop c ih =>
    intro hc Qa Qm s ds a w I σ h hs hk hQ
    simp only [codeOkR] at hc
    obtain ⟨ι, inv, μ, x, start, round⟩ := h
    have into : ∀ {s1 s2 : AState} {ds : List Deferred} {a : Act} {w : World} {I : Nat → Prop} {σ : Sig}, St ds w0 I0 σ0 M0 s1.env s1.M s1.nx a w I σ → Marks w0.heap.size w I σ s1.M ds → fit m s1 s2 → ∃ J τ, St ds w0 I0 σ0 M0 s2.env s2.M s2.nx a w J τ ∧ Marks w0.heap.size w J τ s2.M ds := by
      intro s1 s2 ds a w I σ hy hk hf
      obtain ⟨J, τ, h1, h2, h3⟩ := fit_ok2 hm hy hf
      exact ⟨J, τ, h1, hk.of h2 h3⟩
    refine wpIn_loop_ghost (fun n a w => ∃ x, μ x = n ∧ ∃ ds I σ, St ds w0 I0 σ0 M0 (inv x).env (inv x).M (inv x).nx a w I σ ∧ Marks w0.heap.size w I σ (inv x).M ds) (μ x) ⟨x, rfl, ds, into hs hk start⟩ ?_
    rintro n a w ⟨y, rfl, ds, I, σ, hst, hk⟩
    refine ih hc _ _ (inv y) ds a w I σ (round y) hst hk fun e s' ds' a' w' I' σ' hq hst' hk' => ?_
    cases e with
    | normal =>
      obtain ⟨z, hz, hf⟩ := hq
      exact ⟨μ z, hz, z, rfl, ds', into hst' hk' hf⟩
    | exit id => exact hQ (.exit id) s' ds' a' w' I' σ' hq hst' hk'
    | ret => exact hQ .ret s' ds' a' w' I' σ' hq hst' hk'
  | rangeFunc f ps asg b _ _ =>
    intro hc Qa Qm s ds a w I σ h hs hk hQ
    simp only [codeOkR, Bool.and_eq_true] at hc
    simp only [rwp] at h
    split at h <;> (try exact h.elim)
    rename_i g caps hfv
    split at h <;> (try exact h.elim)
    rename_i c n hg
    have hv := opv_ok hs.envr f
    rw [hfv] at hv
    simp only [VR] at hv
    obtain ⟨us, hus, hcaps⟩ := hv
    obtain ⟨⟨fn, hfn, hbody, rfl, hres, hname⟩, hcode⟩ := hFT g c n hg
    refine wpIn_rangeFunc ?_
    intro fc _
    obtain ⟨W1, hW1⟩ : ∃ W1, W1 = (w.alloc (.deferred (some []))).alloc (.loop (recOf fc a.tmps ps asg b w.heap.size none)) := ⟨_, rfl⟩
    have hz1 : (w.alloc (.deferred (some []))).heap.size = w.heap.size + 1 := World.size_alloc ..
    have s1 : Side w I σ s.M (w.alloc (.deferred (some []))) := Side.alloc hs.ok _
    have ok1 := s1.ok hs.ok
    have s2 : Side (w.alloc (.deferred (some []))) I σ s.M W1 := by rw [hW1]; exact Side.alloc ok1 _
    have d1 : Frn (w.alloc (.deferred (some []))) I σ s.M w.heap.size (.deferred (some [])) := Frn.new hs.ok _
    have at1 : ∀ b, b < w.heap.size → (w.alloc (.deferred (some []))).heap[b]? = w.heap[b]? := fun b hb => by
      show (w.heap.push _)[b]? = _
      rw [Array.getElem?_push, if_neg (by omega)]
    have at2 : ∀ b, b < w.heap.size + 1 → W1.heap[b]? = (w.alloc (.deferred (some []))).heap[b]? := fun b hb => by
      rw [hW1]
      show ((w.alloc _).heap.push _)[b]? = _
      rw [Array.getElem?_push, if_neg (by omega)]
    have d2 : Frn W1 I σ s.M w.heap.size (.deferred (some [])) := d1.side (at2 _ (by omega))
    have r2 : Frn W1 I σ s.M (w.heap.size + 1) (.loop (recOf fc a.tmps ps asg b w.heap.size none)) := by
      have := Frn.new (o := .loop (recOf fc a.tmps ps asg b w.heap.size none)) ok1
      rw [hz1] at this
      rw [hW1]; exact this
    have x2 : Ext w I σ s.M W1 I σ s.M := s2.ext (s1.ext (Ext.refl hs.ok) at1) fun b hb => at2 b (by omega)
    have K2 : Keep w I σ W1 I σ := s1.keep.tr s2.keep
    refine ⟨w.heap.size + 1, [markOf w.heap.size], W1, { target := .fn (.func g) us, args := #[.func (.yield (w.heap.size + 1)) #[] #[]] }, W1, g, #[.func (.yield (w.heap.size + 1)) #[] #[]] ++ us, W1, ?_, ?_, fun f' _ => FW_fn none f', ?_, fun q => (by rw [FW_depth] at q; cases q), ?_⟩
    · rw [hW1, FW_round]; exact run_enterLoop_outer _ _ _ _ _
    · simp [resolve, hus, Deferred.ofValue]
      rfl
    · simp only [invoke, callFunc, Sem.run_bind, run_program, Result.andThen_ok, hfn, hname, hbody, Option.isNone_some, Bool.false_eq_true, if_false, Sem.run_pure]
    · have hy := h (w.heap.size + 1)
      have hH : HdOk P w I σ s.M (w.heap.size + 1) w.heap.size (recOf fc a.tmps ps asg b w.heap.size) (bodyH T G asg b s.env ps.toList) :=
        bodyH_ok hp hT hG hc.1 hc.2 hs.ok hs.envr hs.len (Nat.le_refl _) (by omega) (by omega)
      have hargs : VRs W1 I σ (lapp [.yl (w.heap.size + 1)] caps) (.func (.yield (w.heap.size + 1)) #[] #[] :: us.toList) := by
        simp only [lapp, VRs]
        exact ⟨_, _, rfl, by simp only [VR], VRs.keep K2 _ _ hcaps⟩
      obtain ⟨f1, f2⟩ := finit_ok fn.ntmps hargs
      have ez : (#[.func (.yield (w.heap.size + 1)) #[] #[]] ++ us : Array Value) = (.func (.yield (w.heap.size + 1)) #[] #[] :: us.toList).toArray := by
        apply Array.ext'; simp
      rw [ez]
      refine callsIn_of_wp (F := FW none) hfn hbody (FW_fn none _) ?_
      refine ywp_ok (m := s.nx) hs.free hp hT hG hH c hcode _ _ ⟨⟨finit fn.ntmps (lapp [.yl (w.heap.size + 1)] caps), s.M, s.nx⟩, none⟩ _ W1 I σ hy ⟨⟨f1, f2, s2.ok ok1, hs.free, x2, rfl⟩, r2, d2⟩ fun e ys a' w' I' σ' hq hst => ?_
      have hst' := hst
      have x3 := hst.st.ext
      obtain ⟨w4, hw4⟩ : ∃ w4, w4 = w'.putObj (w.heap.size + 1) (.loop { recOf fc a.tmps ps asg b w.heap.size ys.pend with state := .exhausted }) := ⟨_, rfl⟩
      have s4 : Side w' I' σ' ys.s.M w4 := by rw [hw4]; exact Side.putObj hst.recd _
      have done : (match ys.pend with
            | none => Qa .normal ⟨s.env, ys.s.M, ys.s.nx⟩
            | some p => Qa p ⟨s.env, ys.s.M, ys.s.nx⟩) → a'.defers = [] ∧ ∃ v, (results fn a'.tmps).run P w' = .ok v w' ∧ rangePost (FW none) 0 P (w.heap.size + 1) Qm { a with defers := [markOf w.heap.size] ++ a.defers } (.returned v) w' := by
        intro hq
        refine ⟨hst.st.def0, .tuple #[], ?_, ?_⟩
        · simp [results, hres]
        · refine ⟨_, w4, by rw [hw4]; exact run_endLoop hst.recd.here (by cases ys.pend <;> simp [recOf]), ?_⟩
          have go : ∀ p, Qa p ⟨s.env, ys.s.M, ys.s.nx⟩ → Qm p.to { a with defers := [markOf w.heap.size] ++ a.defers } w4 := by
            intro p hq
            refine hQ p ⟨s.env, ys.s.M, ys.s.nx⟩ (markOf w.heap.size :: ds) _ w4 I' σ' hq ⟨?_, hs.len, s4.ok hst.st.ok, hst.st.free, ?_, ?_⟩ ?_
            · exact (hs.envr.keep (x3.keep hs.ok)).keep s4.keep
            · refine s4.ext (hs.ext.trans x3) fun c hc => ?_
              have := hs.ext.size
              rw [hw4]; exact World.putObj_heap_other (by omega)
            · show [markOf w.heap.size] ++ a.defers = _
              rw [hs.def0]; rfl
            · obtain ⟨Ds, e1, e2, e3⟩ := hk
              refine ⟨w.heap.size :: Ds, by rw [e1]; rfl, List.nodup_cons.2 ⟨fun hm => absurd (e3 _ hm).2.lt (by omega), e2⟩, fun D hD => ?_⟩
              have hne : D ≠ w.heap.size + 1 := by
                rcases List.mem_cons.1 hD with rfl | hD
                · omega
                · have := (e3 D hD).2.lt; omega
              rcases List.mem_cons.1 hD with rfl | hD
              · exact ⟨hs.ext.size, hst.dfr.side (by rw [hw4]; exact World.putObj_heap_other hne)⟩
              · exact ⟨(e3 D hD).1, ((e3 D hD).2.ext x3).side (by rw [hw4]; exact World.putObj_heap_other hne)⟩
          cases hpd : ys.pend with
          | none => rw [hpd] at hq; exact go .normal hq
          | some p =>
            rw [hpd] at hq
            cases p with
            | normal => exact wpIn_skip (go _ hq)
            | exit id => exact wpIn_exit (go _ hq)
            | ret => exact wpIn_ret (go _ hq)
      cases e with
      | normal => exact done hq
      | ret => exact done hq
      | exit id => exact hq.elim
  | scope b _ => intro _ Qa Qm s ds a w I σ h; exact h.elim
  | label l => intro _ Qa Qm s ds a w I σ h; exact h.elim
  | goto l => intro _ Qa Qm s ds a w I σ h; exact h.elim
  | refuse y => intro _ Qa Qm s ds a w I σ h; exact h.elim
end
end Go.Am
/- A function that ranges over functions keeps its contract. -/
namespace Go.Am
set_option linter.all false
set_option linter.deprecated false
section
variable {ds : List Deferred} {P : Program} {a : Act} {w w' w0 : World} {I I' I0 : Nat → Prop} {σ σ' σ0 : Sig} {M M' M0 : MS} {T : TT} {G : Ctx} {env : List AV} {key nx : Nat}
/-- the marks are taken off, one behind the other -/
theorem marks_leave {fn : Func} {tmps : Array Value} {R : Ending → World → Prop} : ∀ (Ds : List Nat) (w : World), Ok w I σ M → Ds.Nodup → (∀ D ∈ Ds, Frn w I σ M D (.deferred (some []))) →
    (∀ w', Side w I σ M w' → (∀ b, b ∉ Ds → w'.heap[b]? = w.heap[b]?) → ∃ v, (results fn tmps).run P w' = .ok v w' ∧ R (.returned v) w') → LeavesInM (FW none) 0 P fn tmps R (Ds.map markOf) .returning w
  | [], w, _, _, _, h => h w ⟨rfl, rfl, rfl, Nat.le_refl _, fun _ _ => rfl⟩ fun _ _ => rfl
  | D :: Ds, w, hok, hd, hD, h => by
    have h0 := hD D List.mem_cons_self
    have hn := List.nodup_cons.1 hd
    have s : Side w I σ M (w.putObj D (.deferred none)) := Side.putObj h0 _
    refine ⟨by simp, .inl ⟨D, w.putObj D (.deferred none), rfl, run_takeDeferred h0.here, ?_⟩⟩
    refine marks_leave Ds _ (s.ok hok) hn.2 (fun E hE => (hD E (List.mem_cons_of_mem _ hE)).side (World.putObj_heap_other (fun q => hn.1 (by rw [← q]; exact hE)))) fun w' hs hb => ?_
    refine h w' ⟨hs.os.trans s.os, hs.tape.trans s.tape, hs.output.trans s.output, Nat.le_trans s.size hs.size, fun b hb => (hs.blk b hb).trans (s.blk b hb)⟩ fun b hnb => ?_
    simp only [List.mem_cons, not_or] at hnb
    exact (hb b hnb.2).trans (World.putObj_heap_other hnb.1)
theorem fsoundR {f : FuncId} {fn : Func} {c : Code} {C : Contract} {FT : Fns} (hp : P.follows .mixedOrders = true) (hT : ∀ t i, T t = some i → TIok P t i) (hG : ∀ f C, G f = some C → CSound P f C) (hFT : FnsOk P FT)
    (hf : P.funcs[f]? = some fn) (hb : fn.body = some c) (hc : codeOkR c = true) (hn : (fn.name == "runtime.NumGoroutine") = false)
    (h : ∀ args M r, C.fn args M = some r → (∀ p ∈ r.vc, p ()) → WfVs args → (nodupK M → WfM M) →
      rwp T G FT M.length c (fun e s => fend T M.length fn.results.toList r.val (mapply M r.objs) e s) ⟨finit fn.ntmps args, M, M.length⟩) (hn0 : ∀ args M, C.nfn args M = none := by intros; rfl) : CSound P f C := by
  refine ⟨fun args M r hr hvc => ?_, fun args M r hr => by rw [hn0] at hr; cases hr⟩
  intro w I σ vs hok hfree hargs o a K Q hK
  have hrun : (callFunc f vs.toArray).run P w = .ok (.enter f vs.toArray) w := by
    simp only [callFunc, Sem.run_bind, run_program, Result.andThen_ok, hf, hn, hb, Option.isNone_some, Bool.false_eq_true, if_false, Sem.run_pure]
  rw [hrun]
  show Calls P f vs.toArray w _
  refine (callsIn_wide (n := 0)).1 ?_
  refine callsIn_of_wp_marks (F := FW none) hf hb (FW_fn none _) ?_
  obtain ⟨f1, f2⟩ := finit_ok fn.ntmps hargs
  have hst : St [] w I σ M (finit fn.ntmps args) M M.length { tmps := vs.toArray ++ Array.replicate (fn.ntmps - vs.toArray.size) undef, defers := [] } w I σ :=
    ⟨f1, f2, hok, hfree, Ext.refl hok, rfl⟩
  refine rwp_ok hfree hp hT hG hFT c hc _ _ _ [] _ _ I σ (h args M r hr hvc hargs.wf fun hd => hok.wfM M (fun _ _ h => h) hd) hst ⟨[], rfl, List.nodup_nil, fun _ h => by cases h⟩ fun e s' ds' a' w' I' σ' hq hst' hk' => ?_
  have done : (match resVs T s'.M s'.env fn.results.toList with
    | none => False
    | some vs => fit M.length ⟨[oneOr vs], s'.M, s'.nx⟩ ⟨[r.val], mapply M r.objs, M.length + 8⟩) → LeavesInM (FW none) 0 P fn a'.tmps (fun
      | .returned v, w'' => K (a.put o.dst v) w''
      | .panicked chain, w'' => Q (.panic chain) a w''
      | .outgrown, _ => LetsOut Q) a'.defers .returning w' := by
    intro hq
    obtain ⟨Ds, e1, e2, e3⟩ := hk'
    rw [hst'.def0, e1]
    refine marks_leave Ds w' hst'.ok e2 (fun D hD => (e3 D hD).2) fun w'' hs hbl => ?_
    have hst2 : St ds' w I σ M s'.env s'.M s'.nx a' w'' I' σ' := hs.st hst' fun b hb => hbl b fun hm => by have := (e3 b hm).1; omega
    have hst2 : St [] w I σ M s'.env s'.M s'.nx { a' with defers := [] } w'' I' σ' := ⟨hst2.envr, hst2.len, hst2.ok, hst2.free, hst2.ext, rfl⟩
    split at hq
    · exact hq.elim
    · rename_i vs' hvs
      obtain ⟨us, g2, g1⟩ := resVs_ok (P := P) (a := a') hT hst2.ok hst2.envr _ _ hvs
      have hus := g2.length
      obtain ⟨v, g3, g4⟩ : ∃ v, (results fn a'.tmps).run P w'' = .ok v w'' ∧ VR w'' I' σ' (oneOr vs') v := by
        refine ⟨if h : us.toArray.size = 1 then us.toArray[0] else .tuple us.toArray, ?_, ?_⟩
        · simp only [results, Sem.run_bind, Array.mapM_eq_mapM_toList, Sem.run_map]
          rw [g1 _ (fun _ => rfl) (fun _ _ => rfl)]
          rfl
        · cases vs' with
          | nil =>
            cases us with
            | nil => simp only [oneOr, VR]; exact ⟨#[], by simp, by simp only [VRs]⟩
            | cons u us => simp at hus
          | cons v vs' =>
            cases vs' with
            | nil =>
              simp only [VRs] at g2
              obtain ⟨u, us', rfl, h1, rfl⟩ := g2
              simpa [oneOr] using h1
            | cons v2 vs' =>
              have hne : ¬ us.toArray.size = 1 := by simp; simp at hus; omega
              rw [dif_neg hne]
              simp only [oneOr, VR]
              exact ⟨us.toArray, rfl, g2⟩
      refine ⟨v, g3, ?_⟩
      have hst3 : St [] w I σ M [oneOr vs'] s'.M s'.nx { tmps := #[v], defers := [] } w'' I' σ' := by
        refine ⟨fun t => ?_, by simp, hst2.ok, hst2.free, hst2.ext, rfl⟩
        cases t with
        | zero => exact g4
        | succ t => simp only [lget, VR]
      obtain ⟨J, τ, hf3⟩ := fit_ok (s := ⟨[oneOr vs'], s'.M, s'.nx⟩) hfree hst3 hq
      exact hK v w'' ⟨J, τ, hf3.envr 0, hf3.ok, hf3.ext⟩
  cases e with
  | normal => exact done hq
  | ret => exact done hq
  | exit id => exact hq.elim
end
end Go.Am
/- frame's reader: to, next; All and Split keep their contracts. -/
namespace Go.Am
set_option linter.all false
set_option linter.deprecated false
open Go.Proofs
set_option maxRecDepth 100000
set_option maxHeartbeats 4000000
theorem fgetG_fit {x : List (List D)} {a : Int} {g : Nat × Int × Int} (h0 : 0 ≤ a) (hf : g.2.2 = 0 → 0 ≤ a + 1 ∧ a + 1 < g.2.1 ∧ g.2.1 ≤ (x.length : Int) ∧ g.1 < 18446744073709551616) (h : (fgetG x a g).r = 0) :
    0 ≤ a ∧ a + 6 ≤ (fgetG x a g).n ∧ (fgetG x a g).n ≤ (x.length : Int) ∧ (fgetG x a g).p.length ≤ x.length := by
  by_cases h1 : g.2.2 = 10
  · simp only [fgetG, if_pos h1] at h
    exact absurd h (by decide)
  · by_cases h2 : g.2.2 = 0 ∧ 4 ≤ (x.length : Int) - g.2.1 ∧ (g.1 : Int) ≤ (x.length : Int) - g.2.1 - 4
    · by_cases h3 : bn (ckR ((x.drop a.toNat).take ((g.2.1 + g.1).toNat - a.toNat))) = bn ((x.drop (g.2.1 + g.1).toNat).take 4)
      · simp only [fgetG, if_neg h1, if_pos h2, if_pos h3]
        clear h3 h
        have hf := hf h2.1
        obtain ⟨q1, q2, q3, q4⟩ := hf
        obtain ⟨r1, r2, r3⟩ := h2
        refine ⟨h0, by omega, by omega, ?_⟩
        rw [List.length_take, List.length_drop]; omega
      · simp only [fgetG, if_neg h1, if_pos h2, if_neg h3] at h
        exact absurd h (by decide)
    · simp only [fgetG, if_neg h1, if_neg h2] at h
      exact absurd h (by decide)
theorem fgetR_fit {x : List (List D)} {a : Int} (h : (fgetR x a).r = 0) : 0 ≤ a ∧ a + 6 ≤ (fgetR x a).n ∧ (fgetR x a).n ≤ (x.length : Int) ∧ (fgetR x a).p.length ≤ x.length := by
  by_cases h1 : a < 0 ∨ (x.length : Int) ≤ a
  · simp only [fgetR, if_pos h1] at h
    exact absurd h (by decide)
  · simp only [fgetR, if_neg h1] at h ⊢
    refine fgetG_fit (by clear h; omega) (fun he => ?_) h
    have hf := @getS_fit (bn x) (a + 1) he
    rw [show (bn x).length = x.length by simp] at hf
    exact hf
theorem fgetG_bad {x : List (List D)} {a : Int} {g : Nat × Int × Int} (h : ¬ (fgetG x a g).r = 0) : fgetG x a g = ⟨0, [], 0, (fgetG x a g).r⟩ := by
  by_cases h1 : g.2.2 = 10
  · simp only [fgetG, if_pos h1]
  · by_cases h2 : g.2.2 = 0 ∧ 4 ≤ (x.length : Int) - g.2.1 ∧ (g.1 : Int) ≤ (x.length : Int) - g.2.1 - 4
    · by_cases h3 : bn (ckR ((x.drop a.toNat).take ((g.2.1 + g.1).toNat - a.toNat))) = bn ((x.drop (g.2.1 + g.1).toNat).take 4)
      · simp only [fgetG, if_neg h1, if_pos h2, if_pos h3] at h
        exact absurd trivial h
      · simp only [fgetG, if_neg h1, if_pos h2, if_neg h3]
    · simp only [fgetG, if_neg h1, if_neg h2]
theorem fgetR_bad {x : List (List D)} {a : Int} (h : ¬ (fgetR x a).r = 0) : fgetR x a = ⟨0, [], 0, (fgetR x a).r⟩ := by
  by_cases h1 : a < 0 ∨ (x.length : Int) ≤ a
  · simp only [fgetR, if_pos h1]
  · simp only [fgetR, if_neg h1] at h ⊢
    exact fgetG_bad h
def ftoC : Contract := { modes := [.mut, .ro], fn := fun args M => match args, M with
  | [.mp 0 0, .int .i64 v], [(0, .obj [.int .i64 _, .ms 1 lo len]), (1, .row false [.int .u8] _)] => some ⟨[], .tup [], [(0, some (.obj [.int .i64 v, .ms 1 lo len]))]⟩
  | _, _ => none }
theorem fto_ok : CSound Try.prog 90 ftoC := by
  refine fsound' (G := G0) (c := codeOf Try.f90) mixed tyT (gget_nil _) Try.func90 (by rfl) (by kernel_rfl) (by kernel_rfl) fun args M r hr hvc hw hm => ?_
  unfold ftoC at hr
  simp only at hr
  split at hr <;> cases hr
  rename_i v a lo len xs
  clear hvc hm hw
  conv => cbv
  simp [Hold.iff]
def fnextC : Contract := { modes := [.mut], fn := fun args M => match args, M with
  | [.mp 0 0], [(0, .obj [.int .i64 a, .ms 1 lo len]), (1, .row false [.int .u8] xs)] => some ⟨[fun _ => lo () = 0 ∧ len () = (xs ()).length ∧ (xs ()).length + 64 ≤ big],
      .tup [.agg [.int .u8 fun _ => (fgetR (xs ()) (a ())).k, .ms 2 (fun _ => 0) fun _ => (fgetR (xs ()) (a ())).p.length, .int .i64 a, .int .i64 fun _ => (fgetR (xs ()) (a ())).n], .int .i64 fun _ => (fgetR (xs ()) (a ())).r],
      [(0, some (.obj [.int .i64 fun _ => (fgetR (xs ()) (a ())).n, .ms 1 lo len])), (2, some (.row false U8 fun _ => (fgetR (xs ()) (a ())).p))]⟩
  | _, _ => none }
def LGfn : List (Nat × Contract) := [(60, fgetC), (90, ftoC)]
def Gfn : Ctx := fun f => gget LGfn f
theorem Gfn_ok : ∀ f C, Gfn f = some C → CSound Try.prog f C := gget_cons fget_ok (gget_cons fto_ok (gget_nil _))
theorem fnext_ok : CSound Try.prog 86 fnextC := by
  refine fsound' (G := Gfn) (c := codeOf Try.f86) mixed tyT Gfn_ok Try.func86 (by rfl) (by kernel_rfl) (by kernel_rfl) fun args M r hr hvc hw hm => ?_
  unfold fnextC at hr
  simp only at hr
  split at hr <;> cases hr
  rename_i a lo len x
  have hb : lo () = 0 ∧ len () = (x ()).length ∧ (x ()).length + 64 ≤ big := hvc _ (List.mem_singleton.2 rfl)
  clear hvc hm hw
  have hx : lo = fun _ => lo () := rfl
  generalize lo () = lo at hx hb
  subst hx
  have hx : len = fun _ => len () := rfl
  generalize len () = len at hx hb
  subst hx
  have hx : x = fun _ => x () := rfl
  generalize x () = x at hx hb
  subst hx
  have hx : a = fun _ => a () := rfl
  generalize a () = a at hx
  subst hx
  have h1 := hb.1
  have h2 := hb.2.1
  have hb := hb.2.2
  subst h1 h2
  have ht : List.take x.length (List.drop 0 x) = x := by simp
  conv => cbv
  rw [ht]
  generalize fgetR x a = f
  simp [Hold.iff, hb]
def fallC : Contract := { modes := [.ro], fn := fun args M => match args, M with
  | [.nils], [] => some ⟨[], .fn 85 [.mp 0 0], [(0, some (.obj [.ms 1 (fun _ => 0) fun _ => 0])), (1, some (.row false U8 fun _ => []))]⟩
  | [.sl _ [.int .u8] xs], [] => some ⟨[fun _ => (xs ()).length ≤ big], .fn 85 [.mp 0 0], [(0, some (.obj [.ms 1 (fun _ => 0) fun _ => (xs ()).length])), (1, some (.row false U8 xs))]⟩
  | _, _ => none }
def LGfa : List (Nat × Contract) := [(80, cloneC)]
def Gfa : Ctx := fun f => gget LGfa f
theorem Gfa_ok : ∀ f C, Gfa f = some C → CSound Try.prog f C := gget_cons sclone_ok (gget_nil _)
theorem fall_ok : CSound Try.prog 59 fallC := by
  refine fsound' (G := Gfa) (c := codeOf Try.f59) mixed tyT Gfa_ok Try.func59 (by rfl) (by kernel_rfl) (by kernel_rfl) fun args M r hr hvc hw hm => ?_
  unfold fallC at hr
  simp only at hr
  split at hr <;> cases hr
  · clear hvc hm hw
    conv => cbv
    simp [Hold.iff]
  · rename_i nn x
    have hb : (x ()).length ≤ big := hvc _ (List.mem_singleton.2 rfl)
    clear hvc hm hw
    conv => cbv
    refine ⟨⟨hb⟩, ?_⟩
    simp [Hold.iff]
end Go.Am
/- frame.Split keeps its contract. -/
namespace Go.Am
set_option linter.all false
set_option linter.deprecated false
open Go.Proofs
set_option maxRecDepth 100000
set_option maxHeartbeats 4000000
abbrev PlS : List Sh := [.int .u8, .slice [.int .u8], .int .i64, .int .i64]
def plc (f : FG) (a : Int) : List D := [D.int f.k, D.list f.p, D.int a, D.int f.n]
/-- the frames from a place on -/
def fspl (x : List (List D)) : Nat → Int → List (List D) → List (List D) × Int × Int
  | 0, a, o => (o, a, 0)
  | f + 1, a, o => if a < (x.length : Int) then (if (fgetR x a).r = 0 then fspl x f (fgetR x a).n (o ++ [plc (fgetR x a) a]) else (o, a, (fgetR x a).r)) else (o, (x.length : Int), 0)
def fspR (x : List (List D)) : List (List D) × Int × Int := fspl x (x.length + 1) 0 []
structure SpY (x : List (List D)) where
  f : Nat
  a : Int
  o : List (List D)
  h0 : 0 ≤ a
  h1 : a ≤ (x.length : Int)
  hf : (x.length : Int) - a < (f : Int)
  ho : (o.length : Int) ≤ a
  e : fspl x f a o = fspR x
theorem SpY.next {x : List (List D)} (s : SpY x) (h : s.a < (x.length : Int)) (hr : (fgetR x s.a).r = 0) : ∃ s' : SpY x, s'.a = (fgetR x s.a).n ∧ s'.o = s.o ++ [plc (fgetR x s.a) s.a] ∧ s'.f < s.f := by
  have hg := fgetR_fit hr
  obtain ⟨f, a, o, h0, h1, hf, ho, e⟩ := s
  simp only at h hr hg ⊢
  cases f with
  | zero => exact absurd hf (by omega)
  | succ f =>
    rw [fspl, if_pos h, if_pos hr] at e
    exact ⟨⟨f, _, _, by omega, hg.2.2.1, by omega, by simp only [List.length_append, List.length_singleton]; omega, e⟩, rfl, rfl, Nat.lt_succ_self f⟩
theorem SpY.bad {x : List (List D)} (s : SpY x) (h : s.a < (x.length : Int)) (hr : ¬ (fgetR x s.a).r = 0) : fspR x = (s.o, s.a, (fgetR x s.a).r) := by
  obtain ⟨f, a, o, h0, h1, hf, ho, e⟩ := s
  simp only at h hr ⊢
  cases f with
  | zero => exact absurd hf (by omega)
  | succ f =>
    rw [fspl, if_pos h, if_neg hr] at e
    exact e.symm
theorem SpY.done {x : List (List D)} (s : SpY x) (h : ¬ s.a < (x.length : Int)) : fspR x = (s.o, (x.length : Int), 0) := by
  obtain ⟨f, a, o, h0, h1, hf, ho, e⟩ := s
  simp only at h ⊢
  cases f with
  | zero => exact absurd hf (by omega)
  | succ f =>
    rw [fspl, if_neg h] at e
    exact e.symm
def fsplitC : Contract := { modes := [.ro], fn := fun args M => match args, M with
  | [.sl _ [.int .u8] xs], [] => some ⟨[fun _ => (xs ()).length + 64 ≤ big],
      .tup [.ms 0 (fun _ => 0) fun _ => (fspR (xs ())).1.length, .int .i64 fun _ => (fspR (xs ())).2.1, .int .i64 fun _ => (fspR (xs ())).2.2],
      [(0, some (.row false PlS fun _ => (fspR (xs ())).1))]⟩
  | _, _ => none }
noncomputable def FTf : Fns := fun g => match Nat.beq g 85 with | true => some (codeOf Try.f85, 34) | false => none
theorem FTf_ok : FnsOk Try.prog FTf := by
  intro g c n h
  unfold FTf at h
  split at h <;> (try (cases h; done))
  rename_i hg
  have hg := Nat.eq_of_beq_eq_true hg
  subst hg
  cases h
  exact ⟨⟨Try.f85, Try.func85, by rfl, by kernel_rfl, by kernel_rfl, by kernel_rfl⟩, by kernel_rfl⟩
def LGfz : List (Nat × Contract) := [(59, fallC), (86, fnextC)]
def Gfz : Ctx := fun f => gget LGfz f
theorem Gfz_ok : ∀ f C, Gfz f = some C → CSound Try.prog f C := gget_cons fall_ok (gget_cons fnext_ok (gget_nil _))
theorem fsplit_ok : CSound Try.prog 63 fsplitC := by
  refine fsoundR (G := Gfz) (FT := FTf) (c := codeOf Try.f63) mixed tyT Gfz_ok FTf_ok Try.func63 (by rfl) (by kernel_rfl) (by kernel_rfl) fun args M r hr hvc hw hm => ?_
  unfold fsplitC at hr
  simp only at hr
  split at hr <;> cases hr
  rename_i nn x
  have hb : (x ()).length + 64 ≤ big := hvc _ (List.mem_singleton.2 rfl)
  clear hvc hm hw
  have hx : x = fun _ => x () := rfl
  generalize x () = x at hx hb
  subst hx
  have v1 : x.length ≤ big := by omega
  conv => cbv
  refine ⟨⟨v1⟩, ?_⟩
  intro l
  have hl : Nat.beq l l = true := Nat.beq_refl l
  conv at hl => lhs; cbv
  conv => cbv
  refine YLoopP.mk (SpY x) (fun s => ⟨ev 34 [(0, .yl l), (1, .mp 32 0), (3, .mp 42 0)],
    [(0, .obj [.ms 41 (fun _ => 0) fun _ => s.o.length]), (8, .obj [.int .i64 fun _ => 0]), (16, .obj [.int .i64 fun _ => 0]), (32, .obj [.ms 33 (fun _ => 0) fun _ => x.length]), (33, .row false U8 fun _ => x), (41, .row false PlS fun _ => s.o), (42, .obj [.int .i64 fun _ => s.a, .ms 33 (fun _ => 0) fun _ => x.length])], 48⟩) (fun s => s.f) ⟨x.length + 1, 0, [], by omega, by omega, by omega, by simp, rfl⟩ rfl ?_ ?_
  · conv => cbv
    rw [hl]
    conv => cbv
    simp [Hold.iff]
  · intro s
    have hs1 := s.h1
    have hs0 := s.h0
    have hso := s.ho
    conv => cbv
    refine .d (fun h => ?_) (fun h => ?_)
    · conv => cbv
      rw [hl]
      conv => cbv
      refine ⟨⟨(by simp [hb])⟩, ?_⟩
      by_cases hr : (fgetR x s.a).r = 0
      · refine .ofF (by simp [hr]) ?_
        have hf := fgetR_fit hr
        have hn := (s.next h hr).choose_spec
        generalize (s.next h hr).choose = y at hn
        have hna := hn.1
        have hno := hn.2.1
        conv => cbv
        refine ⟨⟨(by simp)⟩, ?_⟩
        refine ⟨⟨(by simp)⟩, ?_⟩
        refine ⟨⟨(by simp)⟩, ?_⟩
        refine ⟨⟨(by simp; omega)⟩, ?_⟩
        refine ⟨⟨(by simp [chunk])⟩, ?_⟩
        refine .ofF rfl ?_
        conv => cbv
        refine .ofF (by simp [hr]) ?_
        conv => cbv
        refine ⟨y, hn.2.2, ?_⟩
        conv => cbv
        rw [hl]
        conv => cbv
        rw [hna, hno]
        simp [Hold.iff, chunk, plc, dall]
      · refine .ofT (by simp [hr]) ?_
        have hn := s.bad h hr
        have hn2 := fgetR_bad hr
        conv => cbv
        refine .ofT rfl ?_
        conv => cbv
        refine .ofT rfl ?_
        conv => cbv
        rw [hn]
        simp [Hold.iff]
    · have hn := s.done h
      conv => cbv
      rw [hn]
      simp [Hold.iff]
end Go.Am
/- alibilaw03.works keeps its contract: it returns true. -/
namespace Go.Am
set_option linter.all false
set_option linter.deprecated false
open Go.Proofs
set_option maxRecDepth 100000
set_option maxHeartbeats 4000000
def fgetC' : Contract := { modes := [.ro, .ro], fn := fun args M => match args, M with
  | [.nils, .int .i64 a], [] => some ⟨[],
      .tup [.agg [.int .u8 fun _ => (fgetR [] (a ())).k, .ms 0 (fun _ => 0) fun _ => (fgetR [] (a ())).p.length], .int .i64 fun _ => (fgetR [] (a ())).n, .int .i64 fun _ => (fgetR [] (a ())).r],
      [(0, some (.row false U8 fun _ => (fgetR [] (a ())).p))]⟩
  | [.sl _ [.int .u8] xs, .int .i64 a], [] => some ⟨[fun _ => (xs ()).length + 64 ≤ big],
      .tup [.agg [.int .u8 fun _ => (fgetR (xs ()) (a ())).k, .ms 0 (fun _ => 0) fun _ => (fgetR (xs ()) (a ())).p.length], .int .i64 fun _ => (fgetR (xs ()) (a ())).n, .int .i64 fun _ => (fgetR (xs ()) (a ())).r],
      [(0, some (.row false U8 fun _ => (fgetR (xs ()) (a ())).p))]⟩
  | _, _ => none }
theorem fget_ok' : CSound Try.prog 60 fgetC' := by
  have h := fget_ok
  have h2 : CSound Try.prog 60 { fgetC with modes := [.ro, .ro] } := ⟨h.det, h.nd⟩
  refine csound_weak h2 fun args M r hr hvc hw => ?_
  unfold fgetC' at hr
  simp only at hr
  split at hr <;> cases hr
  · rename_i a
    refine ⟨[.sl false U8 fun _ => [], .int .i64 a], _, rfl, by simp [big], rfl, rfl, fun w I σ vs h => ?_⟩
    simp only [VRs] at h ⊢
    obtain ⟨u2, us2, rfl, h2, u3, us3, rfl, h3, rfl⟩ := h
    exact ⟨u2, _, rfl, nils_sl (by decide) h2, u3, _, rfl, h3, rfl⟩
  · exact ⟨_, _, rfl, hvc, rfl, rfl, fun w I σ vs h => h⟩
def LGwf : List (Nat × Contract) := [(60, fgetC'), (63, fsplitC), (68, fsizeC), (70, fputC)]
def Gwf : Ctx := fun f => gget LGwf f
theorem Gwf_ok : ∀ f C, Gwf f = some C → CSound Try.prog f C := gget_cons fget_ok' (gget_cons fsplit_ok (gget_cons fsize_ok (gget_cons fput_ok (gget_nil _))))
theorem works3_ok : CSound Try.prog 57 trueC := by
  refine fsound' (G := Gwf) (c := codeOf Try.f57) mixed tyT Gwf_ok Try.func57 (by rfl) (by kernel_rfl) (by kernel_rfl) fun args M r hr hvc hw hm => ?_
  unfold trueC at hr
  simp only at hr
  split at hr <;> cases hr
  clear hvc hm hw
  conv => cbv
  repeat (first | refine ⟨⟨by decide +kernel⟩, ?_⟩ | (refine .ofT (by decide +kernel) ?_; conv => cbv) | (refine .ofF (by decide +kernel) ?_; conv => cbv))
  exact ⟨by decide +kernel⟩
end Go.Am
/- FramePuts keeps its contract: it returns true. -/
namespace Go.Am
set_option linter.all false
set_option linter.deprecated false
open Go.Proofs
set_option maxRecDepth 100000
set_option maxHeartbeats 4000000
theorem WfR.pay {x : List (List D)} (h : WfR FrS x) {i : Nat} (hi : i < x.length) : WfR U8 (lk (lk x i) 1).toList := by
  have h1 := h.2 i hi
  simp only [WfDs, WfD, and_true] at h1
  exact ⟨h1.2.1, fun j hj => by simp only [WfDs, WfD, and_true]; exact h1.2.2 j hj⟩
theorem few_pay {x : List (List D)} (h : fewF x = true) {i : Nat} (hi : i < x.length) : (lk (lk x i) 1).toList.length ≤ 200 ∧ x.length ≤ 12 := by
  simp only [fewF, Bool.and_eq_true, decide_eq_true_eq, List.all_eq_true] at h
  have e : lk x i = (x.take 13)[i]'(by simp; omega) := by simp [lk, List.getD, hi]
  have h1 := h.1 (lk x i) (by rw [e]; exact List.getElem_mem _)
  exact ⟨by simpa [fewOkF] using h1, h.2⟩
def frK (x : List (List D)) (i : Nat) : Int := (lk (lk x i) 0).toInt
def frP (x : List (List D)) (i : Nat) : List (List D) := (lk (lk x i) 1).toList
def frS (x : List (List D)) (i : Nat) : List UInt8 := ofRow (frP x i)
/-- the reference's bytes of the first frames -/
def frT (x : List (List D)) : Nat → List (List D)
  | 0 => []
  | i + 1 => frT x i ++ frR (frK x i) (sRow (frS x i))
def frV (x : List (List D)) : Nat → List (List D)
  | 0 => []
  | i + 1 => frV x i ++ [[D.int (frK x i), D.str (frS x i)]]
@[simp] theorem frV_len (x : List (List D)) (i : Nat) : (frV x i).length = i := by
  induction i with
  | zero => rfl
  | succ i ih => simp [frV, ih]
theorem frV_at (x : List (List D)) {i n : Nat} (h : i < n) : lk (frV x n) i = [D.int (frK x i), D.str (frS x i)] := by
  induction n with
  | zero => omega
  | succ n ih =>
    rw [frV]
    by_cases e : i < n
    · rw [← ih e]; simp [lk, List.getD, List.getElem?_append_left, e]
    · have : i = n := by omega
      subst this
      simp [lk, List.getD, List.getElem?_append_right]
theorem bn_app (a b : List (List D)) : bn (a ++ b) = bn a ++ bn b := by simp [bn]
theorem bn_frR {p q : List (List D)} (k : Int) (h : bn p = bn q) : bn (frR k p) = bn (frR k q) := by
  have hl := len_bn h
  have e : bn (frH k p) = bn (frH k q) := by simp only [frH, bn_app, h, hl]
  simp only [frR, bn_app, e, ckR]
theorem bn_frT {x : List (List D)} (hx : WfR FrS x) {i : Nat} (h : i ≤ x.length) : bn (frT x i) = bn (frRs (x.take i)) := by
  induction i with
  | zero => simp [frT, frRs]
  | succ i ih =>
    rw [frT, frRs_next (by omega), bn_app, bn_app, ih (by omega)]
    congr 1
    exact bn_frR _ (bn_ofRow (hx.pay (by omega)))
theorem frT_len {x : List (List D)} (hf : fewF x = true) {i : Nat} (h : i ≤ x.length) : (frT x i).length ≤ 215 * i := by
  induction i with
  | zero => simp [frT]
  | succ i ih =>
    have h1 := few_pay hf (i := i) (by omega)
    have h2 := ih (by omega)
    have h3 := put1_len 9 (frP x i).length
    rw [← putB] at h3
    have h4 : (frP x i).length ≤ 200 := h1.1
    rw [frT, List.length_append, frR_len, sRow_len, frS, ofRow_len]
    omega
theorem frRs_len {x : List (List D)} (hx : WfR FrS x) (hf : fewF x = true) : (frRs x).length ≤ 2580 := by
  have h := congrArg List.length (bn_frT hx (i := x.length) (Nat.le_refl _))
  have h2 := frT_len hf (i := x.length) (Nat.le_refl _)
  have h3 : x.length ≤ 12 := by simp only [fewF, Bool.and_eq_true, decide_eq_true_eq] at hf; exact hf.2
  rw [List.take_length] at h
  simp only [bn_len] at h
  omega
def fputsC : Contract := { modes := [.ro, .ro], fn := fun args M => match args, M with
  | [.sl _ [.int .u8, .slice [.int .u8]] _, .agg [.int .u8 _, .sl _ [.int .u8] _]], [] => some ⟨[], .bool (fun _ => true), []⟩
  | _, _ => none }
def LGfp2 : List (Nat × Contract) := [(22, sameC), (25, spoilC), (57, trueC), (62, fconvC), (66, ffewC), (67, frputC), (68, fsizeC), (69, fsameC), (70, fputC)]
def Gfp2 : Ctx := fun f => gget LGfp2 f
theorem Gfp2_ok : ∀ f C, Gfp2 f = some C → CSound Try.prog f C := gget_cons same_ok (gget_cons spoil_ok (gget_cons works3_ok (gget_cons fconv_ok (gget_cons ffew_ok (gget_cons frput_ok (gget_cons fsize_ok (gget_cons fsame_ok (gget_cons fput_ok (gget_nil _)))))))))
theorem fputs_ok : CSound Try.prog 15 fputsC := by
  refine fsound' (G := Gfp2) (c := codeOf Try.f15) mixed tyT Gfp2_ok Try.func15 (by rfl) (by kernel_rfl) (by kernel_rfl) fun args M r hr hvc hw hm => ?_
  unfold fputsC at hr
  simp only at hr
  split at hr <;> cases hr
  rename_i n1 x k n2 p
  clear hvc hm
  have hx : x = fun _ => x () := rfl
  generalize x () = x at hx
  subst hx
  have hx : p = fun _ => p () := rfl
  generalize p () = p at hx
  subst hx
  have hx : k = fun _ => k () := rfl
  generalize k () = k at hx
  subst hx
  simp only [WfVs, WfV, and_true] at hw

  conv => cbv
  by_cases hf : fewF x = true
  · refine .ofF (by simp [hf]) ?_
    conv => cbv
    refine .d (fun h => ?_) (fun h => ?_)
    · conv => cbv
      exact ⟨rfl⟩
    · refine LoopP.mk {i : Nat // i ≤ x.length} (fun s => ⟨ev 98 [(0, .sl false FrS fun _ => x), (3, .mp 0 0), (4, .bool fun _ => false), (5, .ms 9 (fun _ => 0) fun _ => (frT x s.1).length), (6, .ms 10 (fun _ => 0) fun _ => s.1), (7, .int .i64 fun _ => (s.1 : Int))],
        [(0, .obj [.int .u8 fun _ => k, .sl false U8 fun _ => p]), (9, .row false U8 fun _ => frT x s.1), (10, .row false [.int .u8, .str] fun _ => frV x s.1)], 16⟩) (fun s => x.length - s.1) ⟨0, by omega⟩ ?_ ?_
      · conv => cbv
        simp [Hold.iff, frT, frV]
      · intro s
        have hi := s.2
        have hto := frT_len hf hi
        conv => cbv
        refine .d (fun h => ?_) (fun h => ?_)
        · have h : (s.1 : Int) < (x.length : Int) := h
          have h4 : s.1 < x.length := by omega
          have v1 : 0 ≤ (s.1 : Int) ∧ (s.1 : Int) < (x.length : Int) := by omega
          have hfp := few_pay hf h4
          have hfq := hfp.1
          have hfx := hfp.2
          have hwq := hw.1.pay h4
          have hnt : frT x (s.1 + 1) = frT x s.1 ++ frR (lk (lk x s.1) 0).toInt (sRow (ofRow (lk (lk x s.1) 1).toList)) := rfl
          have hnv : frV x (s.1 + 1) = frV x s.1 ++ [[D.int (lk (lk x s.1) 0).toInt, D.str (ofRow (lk (lk x s.1) 1).toList)]] := rfl
          have hc : lk x ((s.1 : Int)).toNat = lk x s.1 := by rw [Int.toNat_natCast]
          have hvl := frV_len x s.1
          have hw1 : IntKind.i64.wrap ((s.1 : Int) + 1) = ((s.1 + 1 : Nat) : Int) := by rw [wrap_i64 (by omega)]; omega
          have hn : s.1 + 1 ≤ x.length ∧ x.length - (s.1 + 1) < x.length - s.1 := by omega
          conv => cbv
          rw [hc]
          generalize hq : (lk (lk x s.1) 1).toList = q at hnt hnv hwq hfq ⊢
          generalize hkk : (lk (lk x s.1) 0).toInt = kk at hnt hnv ⊢
          generalize frT x s.1 = o at hnt hto ⊢
          generalize frV x s.1 = ov at hnv hvl ⊢
          have e3 : (frR kk (sRow (ofRow q))).length = 1 + (putB q.length).length + q.length + 4 := by rw [frR_len, sRow_len, ofRow_len]
          have hsm : (ofRow q == ofRow p) = (bn q == bn p) := bytes_eq hwq hw.2.2
          have hpl := put1_len 9 q.length
          rw [← putB] at hpl
          generalize frR kk (sRow (ofRow q)) = fr at hnt e3 ⊢
          have ho : o.length ≤ 2580 := by omega
          have htk : List.take s.1 ov = ov := List.take_of_length_le (by omega)
          have hfr : fr.length ≤ 215 := by omega
          clear hfp
          repeat (first | (refine ⟨⟨?_⟩, ?_⟩; (focus (first | exact v1 | (simp [chunk, big, hvl]; done) | (simp [chunk, big, hvl]; omega)))))
          refine .ofF (by simp [e3]) ?_
          conv => cbv
          repeat (first | (refine ⟨⟨?_⟩, ?_⟩; (focus (first | exact v1 | (simp [chunk, big, hvl]; done) | (simp [chunk, big, hvl]; omega)))))
          refine .ofF (by simp [hsm, hq, hkk]) ?_
          conv => cbv
          refine ⟨⟨s.1 + 1, hn.1⟩, hn.2, ?_⟩
          conv => cbv
          rw [hnt, hnv]
          simp [Hold.iff, chunk, dall, hw1, hvl, htk]
        · have h : ¬ (s.1 : Int) < (x.length : Int) := h
          have h4 : s.1 = x.length := by omega
          have hbb := frRs_len hw.1 hf
          have hbt := frT_len hf (i := x.length) (Nat.le_refl _)
          have hx12 : x.length ≤ 12 := by simp only [fewF, Bool.and_eq_true, decide_eq_true_eq] at hf; exact hf.2
          have hbn := bn_frT hw.1 (i := x.length) (Nat.le_refl _)
          rw [List.take_length] at hbn
          rw [h4]
          refine LoopP.mk {i : Nat // i ≤ 2} (fun s => ⟨ev 98 [(0, .sl false FrS fun _ => x), (3, .mp 0 0), (4, .bool fun _ => false), (5, .ms 9 (fun _ => 0) fun _ => (frT x x.length).length), (6, .ms 10 (fun _ => 0) fun _ => x.length), (10, .int .i64 fun _ => (s.1 : Int))],
            [(0, .obj [.int .u8 fun _ => k, .sl false U8 fun _ => p]), (9, .row false U8 fun _ => frT x x.length), (10, .row false [.int .u8, .str] fun _ => frV x x.length)], 16⟩) (fun s => 2 - s.1) ⟨0, by omega⟩ ?_ ?_
          · conv => cbv
            simp [Hold.iff]
          · intro s
            have hi := s.2
            conv => cbv
            refine .d (fun h => ?_) (fun h => ?_)
            · have h : (s.1 : Int) < 2 := h
              have hw1 : IntKind.i64.wrap ((s.1 : Int) + 1) = ((s.1 + 1 : Nat) : Int) := by rw [wrap_i64 (by omega)]; omega
              have hn : s.1 + 1 ≤ 2 ∧ 2 - (s.1 + 1) < 2 - s.1 := by omega
              conv => cbv
              generalize frRs x = g at hbb hbn ⊢
              generalize frT x x.length = o at hbt hbn ⊢
              repeat (first | (refine ⟨⟨?_⟩, ?_⟩; (focus (first | (simp [chunk, big]; done) | (simp [chunk, big]; omega)))))
              refine .ofF (by simp [hbn]) ?_
              conv => cbv
              repeat (first | (refine ⟨⟨?_⟩, ?_⟩; (focus (first | (simp [chunk, big]; done) | (simp [chunk, big]; omega)))))
              refine ⟨⟨s.1 + 1, hn.1⟩, hn.2, ?_⟩
              conv => cbv
              simp [Hold.iff, hw1]
            · refine LoopP.mk {i : Nat // i ≤ x.length} (fun s => ⟨ev 98 [(0, .sl false FrS fun _ => x), (3, .mp 0 0), (4, .bool fun _ => false), (5, .ms 9 (fun _ => 0) fun _ => (frT x x.length).length), (6, .ms 10 (fun _ => 0) fun _ => x.length), (12, .int .i64 fun _ => (s.1 : Int))],
                [(0, .obj [.int .u8 fun _ => k, .sl false U8 fun _ => p]), (9, .row false U8 fun _ => frT x x.length), (10, .row false [.int .u8, .str] fun _ => frV x x.length)], 16⟩) (fun s => x.length - s.1) ⟨0, by omega⟩ ?_ ?_
              · conv => cbv
                simp [Hold.iff]
              · intro s
                have hi := s.2
                conv => cbv
                refine .d (fun h => ?_) (fun h => ?_)
                · have h : (s.1 : Int) < (x.length : Int) := h
                  have h4 : s.1 < x.length := by omega
                  have v1 : 0 ≤ (s.1 : Int) ∧ (s.1 : Int) < (x.length : Int) := by omega
                  have hw1 : IntKind.i64.wrap ((s.1 : Int) + 1) = ((s.1 + 1 : Nat) : Int) := by rw [wrap_i64 (by omega)]; omega
                  have hn : s.1 + 1 ≤ x.length ∧ x.length - (s.1 + 1) < x.length - s.1 := by omega
                  have hat := frV_at x h4
                  have hat1 : (lk (lk (frV x x.length) s.1) 0).toInt = (lk (lk x s.1) 0).toInt := by rw [hat]; rfl
                  have hat2 : (lk (lk (frV x x.length) s.1) 1).toStr = ofRow (lk (lk x s.1) 1).toList := by rw [hat]; rfl
                  conv => cbv
                  repeat (first | (refine ⟨⟨?_⟩, ?_⟩; (focus (first | exact v1 | (simp [chunk, big]; done) | (simp [chunk, big]; omega)))))
                  refine .ofF (by simp [hat1, hat2]) ?_
                  conv => cbv
                  refine ⟨⟨s.1 + 1, hn.1⟩, hn.2, ?_⟩
                  conv => cbv
                  simp [Hold.iff, hw1]
                · conv => cbv
                  refine .ofT (by simp) ?_
                  conv => cbv
                  simp [Hold.iff]
  · refine .ofT (by simp [hf]) ?_
    conv => cbv
    refine .ofT rfl ?_
    conv => cbv
    exact ⟨rfl⟩
end Go.Am
/- frames, the plain law: what was put is got; what is got is what Put makes; a short change is seen. -/
namespace Go.Am
set_option linter.all false
set_option linter.deprecated false
open Go.Proofs
set_option maxRecDepth 100000
set_option maxHeartbeats 4000000
theorem fgetR_in {x : List (List D)} {B C : List Nat} {k n : Nat} (hx : bn x = B ++ [k] ++ putB n ++ C) (hn : n < 18446744073709551616) :
    fgetR x (B.length : Int) = fgetG x (B.length : Int) (n, (B.length : Int) + 1 + (putB n).length, 0) := by
  have hl := congrArg List.length hx
  have hp := put1_len 9 n
  rw [← putB] at hp
  simp only [bn_len, List.length_append, List.length_singleton] at hl
  have e := getS_put hn (B ++ [k]) C
  rw [List.length_append, List.length_singleton] at e
  rw [fgetR, if_neg (by omega), hx]
  rw [show (B.length : Int) + 1 = ((B.length + 1 : Nat) : Int) by omega, e]
theorem fgetR_put {B C p : List (List D)} {k : Int} (hp : p.length < 4611686018427387904) :
    fgetR (B ++ frR k p ++ C) (B.length : Int) = ⟨k, p, ((B.length + (frR k p).length : Nat) : Int), 0⟩ := by
  have hl := frR_len k p
  have hh := frH_len k p
  have e := fgetR_in (x := B ++ frR k p ++ C) (B := bn B) (C := bn p ++ bn (ckR (frH k p)) ++ bn C) (k := k.toNat) (n := p.length) (by
    simp only [bn_app, frR, frH, bn_rowB, List.append_assoc]; rfl) (by omega)
  rw [bn_len] at e
  rw [e, fgetG]
  generalize hm : (putB p.length).length = m at *
  have h1 : B ++ frR k p ++ C = B ++ (frH k p ++ (ckR (frH k p) ++ C)) := by simp [frR]
  have h2 : B ++ frR k p ++ C = (B ++ [[D.int k]] ++ rowB (putB p.length)) ++ (p ++ (ckR (frH k p) ++ C)) := by simp [frR, frH]
  have a1 : ((B.length : Int) + 1 + (m : Int) + (p.length : Int)).toNat = (B ++ frH k p).length := by rw [List.length_append]; omega
  have a2 : ((B.length : Int) + 1 + (m : Int)).toNat = (B ++ [[D.int k]] ++ rowB (putB p.length)).length := by simp; omega
  have a3 : (B ++ frH k p).length - ((B.length : Int)).toNat = (frH k p).length := by rw [List.length_append]; omega
  have c1 : (List.drop (B.length : Int).toNat (B ++ frR k p ++ C)).take (frH k p).length = frH k p := by
    rw [h1, Int.toNat_natCast, List.drop_left, List.take_left]
  have c2 : (List.drop (B ++ frH k p).length (B ++ frR k p ++ C)).take 4 = ckR (frH k p) := by
    rw [h1, ← List.append_assoc, List.drop_left]
    exact List.take_left' (by simp)
  have c3 : (List.drop (B ++ [[D.int k]] ++ rowB (putB p.length)).length (B ++ frR k p ++ C)).take p.length = p := by
    rw [h2, List.drop_left, List.take_left]
  have c4 : (lk (lk (B ++ frR k p ++ C) (B.length : Int).toNat) 0).toInt = k := by
    rw [h1, Int.toNat_natCast]
    simp [lk, List.getD, frH, D.toInt]
  have hlx : (B ++ frR k p ++ C).length = B.length + (frR k p).length + C.length := by simp [Nat.add_assoc]
  rw [if_neg (show ¬ (0 : Int) = 10 by decide), if_pos (by rw [hlx]; refine ⟨rfl, ?_, ?_⟩ <;> simp only <;> omega), a1, a2, a3, c1, c2, c3, c4, if_pos rfl]
  simp only [FG.mk.injEq, true_and, and_true]
  omega
theorem frRs_cut (x : List (List D)) {i : Nat} (h : i < x.length) : frRs x = frRs (x.take i) ++ frR (frK x i) (frP x i) ++ frRs (x.drop (i + 1)) := by
  rw [frK, frP, ← frRs_next h]
  conv => lhs; rw [← List.take_append_drop (i + 1) x]
  rw [frRs, List.flatMap_append]; rfl
def plS (x : List (List D)) : Nat → List (List D)
  | 0 => []
  | i + 1 => plS x i ++ [plc ⟨frK x i, frP x i, ((frRs (x.take (i + 1))).length : Nat), 0⟩ ((frRs (x.take i)).length : Nat)]
@[simp] theorem plS_len (x : List (List D)) (i : Nat) : (plS x i).length = i := by
  induction i with
  | zero => rfl
  | succ i ih => simp [plS, ih]
theorem plS_at (x : List (List D)) {i n : Nat} (h : i < n) : lk (plS x n) i = plc ⟨frK x i, frP x i, ((frRs (x.take (i + 1))).length : Nat), 0⟩ ((frRs (x.take i)).length : Nat) := by
  induction n with
  | zero => omega
  | succ n ih =>
    rw [plS]
    by_cases e : i < n
    · rw [← ih e]; simp [lk, List.getD, List.getElem?_append_left, e]
    · have : i = n := by omega
      subst this
      simp [lk, List.getD, List.getElem?_append_right]
def payOk (l : List (List D)) : Prop := ∀ i, i < l.length → (frP l i).length < 4611686018427387904
theorem fsp_go {l : List (List D)} (hp : payOk l) (z : List (List D)) (f : Nat) : ∀ i, i ≤ l.length →
    fspl (frRs l ++ z) (f + l.length) 0 [] = fspl (frRs l ++ z) (f + (l.length - i)) ((frRs (l.take i)).length : Nat) (plS l i) := by
  intro i
  induction i with
  | zero => intro _; simp [frRs, plS]
  | succ i ih =>
    intro h
    rw [ih (by omega)]
    have hi : i < l.length := by omega
    have e : f + (l.length - i) = (f + (l.length - (i + 1))) + 1 := by omega
    have hc : frRs l ++ z = frRs (l.take i) ++ frR (frK l i) (frP l i) ++ (frRs (l.drop (i + 1)) ++ z) := by
      conv => lhs; rw [frRs_cut l hi]
      simp
    have hl := frR_len (frK l i) (frP l i)
    have hg := fgetR_put (B := frRs (l.take i)) (C := frRs (l.drop (i + 1)) ++ z) (k := frK l i) (hp i hi)
    rw [← hc] at hg
    have hn : (frRs (l.take (i + 1))).length = (frRs (l.take i)).length + (frR (frK l i) (frP l i)).length := by
      rw [frRs_next hi, List.length_append]; rfl
    have hx : (frRs l ++ z).length = (frRs (l.take i)).length + (frR (frK l i) (frP l i)).length + (frRs (l.drop (i + 1)) ++ z).length := by
      conv => lhs; rw [hc]
      simp only [List.length_append]
    rw [e, fspl, if_pos (by rw [hx]; omega), hg, if_pos rfl, plS, hn]
theorem frRs_six (l : List (List D)) : 6 * l.length ≤ (frRs l).length := by
  induction l with
  | nil => simp
  | cons c l ih =>
    have h := frR_len (lk c 0).toInt (lk c 1).toList
    have hp := put1_len 9 (lk c 1).toList.length
    rw [← putB] at hp
    rw [frRs, List.flatMap_cons, List.length_append, List.length_cons]
    rw [frRs] at ih
    omega
theorem fspR_frRs {l : List (List D)} (hp : payOk l) : fspR (frRs l) = (plS l l.length, ((frRs l).length : Int), 0) := by
  have h6 := frRs_six l
  have h := fsp_go hp [] ((frRs l).length + 1 - l.length) l.length (Nat.le_refl _)
  rw [List.append_nil, show (frRs l).length + 1 - l.length + l.length = (frRs l).length + 1 by omega] at h
  rw [fspR, h]
  have e : (frRs l).length + 1 - l.length + (l.length - l.length) = ((frRs l).length - l.length) + 1 := by omega
  rw [e, fspl, if_neg (by rw [List.take_length]; omega)]
/-- the frames of what Split told, as rows of frames -/
def unP (y : List (List D)) : List (List D) := y.map fun c => [D.int (lk c 0).toInt, D.list (lk c 1).toList]
theorem frRs_unP_snoc (o : List (List D)) (f : FG) (a : Int) : frRs (unP (o ++ [plc f a])) = frRs (unP o) ++ frR f.k f.p := by
  simp [frRs, unP, plc, lk, D.toInt, D.toList]
theorem fget_back {x : List (List D)} {a : Int} (h : (fgetR x a).r = 0) :
    bn (frR (fgetR x a).k (fgetR x a).p) = ((bn x).drop a.toNat).take ((fgetR x a).n.toNat - a.toNat) ∧ 0 ≤ a ∧ a ≤ (fgetR x a).n := by
  have hfit := fgetR_fit h
  by_cases h1 : a < 0 ∨ (x.length : Int) ≤ a
  · simp only [fgetR, if_pos h1] at h
    exact absurd h (by decide)
  have hR : fgetR x a = fgetG x a (getS (bn x) (a + 1)) := by rw [fgetR, if_neg h1]
  rw [hR] at h hfit ⊢
  have hok := @getS_ok (bn x) (a + 1)
  have hlt := getS_lt (bn x) (a + 1)
  generalize getS (bn x) (a + 1) = g at h hfit hok hlt ⊢
  by_cases h2 : g.2.2 = 10
  · simp only [fgetG, if_pos h2] at h
    exact absurd h (by decide)
  by_cases h3 : g.2.2 = 0 ∧ 4 ≤ (x.length : Int) - g.2.1 ∧ (g.1 : Int) ≤ (x.length : Int) - g.2.1 - 4
  rotate_left
  · simp only [fgetG, if_neg h2, if_neg h3] at h
    exact absurd h (by decide)
  by_cases h4 : bn (ckR ((x.drop a.toNat).take ((g.2.1 + g.1).toNat - a.toNat))) = bn ((x.drop (g.2.1 + g.1).toNat).take 4)
  rotate_left
  · simp only [fgetG, if_neg h2, if_pos h3, if_neg h4] at h
    exact absurd h (by decide)
  have hG : fgetG x a g = ⟨(lk (lk x a.toNat) 0).toInt, (x.drop g.2.1.toNat).take g.1, g.2.1 + g.1 + 4, 0⟩ := by rw [fgetG, if_neg h2, if_pos h3, if_pos h4]
  rw [hG] at hfit ⊢
  simp only at hfit ⊢
  have hok := hok h3.1
  have k0 := hok.1
  have ⟨m, hm1, hm2, hm3⟩ := hok.2
  clear hok h
  rw [bn_len] at hm1
  have ha : 0 ≤ a := hfit.1
  have ⟨A, hA⟩ := Int.eq_ofNat_of_zero_le ha
  subst hA
  have e1 : ((A : Int) + 1).toNat = A + 1 := by omega
  rw [e1] at hm1 hm3
  rw [Int.toNat_natCast] at h4 ⊢
  have e2 : (g.2.1).toNat = A + 1 + m := by omega
  have e3 : (g.2.1 + (g.1 : Int)).toNat = A + 1 + m + g.1 := by omega
  have e4 : (g.2.1 + (g.1 : Int) + 4).toNat = A + 1 + m + g.1 + 4 := by omega
  have hpl : (List.take g.1 (List.drop (A + 1 + m) x)).length = g.1 := by rw [List.length_take, List.length_drop]; omega
  rw [e3] at h4
  rw [e2, e4]
  have hH : bn (frH (lk (lk x A) 0).toInt (List.take g.1 (List.drop (A + 1 + m) x))) = bn ((x.drop A).take (A + 1 + m + g.1 - A)) := by
    have s1 : A + 1 + m + g.1 - A = 1 + (m + g.1) := by omega
    have s2 : x.drop A = lk x A :: x.drop (A + 1) := by
      have hA : A < x.length := by omega
      rw [List.drop_eq_getElem_cons hA]
      simp [lk, List.getD, hA]
    rw [frH, hpl, bn_app, bn_app, bn_rowB, hm3, s1, s2, Nat.add_comm 1, List.take_succ_cons, List.take_add]
    simp only [bn, List.map_append, List.map_cons, List.map_take, List.map_drop, List.drop_drop]
    rfl
  refine ⟨?_, by omega, by omega⟩
  have hck : ckR (frH (lk (lk x A) 0).toInt (List.take g.1 (List.drop (A + 1 + m) x))) = ckR ((x.drop A).take (A + 1 + m + g.1 - A)) := by rw [ckR, ckR, hH]
  rw [frR, bn_app, hck, h4, hH]
  have s3 : A + 1 + m + g.1 + 4 - A = (A + 1 + m + g.1 - A) + 4 := by omega
  rw [s3, List.take_add, List.drop_drop, bn_take, bn_take, bn_drop, bn_drop, show A + (A + 1 + m + g.1 - A) = A + 1 + m + g.1 by omega]
theorem fspl_back {x : List (List D)} : ∀ (f : Nat) (a : Int) (o : List (List D)), 0 ≤ a → a ≤ (x.length : Int) → (x.length : Int) - a < (f : Int) → bn (frRs (unP o)) = (bn x).take a.toNat → (fspl x f a o).2.2 = 0 → (fspl x f a o).2.1 = (x.length : Int) ∧ bn (frRs (unP (fspl x f a o).1)) = bn x
  | 0, a, o => fun _ _ h => absurd h (by omega)
  | f + 1, a, o => fun h0 h1 hf ho hr => by
    rw [fspl] at hr ⊢
    by_cases h : a < (x.length : Int)
    · rw [if_pos h] at hr ⊢
      by_cases hg : (fgetR x a).r = 0
      · rw [if_pos hg] at hr ⊢
        have hft := fgetR_fit hg
        have hb := fget_back hg
        refine fspl_back f _ _ (by omega) hft.2.2.1 (by omega) ?_ hr
        rw [frRs_unP_snoc, bn_app, ho, hb.1, ← List.take_add]
        congr 1
        omega
      · rw [if_neg hg] at hr
        exact absurd hr hg
    · rw [if_neg h]
      refine ⟨rfl, ?_⟩
      simp only
      rw [ho, List.take_of_length_le (by rw [bn_len]; omega)]
theorem fspR_back {x : List (List D)} (h : (fspR x).2.2 = 0) : (fspR x).2.1 = (x.length : Int) ∧ bn (frRs (unP (fspR x).1)) = bn x :=
  fspl_back _ _ _ (by omega) (by omega) (by omega) (by simp [unP, frRs, bn]) h
/-! a short change -/
theorem bytes_num : ∀ (n : Nat) (e : Nat → Nat), (∀ i, e i < 256) → ∃ c, c < 256 ^ n ∧ ∀ t, t < 8 * n → c.testBit t = (e (t / 8)).testBit (t % 8)
  | 0, e, _ => ⟨0, by simp, fun t ht => absurd ht (by omega)⟩
  | n + 1, e, he => by
    have ⟨c, h1, h2⟩ := bytes_num n (fun i => e (i + 1)) fun i => he (i + 1)
    refine ⟨2 ^ 8 * c + e 0, ?_, fun t ht => ?_⟩
    · have := he 0
      rw [Nat.pow_succ]
      omega
    · rw [Nat.testBit_two_pow_mul_add _ (he 0)]
      by_cases h : t < 8
      · rw [if_pos h, Nat.div_eq_of_lt h, Nat.mod_eq_of_lt h]
      · rw [if_neg h, h2 _ (by omega), show (t - 8) / 8 + 1 = t / 8 by omega, show (t - 8) % 8 = t % 8 by omega]
theorem crc_four {o b : List Nat} {q : Nat} (ho : ∀ x ∈ o, x < 256) (hb : ∀ x ∈ b, x < 256) (hl : o.length = b.length) (hq : q + 4 ≤ b.length)
    (h : ∀ j, (j < q ∨ q + 4 ≤ j) → o.getD j 0 = b.getD j 0) (he : crcs 0 o = crcs 0 b) : o = b := by
  have lo : ∀ (l : List Nat), (∀ x ∈ l, x < 256) → ∀ i, l.getD i 0 < 256 := fun l hl i => by
    by_cases h : i < l.length
    · simp only [List.getD, List.getElem?_eq_getElem h, Option.getD_some]; exact hl _ (List.getElem_mem h)
    · simp only [List.getD, List.getElem?_eq_none (Nat.le_of_not_lt h), Option.getD_none]; omega
  have ⟨c, hc, ht⟩ := bytes_num 4 (fun i => o.getD (q + i) 0 ^^^ b.getD (q + i) 0) fun i => Nat.xor_lt_two_pow (n := 8) (lo o ho _) (lo b hb _)
  have hf := (crc_finds (o := o) (b := b) (a := 8 * q) (c := c) ho hb hl (by omega) fun p hp => by
    by_cases hp2 : 8 * q ≤ p ∧ p < 8 * q + 32
    · rw [decide_eq_true hp2, Bool.true_and, ht _ (by omega), show q + (p - 8 * q) / 8 = p / 8 by omega, show (p - 8 * q) % 8 = p % 8 by omega, Nat.testBit_xor]
      rw [← Bool.xor_assoc, Bool.xor_comm ((b.getD (p / 8) 0).testBit (p % 8)), Bool.xor_assoc, Bool.xor_self, Bool.xor_false]
    · rw [decide_eq_false hp2, Bool.false_and, Bool.xor_false, h (p / 8) (by omega)]).1 he
  rw [show min 32 (8 * b.length - 8 * q) = 32 by omega, Nat.mod_eq_of_lt (by rw [show (2 : Nat) ^ 32 = 256 ^ 4 by decide]; exact hc)] at hf
  subst hf
  apply List.ext_getElem hl
  intro j hj hj2
  have hz : o.getD j 0 = b.getD j 0 := by
    by_cases hjq : j < q ∨ q + 4 ≤ j
    · exact h j hjq
    · have hx : o.getD j 0 ^^^ b.getD j 0 = 0 := by
        apply Nat.eq_of_testBit_eq
        intro t
        rw [Nat.zero_testBit]
        by_cases h8 : t < 8
        · have := ht (8 * (j - q) + t) (by omega)
          rw [Nat.zero_testBit, show (8 * (j - q) + t) / 8 = j - q by omega, show (8 * (j - q) + t) % 8 = t by omega, show q + (j - q) = j by omega] at this
          exact this.symm
        · exact Nat.testBit_lt_two_pow (Nat.lt_of_lt_of_le (Nat.xor_lt_two_pow (n := 8) (lo o ho _) (lo b hb _)) (Nat.pow_le_pow_right (by decide) (by omega)))
      have e : o.getD j 0 = (o.getD j 0 ^^^ b.getD j 0) ^^^ b.getD j 0 := by rw [Nat.xor_assoc, Nat.xor_self, Nat.xor_zero]
      rw [e, hx, Nat.zero_xor]
  simpa [List.getD, hj, hj2] using hz
end Go.Am
/- frames: up to four bytes that are other ones, in a frame behind its length: it is refused. -/
namespace Go.Am
set_option linter.all false
set_option linter.deprecated false
open Go.Proofs
set_option maxRecDepth 100000
set_option maxHeartbeats 4000000
structure FbI (x : List (List D)) (q e : Nat) (Y : Nat → Nat) where
  i : Nat
  o : List (List D)
  c : Bool
  hi : i ≤ 4
  hl : o.length = x.length
  ho : WfR U8 o
  h : ∀ j, (bn o).getD j 0 = if q ≤ j ∧ j < q + i then (bn x).getD j 0 ^^^ Y (j - q) else (bn x).getD j 0
  hs : ∀ j, j < q → o[j]? = x[j]?
  hc : c = true ↔ ∃ m, m < i ∧ Y m ≠ 0
  hb : i = 0 ∨ q + i ≤ e
theorem FbI.next {x : List (List D)} {q e : Nat} {Y : Nat → Nat} (hY : ∀ m, Y m < 256) (he : e ≤ x.length) (s : FbI x q e Y) (h1 : s.i < 4) (h2 : q + s.i < e) :
    ∃ s' : FbI x q e Y, s'.i = s.i + 1 ∧ s'.o = s.o.set (q + s.i) [D.int (((bn s.o).getD (q + s.i) 0 ^^^ Y s.i : Nat) : Int)] ∧ s'.c = (s.c || decide (Y s.i ≠ 0)) := by
  obtain ⟨i, o, c, hi, hl, ho, h, hs, hc, hb⟩ := s
  simp only at h1 h2 ⊢
  have hk : q + i < o.length := by omega
  have hv : (bn o).getD (q + i) 0 < 256 := bn_lt ho _ (by simp [List.getD, hk])
  have hv2 : (bn o).getD (q + i) 0 ^^^ Y i < 256 := Nat.xor_lt_two_pow (n := 8) hv (hY i)
  refine ⟨⟨i + 1, o.set (q + i) [D.int (((bn o).getD (q + i) 0 ^^^ Y i : Nat) : Int)], c || decide (Y i ≠ 0), by omega, by simpa using hl, ho.set8 _ _ hv2, fun j => ?_, fun j hj => ?_, ?_, by omega⟩, rfl, rfl, rfl⟩
  · have hk' : q + i < (bn o).length := by simpa using hk
    rw [bn_set]
    by_cases hq : j = q + i
    · subst hq
      have e1 : ((bn o).set (q + i) ((bn o).getD (q + i) 0 ^^^ Y i)).getD (q + i) 0 = (bn o).getD (q + i) 0 ^^^ Y i := by
        simp only [List.getD]
        rw [List.getElem?_set_self hk']
        rfl
      rw [e1, h (q + i), if_neg (by omega), if_pos (by omega), Nat.add_sub_cancel_left]
    · have e1 : ((bn o).set (q + i) ((bn o).getD (q + i) 0 ^^^ Y i)).getD j 0 = (bn o).getD j 0 := by
        simp only [List.getD]
        rw [List.getElem?_set_ne (Ne.symm hq)]
      rw [e1, h j]
      by_cases hj : q ≤ j ∧ j < q + i
      · rw [if_pos hj, if_pos (by omega)]
      · rw [if_neg hj, if_neg (by omega)]
  · rw [List.getElem?_set_ne (by omega)]
    exact hs j hj
  · rw [Bool.or_eq_true, hc, decide_eq_true_iff]
    constructor
    · rintro (⟨m, hm, hy⟩ | hy)
      · exact ⟨m, by omega, hy⟩
      · exact ⟨i, by omega, hy⟩
    · rintro ⟨m, hm, hy⟩
      by_cases hmi : m < i
      · exact .inl ⟨m, hmi, hy⟩
      · have : m = i := by omega
        subst this
        exact .inr hy
theorem le4_inj {a b : Nat} (ha : a < 4294967296) (hb : b < 4294967296) (h : le4 a = le4 b) : a = b := by
  simp only [le4, List.cons.injEq, and_true] at h
  omega
theorem getD_cut {l m : List Nat} {a n j : Nat} (h : (l.drop a).take n = (m.drop a).take n) (h1 : a ≤ j) (h2 : j < a + n) : l.getD j 0 = m.getD j 0 := by
  have := congrArg (fun z : List Nat => z.getD (j - a) 0) h
  simpa [List.getD, List.getElem?_take, show j - a < n by omega, show a + (j - a) = j by omega] using this
theorem cut_getD {l m : List Nat} {a n : Nat} (hl : l.length = m.length) (h : ∀ j, a ≤ j → j < a + n → l.getD j 0 = m.getD j 0) : (l.drop a).take n = (m.drop a).take n := by
  apply List.ext_getElem (by simp [hl])
  intro i h1 h2
  rw [List.length_take, List.length_drop] at h1
  have := h (a + i) (by omega) (by omega)
  have g1 : a + i < l.length := by omega
  have g2 : a + i < m.length := by omega
  simpa [List.getD, g1, g2] using this
theorem fb_end {l : List (List D)} (hp : payOk l) {k q : Nat} (hk : k < l.length) {Y : Nat → Nat} (s : FbI (frRs l) q (frRs (l.take (k + 1))).length Y)
    (hw : WfR U8 (frRs l)) (h1 : (frRs (l.take (k + 1))).length ≤ q + 4 + (frP l k).length) (h3 : s.i = 4 ∨ (frRs (l.take (k + 1))).length ≤ q + s.i) (hc : s.c = true)
    (h4 : ¬ (q < (frRs (l.take (k + 1))).length - 4 ∧ (frRs (l.take (k + 1))).length - 4 ≤ q + 3)) :
    (fspR s.o).2 = (((frRs (l.take k)).length : Int), 3) := by
  have ⟨m, hm, hy⟩ := s.hc.1 hc
  have hsl := s.hl
  have hsb := s.hb
  have hsi := s.hi
  have hcut := frRs_cut l hk
  have hn : (frRs (l.take (k + 1))).length = (frRs (l.take k)).length + (frR (frK l k) (frP l k)).length := by
    rw [frRs_next hk, List.length_append]; rfl
  have hrl := frR_len (frK l k) (frP l k)
  have hhl := frH_len (frK l k) (frP l k)
  have hpl := put1_len 9 (frP l k).length
  rw [← putB] at hpl
  have hpk := hp k hk
  have hpay : payOk (l.take k) := fun i hi => by
    rw [List.length_take] at hi
    have e : frP (l.take k) i = frP l i := by
      simp only [frP, lk, List.getD]
      rw [List.getElem?_take_of_lt (by omega)]
    rw [e]
    exact hp i (by omega)
  have hk6 := frRs_six (l.take k)
  have htk : (l.take k).length = k := by rw [List.length_take]; omega
  have hxl := congrArg List.length hcut
  simp only [List.length_append] at hxl
  have hoB : s.o = frRs (l.take k) ++ s.o.drop (frRs (l.take k)).length := by
    have e : s.o.take (frRs (l.take k)).length = frRs (l.take k) := by
      have e2 : (frRs l).take (frRs (l.take k)).length = frRs (l.take k) := by
        conv => lhs; rw [hcut]
        rw [List.append_assoc, List.take_left]
      rw [← e2]
      apply List.ext_getElem?
      intro j
      simp only [List.getElem?_take]
      by_cases hj : j < (frRs (l.take k)).length
      · have hjq : j < q := by omega
        simp only [e2, hj, if_true]
        rw [s.hs j hjq]
      · simp only [e2, hj, if_false]
    conv => lhs; rw [← List.take_append_drop (frRs (l.take k)).length s.o]
    rw [e]
  have hbx : bn (frRs l) = bn (frRs (l.take k)) ++ bn (frH (frK l k) (frP l k)) ++ bn (ckR (frH (frK l k) (frP l k))) ++ bn (frRs (l.drop (k + 1))) := by
    rw [hcut, frR]; simp only [bn_app, List.append_assoc]
  -- the changed bytes against the old ones
  have hsame : ∀ j, j < q → (bn s.o).getD j 0 = (bn (frRs l)).getD j 0 := fun j hj => by rw [s.h j, if_neg (by omega)]
  have hsame2 : ∀ j, q + s.i ≤ j → (bn s.o).getD j 0 = (bn (frRs l)).getD j 0 := fun j hj => by rw [s.h j, if_neg (by omega)]
  have hbl : (bn s.o).length = (bn (frRs l)).length := by simp [hsl]
  generalize hB : (frRs (l.take k)).length = B at *
  generalize hE : (frRs (l.take (k + 1))).length = E at *
  have hP0 : ((bn (frRs l)).drop B).take (E - 4 - B) = bn (frH (frK l k) (frP l k)) := by
    rw [hbx, List.append_assoc, List.append_assoc]
    have e1 : B = (bn (frRs (l.take k))).length := by rw [bn_len, hB]
    have e2 : E - 4 - B = (bn (frH (frK l k) (frP l k))).length := by rw [bn_len]; omega
    rw [e2]
    conv => lhs; rw [e1]
    rw [List.drop_left, List.take_left]
  have hC0 : ((bn (frRs l)).drop (E - 4)).take 4 = bn (ckR (frH (frK l k) (frP l k))) := by
    rw [hbx]
    have e1 : E - 4 = (bn (frRs (l.take k)) ++ bn (frH (frK l k) (frP l k))).length := by rw [List.length_append, bn_len, bn_len, hB]; omega
    have e2 : 4 = (bn (ckR (frH (frK l k) (frP l k)))).length := by simp
    rw [List.append_assoc (bn (frRs (l.take k)) ++ bn (frH (frK l k) (frP l k))), e1, List.drop_left]
    exact List.take_left' e2.symm
  have hno : ¬ (∀ j, B ≤ j → j < E → (bn s.o).getD j 0 = (bn (frRs l)).getD j 0) := fun hall => by
    have hj := hall (q + m) (by omega) (by omega)
    rw [s.h (q + m), if_pos (by omega), Nat.add_sub_cancel_left] at hj
    apply hy
    have e : Y m = (bn (frRs l)).getD (q + m) 0 ^^^ ((bn (frRs l)).getD (q + m) 0 ^^^ Y m) := by rw [← Nat.xor_assoc, Nat.xor_self, Nat.zero_xor]
    rw [e, hj, Nat.xor_self]
  have hbad : ¬ bn (ckR ((s.o.drop B).take (E - 4 - B))) = bn ((s.o.drop (E - 4)).take 4) := fun he => by
    rw [ckR, bn_rowB, bn_take, bn_drop, bn_take, bn_drop] at he
    by_cases hq : q < E - 4
    · have hC : ((bn s.o).drop (E - 4)).take 4 = ((bn (frRs l)).drop (E - 4)).take 4 := cut_getD hbl fun j g1 g2 => hsame2 j (by omega)
      rw [hC, hC0, ckR, bn_rowB, ← hP0] at he
      have hcr := BitVec.eq_of_toNat_eq (le4_inj (crcs 0 _).isLt (crcs 0 _).isLt he)
      have hgd : ∀ (z : List Nat) (j : Nat), j < E - 4 - B → (List.take (E - 4 - B) (List.drop B z)).getD j 0 = z.getD (B + j) 0 := fun z j hj => by
        simp [List.getD, List.getElem?_take, hj]
      have hf := crc_four (q := q - B) (fun v hv => bn_lt s.ho v (List.mem_of_mem_drop (List.mem_of_mem_take hv))) (fun v hv => bn_lt hw v (List.mem_of_mem_drop (List.mem_of_mem_take hv)))
        (by rw [List.length_take, List.length_take, List.length_drop, List.length_drop, hbl]) (by rw [List.length_take, List.length_drop, bn_len]; omega) (fun j hj => by
          by_cases hjl : j < E - 4 - B
          · rw [hgd _ j hjl, hgd _ j hjl]
            by_cases hjq : j < q - B
            · exact hsame _ (by omega)
            · exact hsame2 _ (by omega)
          · simp [List.getD, List.getElem?_take, hjl]) hcr
      refine hno fun j g1 g2 => ?_
      by_cases hj : j < E - 4
      · exact getD_cut hf g1 (by omega)
      · exact hsame2 j (by omega)
    · have hP : ((bn s.o).drop B).take (E - 4 - B) = ((bn (frRs l)).drop B).take (E - 4 - B) := cut_getD hbl fun j g1 g2 => hsame j (by omega)
      rw [hP, hP0] at he
      have hC : ((bn s.o).drop (E - 4)).take 4 = ((bn (frRs l)).drop (E - 4)).take 4 := by rw [hC0, ckR, bn_rowB, ← he]
      refine hno fun j g1 g2 => ?_
      by_cases hj : j < E - 4
      · exact hsame j (by omega)
      · exact getD_cut hC (by omega) (by omega)
  have hget : fgetR s.o (B : Int) = ⟨0, [], 0, 3⟩ := by
    have hbo : bn s.o = bn (frRs (l.take k)) ++ [(frK l k).toNat] ++ putB (frP l k).length ++ (bn s.o).drop (B + 1 + (putB (frP l k).length).length) := by
      have e1 : (bn s.o).take (B + 1 + (putB (frP l k).length).length) = bn (frRs (l.take k)) ++ [(frK l k).toNat] ++ putB (frP l k).length := by
        have e2 : (bn s.o).take (B + 1 + (putB (frP l k).length).length) = (bn (frRs l)).take (B + 1 + (putB (frP l k).length).length) := by
          have := cut_getD (a := 0) (n := B + 1 + (putB (frP l k).length).length) hbl fun j g1 g2 => hsame j (by omega)
          simpa using this
        rw [e2, hbx, frH]
        simp only [bn_app, bn_rowB, List.append_assoc]
        have e3 : bn (frRs (l.take k)) ++ (bn [[D.int (frK l k)]] ++ (putB (frP l k).length ++ (bn (frP l k) ++ (bn (ckR ([[D.int (frK l k)]] ++ (rowB (putB (frP l k).length) ++ frP l k))) ++ bn (frRs (l.drop (k + 1))))))) = (bn (frRs (l.take k)) ++ ([(frK l k).toNat] ++ putB (frP l k).length)) ++ (bn (frP l k) ++ (bn (ckR ([[D.int (frK l k)]] ++ (rowB (putB (frP l k).length) ++ frP l k))) ++ bn (frRs (l.drop (k + 1))))) := by
          simp only [List.append_assoc]; rfl
        rw [e3]
        refine List.take_left' ?_
        simp [hB]
        omega
      rw [← e1, List.take_append_drop]
    have h := fgetR_in hbo (by omega)
    rw [bn_len, hB] at h
    rw [h, fgetG, if_neg (show ¬ (0 : Int) = 10 by decide), if_pos (by rw [hsl]; refine ⟨rfl, ?_, ?_⟩ <;> simp only <;> omega)]
    have a1 : ((B : Int) + 1 + ((putB (frP l k).length).length : Int) + ((frP l k).length : Int)).toNat = E - 4 := by omega
    rw [a1, Int.toNat_natCast, if_neg hbad]
  have hgo := fsp_go hpay (s.o.drop B) (s.o.length + 1 - k) k (by omega)
  rw [← hoB, htk, List.take_take, Nat.min_self, hB, show s.o.length + 1 - k + k = s.o.length + 1 by omega, show s.o.length + 1 - k + (k - k) = (s.o.length - k) + 1 by omega] at hgo
  rw [fspR, hgo, fspl, if_pos (by omega), hget]
  rfl
end Go.Am
/- The reference's Get, of frames: what it compares. -/
namespace Go.Am
set_option linter.all false
set_option linter.deprecated false
open Go.Proofs
set_option maxRecDepth 100000
set_option maxHeartbeats 4000000
/-- the head of a frame that is there -/
theorem fget_head {x : List (List D)} {A : Nat} {g : Nat × Int × Int} (hg : getS (bn x) ((A : Int) + 1) = g) (h0 : g.2.2 = 0) (h1 : 4 ≤ (x.length : Int) - g.2.1) (h2 : (g.1 : Int) ≤ (x.length : Int) - g.2.1 - 4) :
    ∃ m : Nat, g.2.1 = ((A + 1 + m : Nat) : Int) ∧ (putB g.1).length = m ∧ A + 1 + m + g.1 + 4 ≤ x.length ∧ ((x.drop (A + 1 + m)).take g.1).length = g.1 ∧
      bn (frH (lk (lk x A) 0).toInt ((x.drop (A + 1 + m)).take g.1)) = bn ((x.drop A).take (1 + m + g.1)) := by
  have hok := @getS_ok (bn x) ((A : Int) + 1)
  rw [hg] at hok
  have hok := hok h0
  have ⟨m, hm1, hm2, hm3⟩ := hok.2
  clear hok
  rw [bn_len] at hm1
  have e1 : ((A : Int) + 1).toNat = A + 1 := by omega
  rw [e1] at hm1 hm3
  have hpl : ((x.drop (A + 1 + m)).take g.1).length = g.1 := by rw [List.length_take, List.length_drop]; omega
  have hml : (putB g.1).length = m := by rw [hm3, List.length_take, List.length_drop, bn_len]; omega
  refine ⟨m, by omega, hml, by omega, hpl, ?_⟩
  have s1 : 1 + m + g.1 = 1 + (m + g.1) := by omega
  have s2 : x.drop A = lk x A :: x.drop (A + 1) := by
    have hA : A < x.length := by omega
    rw [List.drop_eq_getElem_cons hA]
    simp [lk, List.getD, hA]
  rw [frH, hpl, bn_app, bn_app, bn_rowB, hm3, s1, s2, Nat.add_comm 1, List.take_succ_cons, List.take_add]
  simp only [bn, List.map_append, List.map_cons, List.map_take, List.map_drop, List.drop_drop]
  rfl
/-- the whole of it, held against what Put makes -/
theorem fget_whole {x : List (List D)} {A : Nat} {g : Nat × Int × Int} (hg : getS (bn x) ((A : Int) + 1) = g) (h0 : g.2.2 = 0) (h1 : 4 ≤ (x.length : Int) - g.2.1) (h2 : (g.1 : Int) ≤ (x.length : Int) - g.2.1 - 4) {p : List (List D)} (hp : bn p = bn ((x.drop g.2.1.toNat).take g.1)) :
    (frR (lk (lk x A) 0).toInt p).length = (g.2.1 + g.1 + 4 - A).toNat ∧ A + (frR (lk (lk x A) 0).toInt p).length ≤ x.length ∧
      ((bn (frR (lk (lk x A) 0).toInt p) = ((bn x).drop A).take (frR (lk (lk x A) 0).toInt p).length) ↔ bn (ckR ((x.drop A).take ((g.2.1 + g.1).toNat - A))) = bn ((x.drop (g.2.1 + g.1).toNat).take 4)) := by
  obtain ⟨m, e1, e2, e3, e4, e5⟩ := fget_head hg h0 h1 h2
  have t1 : g.2.1.toNat = A + 1 + m := by omega
  have t2 : (g.2.1 + (g.1 : Int)).toNat = A + 1 + m + g.1 := by omega
  rw [t1] at hp
  have hpl : p.length = g.1 := by rw [len_bn hp, e4]
  have hl : (frR (lk (lk x A) 0).toInt p).length = 1 + m + g.1 + 4 := by rw [frR_len, hpl, e2]
  rw [hl, t2]
  refine ⟨by omega, by omega, ?_⟩
  have hb := bn_frR (lk (lk x A) 0).toInt hp
  have hb2 : bn (frR (lk (lk x A) 0).toInt p) = bn ((x.drop A).take (1 + m + g.1)) ++ bn (ckR ((x.drop A).take (1 + m + g.1))) := by
    rw [hb, frR, bn_app, e5]
    congr 1
    rw [ckR, ckR, e5]
  have hr : ((bn x).drop A).take (1 + m + g.1 + 4) = bn ((x.drop A).take (1 + m + g.1)) ++ bn ((x.drop (A + 1 + m + g.1)).take 4) := by
    generalize hL : 1 + m + g.1 = L
    rw [List.take_add, List.drop_drop, bn_take, bn_drop, bn_take, bn_drop, show A + L = A + 1 + m + g.1 by omega]
  rw [hb2, hr, show A + 1 + m + g.1 - A = 1 + m + g.1 by omega]
  constructor
  · intro h
    exact List.append_cancel_left h
  · intro h
    rw [h]
end Go.Am
/- Bytes of a frame are bytes. -/
namespace Go.Am
set_option linter.all false
set_option linter.deprecated false
open Go.Proofs
def C8 (x : List (List D)) : Prop := ∀ c ∈ x, 0 ≤ (lk c 0).toInt ∧ (lk c 0).toInt < 256
theorem C8.wf {x : List (List D)} (h : C8 x) (hl : x.length ≤ 9223372036854775807) : WfR U8 x := by
  refine ⟨hl, fun i hi => ?_⟩
  simp only [WfDs, WfD, and_true, u8_iff]
  have e : lk x i = x[i] := by simp [lk, List.getD, hi]
  rw [e]
  exact h _ (List.getElem_mem hi)
theorem C8.of {x : List (List D)} (h : WfR U8 x) : C8 x := by
  intro c hc
  have ⟨i, hi, e⟩ := List.getElem_of_mem hc
  have h1 := h.2 i hi
  simp only [WfDs, WfD, and_true, u8_iff] at h1
  have e2 : lk x i = x[i] := by simp [lk, List.getD, hi]
  rw [e2, e] at h1
  exact h1
theorem C8.app {x y : List (List D)} (h : C8 x) (h2 : C8 y) : C8 (x ++ y) := fun c hc => by
  rcases List.mem_append.1 hc with h3 | h3
  · exact h c h3
  · exact h2 c h3
theorem C8.rowB {b : List Nat} (h : ∀ v ∈ b, v < 256) : C8 (rowB b) := fun c hc => by
  simp only [Am.rowB, List.mem_map] at hc
  have ⟨v, hv, e⟩ := hc
  have := h v hv
  subst e
  simp only [lk, List.getD, List.getElem?_cons_zero, Option.getD_some, D.toInt]
  omega
theorem put1_lt8 : ∀ (f v : Nat), v < 128 ^ (f + 1) → ∀ c ∈ put1 f v, c < 256
  | 0, v, h => by simp [put1]; omega
  | f + 1, v, h => by
    have hd : v / 128 < 128 ^ (f + 1) := by rw [Nat.pow_succ] at h; omega
    have ih := put1_lt8 f (v / 128) hd
    simp only [put1]
    split
    · simp; omega
    · intro c hc
      rcases List.mem_cons.1 hc with e | e
      · omega
      · exact ih c e
theorem c8_frR {k : Int} {p : List (List D)} (hk : 0 ≤ k ∧ k < 256) (hp : C8 p) (hl : p.length < 18446744073709551616) : C8 (frR k p) := by
  have h1 : C8 [[D.int k]] := fun c hc => by
    rw [List.mem_singleton] at hc
    subst hc
    simpa [lk, D.toInt] using hk
  have h2 : C8 (rowB (putB p.length)) := C8.rowB (put1_lt8 9 _ (by omega))
  have h3 : C8 (frH k p) := (h1.app h2).app hp
  refine h3.app (C8.rowB ?_)
  intro v hv
  simp only [le4, List.mem_cons, List.not_mem_nil, or_false] at hv
  omega
end Go.Am
/- The reference's Get, of frames, keeps its contract. -/
namespace Go.Am
set_option linter.all false
set_option linter.deprecated false
open Go.Proofs
set_option maxRecDepth 100000
set_option maxHeartbeats 4000000
def rfgetC : Contract := { modes := [.ro, .ro], fn := fun args M => match args, M with
  | [.sl _ [.int .u8] xs, .int .i64 a], [] => some ⟨[fun _ => 8 * (xs ()).length + 1024 ≤ big],
      .tup [.agg [.int .u8 fun _ => (fgetR (xs ()) (a ())).k, .str fun _ => ofRow (fgetR (xs ()) (a ())).p], .int .i64 fun _ => (fgetR (xs ()) (a ())).n, .int .i64 fun _ => (fgetR (xs ()) (a ())).r],
      []⟩
  | _, _ => none }
def LGrg : List (Nat × Contract) := [(26, getC), (67, frputC)]
def Grg : Ctx := fun f => gget LGrg f
theorem Grg_ok : ∀ f C, Grg f = some C → CSound Try.prog f C := gget_cons rget_ok (gget_cons frput_ok (gget_nil _))
theorem rfget_ok : CSound Try.prog 61 rfgetC := by
  refine fsound' (G := Grg) (c := codeOf Try.f61) mixed tyT Grg_ok Try.func61 (by rfl) (by kernel_rfl) (by kernel_rfl) fun args M r hr hvc hw hm => ?_
  unfold rfgetC at hr
  simp only at hr
  split at hr <;> cases hr
  rename_i nn x a
  have hb : 8 * (x ()).length + 1024 ≤ big := hvc _ (List.mem_singleton.2 rfl)
  clear hvc hm
  have hx : x = fun _ => x () := rfl
  generalize x () = x at hx hb hw
  subst hx
  have hx : a = fun _ => a () := rfl
  generalize a () = a at hx hw
  subst hx
  have hb : 8 * x.length + 1024 ≤ 1099511627776 := hb
  simp only [WfVs, WfV, and_true] at hw
  have hwx := hw.1
  clear hw
  conv => cbv
  refine Split.mk (fun h => ?_) (fun h => ?_)
  · have h : a < 0 := of_decide_eq_true h
    have e : fgetR x a = ⟨0, [], 0, 1⟩ := by rw [fgetR, if_pos (.inl h)]
    conv => cbv
    refine .ofT (by simp) ?_
    conv => cbv
    simp [Hold.iff, e, ofRow]
  have h0 : ¬ a < 0 := of_decide_eq_false h
  conv => cbv
  refine Split.mk (fun h => ?_) (fun h => ?_)
  · have h : (x.length : Int) ≤ a := of_decide_eq_true h
    have e : fgetR x a = ⟨0, [], 0, 1⟩ := by rw [fgetR, if_pos (.inr h)]
    conv => cbv
    simp [Hold.iff, e, ofRow]
  have h1 : ¬ (x.length : Int) ≤ a := of_decide_eq_false h
  have ⟨A, hA⟩ := Int.eq_ofNat_of_zero_le (show 0 ≤ a by omega)
  subst hA
  have ea : IntKind.i64.wrap ((A : Int) + 1) = (A : Int) + 1 := wrap_i64 (by omega)
  have er : fgetR x (A : Int) = fgetG x (A : Int) (getS (bn x) (IntKind.i64.wrap ((A : Int) + 1))) := by rw [fgetR, if_neg (by omega), ea]
  have hf := @getS_fit (bn x) (IntKind.i64.wrap ((A : Int) + 1))
  rw [show (bn x).length = x.length by simp] at hf
  have hwh := @fget_whole x A (getS (bn x) (IntKind.i64.wrap ((A : Int) + 1)))
  conv => cbv
  rw [er]
  have hgd : ∀ g, getS (bn x) (IntKind.i64.wrap ((A : Int) + 1)) = g → getS (bn x) ((A : Int) + 1) = g := fun g hg => by rw [← ea]; exact hg
  generalize hgg : getS (bn x) (IntKind.i64.wrap ((A : Int) + 1)) = g at hf hwh ⊢
  have hwh := fun h0 h1 h2 p hp => @hwh (hgd g hgg) h0 h1 h2 p hp
  clear hgd hgg
  rw [ea] at hf
  refine Split.mk (fun h => ?_) (fun h => ?_)
  · have h : g.2.2 = 10 := by simpa using h
    have e : fgetG x (A : Int) g = ⟨0, [], 0, 2⟩ := by rw [fgetG, if_pos h]
    conv => cbv
    simp [Hold.iff, e, ofRow]
  have h2 : ¬ g.2.2 = 10 := by simpa using h
  have bad : ¬ (g.2.2 = 0 ∧ 4 ≤ (x.length : Int) - g.2.1 ∧ (g.1 : Int) ≤ (x.length : Int) - g.2.1 - 4) → fgetG x (A : Int) g = ⟨0, [], 0, 1⟩ := fun hn => by rw [fgetG, if_neg h2, if_neg hn]
  conv => cbv
  refine Split.mk (fun h => ?_) (fun h => ?_)
  · have h : ¬ g.2.2 = 0 := by simpa using h
    have e := bad (by omega)
    conv => cbv
    repeat (first | (refine .ofT ?_ ?_; (focus (first | (simp; done) | (simp [h]; done))); conv => cbv))
    simp [Hold.iff, e, ofRow]
  have h3 : g.2.2 = 0 := by simpa using h
  have hf := hf h3
  have wz : IntKind.u64.wrap (x.length : Int) = (x.length : Int) := wrap_u64 (by omega)
  conv => cbv
  refine Split.mk (fun h => ?_) (fun h => ?_)
  · have h : (IntKind.u64.wrap (x.length : Int)) < (g.1 : Int) := of_decide_eq_true h
    rw [wz] at h
    have e := bad (by omega)
    conv => cbv
    repeat (first | (refine .ofT ?_ ?_; (focus (first | (simp; done) | (simp [h3, wz]; done) | (simp [h3, wz]; omega))); conv => cbv))
    simp [Hold.iff, e, ofRow]
  have h4 : ¬ (IntKind.u64.wrap (x.length : Int)) < (g.1 : Int) := of_decide_eq_false h
  rw [wz] at h4
  have w3 : IntKind.i64.wrap (g.2.1 + IntKind.i64.wrap (g.1 : Int)) = g.2.1 + (g.1 : Int) := by rw [wrap_i64 (n := (g.1 : Int)) (by omega), wrap_i64 (by omega)]
  have w4 : IntKind.i64.wrap (IntKind.i64.wrap (g.2.1 + IntKind.i64.wrap (g.1 : Int)) + 4) = g.2.1 + (g.1 : Int) + 4 := by rw [w3, wrap_i64 (by omega)]
  conv => cbv
  refine Split.mk (fun h => ?_) (fun h => ?_)
  · have h : (x.length : Int) < IntKind.i64.wrap (IntKind.i64.wrap (g.2.1 + IntKind.i64.wrap (g.1 : Int)) + 4) := of_decide_eq_true h
    rw [w4] at h
    have e := bad (by omega)
    conv => cbv
    simp [Hold.iff, e, ofRow]
  have h5 : ¬ (x.length : Int) < IntKind.i64.wrap (IntKind.i64.wrap (g.2.1 + IntKind.i64.wrap (g.1 : Int)) + 4) := of_decide_eq_false h
  rw [w4] at h5
  have t1 : (IntKind.i64.wrap (g.2.1 + IntKind.i64.wrap (g.1 : Int))).toNat - g.2.1.toNat = g.1 := by rw [w3]; omega
  generalize hpay : (x.drop g.2.1.toNat).take g.1 = pay at hwh
  generalize hkk : (lk (lk x A) 0).toInt = k at hwh
  have hwp : WfR U8 pay := by rw [← hpay]; exact (hwx.drop _).take _
  have hbo : bn (sRow (ofRow pay)) = bn pay := bn_ofRow hwp
  have hwh := hwh h3 (by omega) (by omega) _ hbo
  have hkb : 0 ≤ k ∧ k < 256 := by
    have := hwx.2 A (by omega)
    simp only [WfDs, WfD, and_true, u8_iff] at this
    rw [← hkk]; exact this
  have hpl : pay.length ≤ x.length := by rw [← hpay, List.length_take, List.length_drop]; omega
  have hC : C8 (frR k (sRow (ofRow pay))) := c8_frR hkb (fun c hc => by
    simp only [sRow, List.mem_map] at hc
    obtain ⟨v, _, rfl⟩ := hc
    have := v.toNat_lt
    simp only [lk, List.getD, List.getElem?_cons_zero, Option.getD_some, D.toInt]
    omega) (by rw [sRow_len, ofRow_len]; omega)
  have hfl := frR_len k (sRow (ofRow pay))
  rw [sRow_len, ofRow_len] at hfl
  have hpp := put1_len 9 pay.length
  rw [← putB] at hpp
  have hgood : bn (frR k (sRow (ofRow pay))) = ((bn x).drop A).take (frR k (sRow (ofRow pay))).length → fgetG x (A : Int) g = ⟨k, pay, ((A + (frR k (sRow (ofRow pay))).length : Nat) : Int), 0⟩ := fun he => by
    have hc := hwh.2.2.1 he
    have h1 := hwh.1
    rw [fgetG, if_neg h2, if_pos (by omega), Int.toNat_natCast, if_pos hc, hkk, hpay]
    simp only [FG.mk.injEq, true_and, and_true]
    omega
  have hbad3 : ¬ bn (frR k (sRow (ofRow pay))) = ((bn x).drop A).take (frR k (sRow (ofRow pay))).length → fgetG x (A : Int) g = ⟨0, [], 0, 3⟩ := fun he => by
    have hc := fun h => he (hwh.2.2.2 h)
    rw [fgetG, if_neg h2, if_pos (by omega), Int.toNat_natCast, if_neg hc]
  have hle := hwh.2.1
  generalize hP : frR k (sRow (ofRow pay)) = pr at hC hfl hgood hbad3 hle
  have g4 : 0 ≤ (A : Int) ∧ (A : Int) < (x.length : Int) := by omega
  have g5 : 0 ≤ g.2.1 ∧ g.2.1 ≤ IntKind.i64.wrap (g.2.1 + IntKind.i64.wrap (g.1 : Int)) ∧ IntKind.i64.wrap (g.2.1 + IntKind.i64.wrap (g.1 : Int)) ≤ IntKind.i64.wrap (g.2.1 + IntKind.i64.wrap (g.1 : Int)) ∧ IntKind.i64.wrap (g.2.1 + IntKind.i64.wrap (g.1 : Int)) ≤ (x.length : Int) := by rw [w3]; omega
  have hol : ofRow pay = List.map (fun c => UInt8.ofNat (lk c 0).toInt.toNat) pay := rfl
  conv => cbv
  refine ⟨⟨g4⟩, ⟨g5⟩, ⟨?_⟩, ?_⟩
  · simp only [t1, hpay, Int.toNat_natCast, hkk, ← hol, hP, big]; omega
  refine LoopP.mk {i : Nat // i ≤ pr.length ∧ ∀ j, j < i → (bn pr).getD j 0 = (bn x).getD (A + j) 0} (fun s => ⟨ev 91 [(0, .sl false U8 fun _ => x), (1, .int .i64 fun _ => (A : Int)), (4, .mp 0 0), (10, .mp 1 0), (11, .ms 2 (fun _ => 0) fun _ => pr.length), (12, .int .i64 fun _ => (s.1 : Int))],
    [(0, .obj [.int .u8 fun _ => 0, .str fun _ => []]), (1, .obj [.int .u8 fun _ => k, .str fun _ => ofRow pay]), (2, .row false U8 fun _ => pr)], 8⟩) (fun s => pr.length - s.1) ⟨0, by omega, fun j hj => absurd hj (by omega)⟩ ?_ ?_
  · conv => cbv
    simp [Hold.iff, t1, hpay, hkk, ← hol, hP]
  · intro s
    have hs1 := s.2.1
    have hs2 := s.2.2
    conv => cbv
    refine .d (fun h => ?_) (fun h => ?_)
    · have h : (s.1 : Int) < (pr.length : Int) := h
      have h6 : s.1 < pr.length := by omega
      have w5 : IntKind.i64.wrap ((A : Int) + (s.1 : Int)) = ((A + s.1 : Nat) : Int) := by rw [wrap_i64 (by omega)]; omega
      have w6 : IntKind.i64.wrap ((s.1 : Int) + 1) = ((s.1 + 1 : Nat) : Int) := by rw [wrap_i64 (by omega)]; omega
      have v1 : 0 ≤ (s.1 : Int) ∧ (s.1 : Int) < (pr.length : Int) := by omega
      have v2 : 0 + ((s.1 : Int)).toNat < pr.length := by omega
      have v3 : 0 ≤ IntKind.i64.wrap ((A : Int) + (s.1 : Int)) ∧ IntKind.i64.wrap ((A : Int) + (s.1 : Int)) < (x.length : Int) := by rw [w5]; omega
      have b1 : (lk (lk pr s.1) 0).toInt = (((bn pr).getD s.1 0 : Nat) : Int) := bn_at (hC.wf (by omega)) h6
      have b2 : (lk (lk x (A + s.1)) 0).toInt = (((bn x).getD (A + s.1) 0 : Nat) : Int) := bn_at hwx (by omega)
      have t2 : (IntKind.i64.wrap ((A : Int) + (s.1 : Int))).toNat = A + s.1 := by rw [w5]; omega
      conv => cbv
      refine ⟨⟨v1⟩, ⟨v2⟩, ⟨v3⟩, ?_⟩
      by_cases he : (bn pr).getD s.1 0 = (bn x).getD (A + s.1) 0
      · refine .ofF (by simp only [t2, Int.toNat_natCast, Nat.zero_add, b1, b2, he]; simp) ?_
        conv => cbv
        refine ⟨⟨s.1 + 1, by omega, fun j hj => by
          by_cases e : j = s.1
          · rw [e]; exact he
          · exact hs2 j (by omega)⟩, by show pr.length - (s.1 + 1) < pr.length - s.1; omega, ?_⟩
        conv => cbv
        simp [Hold.iff, w6]
      · have e := hbad3 fun hall => he (by
          have := congrArg (fun z : List Nat => z.getD s.1 0) hall
          simpa [List.getD, List.getElem?_take, h6] using this)
        refine .ofT (by simp only [t2, Int.toNat_natCast, Nat.zero_add, b1, b2]; rw [bne_iff_ne]; exact fun e => he (Int.ofNat.inj e)) ?_
        conv => cbv
        simp [Hold.iff, e, ofRow]
    · have h : ¬ (s.1 : Int) < (pr.length : Int) := h
      have h6 : s.1 = pr.length := by omega
      have w5 : IntKind.i64.wrap ((A : Int) + (pr.length : Int)) = ((A + pr.length : Nat) : Int) := by rw [wrap_i64 (by omega)]; omega
      have e := hgood (by
        apply List.ext_getElem (by rw [List.length_take, List.length_drop, bn_len, bn_len]; omega)
        intro j hj1 hj2
        have hj3 : j < pr.length := by simpa using hj1
        have := hs2 j (by omega)
        have g1 : A + j < (bn x).length := by rw [bn_len]; omega
        have q1 : (bn pr)[j]? = some (bn pr)[j] := List.getElem?_eq_getElem hj1
        have q2 : (bn x)[A + j]? = some (bn x)[A + j] := List.getElem?_eq_getElem g1
        simp only [List.getD, q1, q2, Option.getD_some] at this
        simpa using this)
      conv => cbv
      simp [Hold.iff, e, w5]
end Go.Am
/- The same types, where a row of placed frames owns its payloads. -/
namespace Go.Am
set_option linter.all false
set_option linter.deprecated false
open Go.Proofs
set_option maxRecDepth 100000
theorem TIok.own {P : Program} {t s a z : Nat} {b : Bool} {zs : List AV} {e e' : List Sh} (h : TIok P t ⟨z, b, zs, .slice a s z e⟩) (hl : e'.length = e.length) : TIok P t ⟨z, b, zs, .slice a s z e'⟩ := by
  obtain ⟨⟨d, h1, h2, h3⟩, h4, h5⟩ := h
  exact ⟨⟨d, h1, ⟨h2.1, by rw [hl]; exact h2.2.1, h2.2.2⟩, h3⟩, h4, h5⟩
theorem TIok.own' {P : Program} {t s a eb z : Nat} {b : Bool} {zs : List AV} {e e' : List Sh} (h : TIok P t ⟨z, b, zs, .slice a s eb e⟩) (hl : e'.length = e.length) : TIok P t ⟨z, b, zs, .slice a s eb e'⟩ := by
  obtain ⟨⟨d, h1, h2, h3⟩, h4, h5⟩ := h
  exact ⟨⟨d, h1, ⟨h2.1, by rw [hl]; exact h2.2.1, h2.2.2⟩, h3⟩, h4, h5⟩
def Ty2 : TT := fun t => match Nat.beq t 104 with
  | true => some ⟨1, false, [.nils], .slice 120 4 48 [.int .u8, .ptr [.int .u8], .int .i64, .int .i64]⟩
  | false => Ty t
theorem tyT2 : ∀ t i, Ty2 t = some i → TIok Try.prog t i := by
  intro t i h
  unfold Ty2 at h
  split at h
  · rename_i hb
    have hb := Nat.eq_of_beq_eq_true hb
    subst hb
    cases h
    exact TIok.own' (e := [.int .u8, .slice [.int .u8], .int .i64, .int .i64]) (tyT 104 _ (by rfl)) rfl
  · exact tyT t i h
end Go.Am
/- frame.Split: its answer's payloads are its own. -/
namespace Go.Am
set_option linter.all false
set_option linter.deprecated false
open Go.Proofs
set_option maxRecDepth 100000
set_option maxHeartbeats 4000000
/-- Split, of bytes that stay the caller's own; each payload of the answer is its own -/
def fsplitC3 : Contract := { modes := [.mut], fn := fun args M => match args, M with
  | [.ms 0 lo len], [(0, .row false [.int .u8] xs)] => some ⟨[fun _ => lo () = 0 ∧ len () ≤ (xs ()).length ∧ len () + 64 ≤ big],
      .tup [.ms 1 (fun _ => 0) fun _ => (fspR ((xs ()).take (len ()))).1.length, .int .i64 fun _ => (fspR ((xs ()).take (len ()))).2.1, .int .i64 fun _ => (fspR ((xs ()).take (len ()))).2.2],
      [(1, some (.dp PlS 1 fun _ => (fspR ((xs ()).take (len ()))).1))]⟩
  | _, _ => none }
theorem fsplit_ok3 : CSound Try.prog 63 fsplitC3 := by
  refine fsoundR (G := Gfz) (FT := FTf) (c := codeOf Try.f63) mixed tyT2 Gfz_ok FTf_ok Try.func63 (by rfl) (by kernel_rfl) (by kernel_rfl) fun args M r hr hvc hw hm => ?_
  unfold fsplitC3 at hr
  simp only at hr
  split at hr <;> cases hr
  rename_i lo len zz
  have hb := hvc _ (List.mem_singleton.2 rfl)
  have h1 := hb.1
  have h2 := hb.2.1
  have hb : len () + 64 ≤ big := hb.2.2
  clear hvc hm hw
  have hx : lo = fun _ => lo () := rfl
  generalize lo () = lo at hx h1
  subst hx h1
  have hx : zz = fun _ => zz () := rfl
  generalize zz () = zz at hx h2
  subst hx
  have hx : len = fun _ => len () := rfl
  generalize len () = len at hx h2 hb
  subst hx
  have hxl : (zz.take len).length = len := by rw [List.length_take]; omega
  have ht : List.take len (List.drop 0 zz) = zz.take len := by simp
  generalize hxx : zz.take len = x at hxl ht
  have hb : x.length + 64 ≤ big := by omega
  have v1 : x.length ≤ big := by omega
  have hle : 0 + x.length ≤ zz.length := by omega
  clear h2
  subst hxl
  conv => cbv
  rw [ht]
  refine ⟨⟨hle⟩, ⟨v1⟩, ?_⟩
  intro l
  have hl : Nat.beq l l = true := Nat.beq_refl l
  conv at hl => lhs; cbv
  conv => cbv
  refine YLoopP.mk (SpY x) (fun s => ⟨ev 34 [(0, .yl l), (1, .mp 33 0), (3, .mp 43 0)],
    [(0, .row false U8 fun _ => zz), (1, .obj [.ms 42 (fun _ => 0) fun _ => s.o.length]), (9, .obj [.int .i64 fun _ => 0]), (17, .obj [.int .i64 fun _ => 0]), (33, .obj [.ms 34 (fun _ => 0) fun _ => x.length]), (34, .row false U8 fun _ => x), (42, .dp PlS 1 fun _ => s.o), (43, .obj [.int .i64 fun _ => s.a, .ms 34 (fun _ => 0) fun _ => x.length])], 48⟩) (fun s => s.f) ⟨x.length + 1, 0, [], by omega, by omega, by omega, by simp, rfl⟩ rfl ?_ ?_
  · conv => cbv
    rw [hl]
    conv => cbv
    simp [Hold.iff]
  · intro s
    have hs1 := s.h1
    have hs0 := s.h0
    have hso := s.ho
    conv => cbv
    refine .d (fun h => ?_) (fun h => ?_)
    · conv => cbv
      rw [hl]
      conv => cbv
      refine ⟨⟨(by simp [hb])⟩, ?_⟩
      by_cases hr : (fgetR x s.a).r = 0
      · refine .ofF (by simp [hr]) ?_
        have hf := fgetR_fit hr
        have hn := (s.next h hr).choose_spec
        generalize (s.next h hr).choose = y at hn
        have hna := hn.1
        have hno := hn.2.1
        conv => cbv
        repeat (first | (refine ⟨⟨?_⟩, ?_⟩; (focus (first | (simp; done) | (simp; omega)))))
        refine .ofF rfl ?_
        conv => cbv
        refine .ofF (by simp [hr]) ?_
        conv => cbv
        refine ⟨y, hn.2.2, ?_⟩
        conv => cbv
        rw [hl]
        conv => cbv
        rw [hna, hno]
        simp [Hold.iff, chunk, plc, dall]
      · refine .ofT (by simp [hr]) ?_
        have hn := s.bad h hr
        have hn2 := fgetR_bad hr
        conv => cbv
        refine .ofT rfl ?_
        conv => cbv
        refine .ofT rfl ?_
        conv => cbv
        rw [hn]
        simp [Hold.iff]
    · have hn := s.done h
      conv => cbv
      rw [hn]
      simp [Hold.iff]
end Go.Am
/- The reference's Split, of frames, keeps its contract. -/
namespace Go.Am
set_option linter.all false
set_option linter.deprecated false
open Go.Proofs
set_option maxRecDepth 100000
set_option maxHeartbeats 4000000
/-- what the reference tells of placed frames -/
def rsp (ys : List (List D)) : List (List D) := ys.map fun c => [lk c 0, D.str (ofRow (lk c 1).toList), lk c 2, lk c 3]
@[simp] theorem rsp_len (ys : List (List D)) : (rsp ys).length = ys.length := by simp [rsp]
theorem rsp_snoc (ys : List (List D)) (f : FG) (a : Int) : rsp (ys ++ [plc f a]) = rsp ys ++ [[D.int f.k, D.str (ofRow f.p), D.int a, D.int f.n]] := by
  simp [rsp, plc, lk, D.toList]
def rfsplitC : Contract := { modes := [.ro], fn := fun args M => match args, M with
  | [.sl _ [.int .u8] xs], [] => some ⟨[fun _ => 8 * (xs ()).length + 1024 ≤ big],
      .tup [.ms 0 (fun _ => 0) fun _ => (fspR (xs ())).1.length, .int .i64 fun _ => (fspR (xs ())).2.1, .int .i64 fun _ => (fspR (xs ())).2.2],
      [(0, some (.row false [.int .u8, .str, .int .i64, .int .i64] fun _ => rsp (fspR (xs ())).1))]⟩
  | _, _ => none }
def LGrs2 : List (Nat × Contract) := [(61, rfgetC)]
def Grs2 : Ctx := fun f => gget LGrs2 f
theorem Grs2_ok : ∀ f C, Grs2 f = some C → CSound Try.prog f C := gget_cons rfget_ok (gget_nil _)
theorem rfsplit_ok : CSound Try.prog 58 rfsplitC := by
  refine fsound' (G := Grs2) (c := codeOf Try.f58) mixed tyT Grs2_ok Try.func58 (by rfl) (by kernel_rfl) (by kernel_rfl) fun args M r hr hvc hw hm => ?_
  unfold rfsplitC at hr
  simp only at hr
  split at hr <;> cases hr
  rename_i nn x
  have hb : 8 * (x ()).length + 1024 ≤ big := hvc _ (List.mem_singleton.2 rfl)
  clear hvc hm hw
  have hx : x = fun _ => x () := rfl
  generalize x () = x at hx hb
  subst hx
  have hb2 : 8 * x.length + 1024 ≤ 1099511627776 := hb
  conv => cbv
  refine LoopP.mk (SpY x) (fun s => ⟨ev 36 [(0, .sl false U8 fun _ => x), (5, .ms 0 (fun _ => 0) fun _ => s.o.length), (6, .int .i64 fun _ => s.a)],
    [(0, .row false [.int .u8, .str, .int .i64, .int .i64] fun _ => rsp s.o)], 8⟩) (fun s => s.f) ⟨x.length + 1, 0, [], by omega, by omega, by omega, by simp, rfl⟩ ?_ ?_
  · conv => cbv
    simp [Hold.iff, rsp]
  · intro s
    have hs1 := s.h1
    have hs0 := s.h0
    have hso := s.ho
    conv => cbv
    refine .d (fun h => ?_) (fun h => ?_)
    · conv => cbv
      refine ⟨⟨(by simp [hb])⟩, ?_⟩
      by_cases hr : (fgetR x s.a).r = 0
      · have hn := (s.next h hr).choose_spec
        generalize (s.next h hr).choose = y at hn
        have hna := hn.1
        have hno := hn.2.1
        have hsn := rsp_snoc s.o (fgetR x s.a) s.a
        have htk : List.take s.o.length (rsp s.o) = rsp s.o := List.take_of_length_le (by simp)
        refine .ofF (by simp [hr]) ?_
        conv => cbv
        repeat (first | (refine ⟨⟨?_⟩, ?_⟩; (focus (first | (simp; done) | (simp [chunk]; done) | (simp [chunk, big]; omega)))))
        refine ⟨y, hn.2.2, ?_⟩
        conv => cbv
        rw [hna, hno, hsn]
        simp [Hold.iff, chunk, dall, htk]
      · refine .ofT (by simp [hr]) ?_
        have hn := s.bad h hr
        conv => cbv
        rw [hn]
        simp [Hold.iff]
    · have hn := s.done h
      have h : ¬ s.a < (x.length : Int) := h
      have ha : s.a = (x.length : Int) := by omega
      conv => cbv
      rw [hn]
      simp [Hold.iff, ha]
end Go.Am
/- A walk in parts: the operations ahead of one that is shown by hand; a row whose elements own their slices, seen as what stays. -/
namespace Go.Am
set_option linter.all false
set_option linter.deprecated false
section
variable {ds : List Deferred} {P : Program} {a : Act} {w w' w0 : World} {I I' I0 J : Nat → Prop} {σ σ' σ0 τ : Sig} {M M' M0 : MS} {T : TT} {G : Ctx}

theorem wopsN_pre (hT : ∀ t i, T t = some i → TIok P t i) (hG : ∀ f C, G f = some C → CSound P f C) {all : List Oper} {base : Nat} {Q : Exit → Act → World → Prop} {K : RS → Prop} {rest : List Oper} :
    ∀ (os : List Oper) (i : Nat) (r : RS) (a : Act) (w : World) (I : Nat → Prop) (σ : Sig), (∀ o ∈ os, o.guard = none) → wopsN T G all base os i r K → St ds w0 I0 σ0 M0 r.env r.M (base + 8 * i) a w I σ → ResOk r.res a.tmps →
      (∀ r' a' w' I' σ', K r' → St ds w0 I0 σ0 M0 r'.env r'.M (base + 8 * (i + os.length)) a' w' I' σ' → wpList P all.toArray Q rest a' w') → wpList P all.toArray Q (os ++ rest) a w
  | [], i, r, a, w, I, σ, _, h, hs, _, hQ => hQ r a w I σ h (by simpa using hs)
  | o :: os, i, r, a, w, I, σ, hgd, h, hs, hres, hQ => by
    have hQ' : ∀ r' a' w' I' σ', K r' → St ds w0 I0 σ0 M0 r'.env r'.M (base + 8 * (i + 1 + os.length)) a' w' I' σ' → wpList P all.toArray Q rest a' w' := fun r' a' w' I' σ' hk hst => hQ r' a' w' I' σ' hk (by
      rw [show i + (o :: os).length = i + 1 + os.length by simp; omega]; exact hst)
    have hgd' : ∀ o ∈ os, o.guard = none := fun x hx => hgd x (List.mem_cons_of_mem _ hx)
    have hg : o.guard = none := hgd o List.mem_cons_self
    have run : ∀ (r : RS), St ds w0 I0 σ0 M0 r.env r.M (base + 8 * i) a w I σ → ResOk r.res a.tmps → wopN T G i base o r (fun r => wopsN T G all base os (i + 1) r K) → o.wp P a w (wpList P all.toArray Q (os ++ rest)) Q := by
      intro r hs hres hw
      unfold wopN at hw
      split at hw
      · rename_i e he
        obtain ⟨hvc, hw⟩ := vcs_iff _ _ hw
        refine aop_ok hT hG hs.ok hs.envr hres (fun k hk _ => hs.free k hk) he hvc _ _ fun v w' hp => ?_
        obtain ⟨I', σ', hs'⟩ := hs.step o.dst hp
        exact wopsN_pre hT hG os (i + 1) _ _ _ I' σ' hgd' hw (by rw [show base + 8 * (i + 1) = base + 8 * i + 8 by omega]; exact hs') (hres.put _ _) hQ'
      · split at hw
        · exact hw.elim
        · rename_i n hn
          obtain ⟨hvc, hw⟩ := vcs_iff _ _ hw
          refine nop_ok hT hG hs.ok hs.envr (fun k hk _ => hs.free k hk) hn hvc _ _ fun v w' hp => ?_
          obtain ⟨d, hd, hp⟩ := hp
          have hw := hw d hd
          split at hw
          · exact hw.elim
          · rename_i e he
            obtain ⟨I', σ', hs'⟩ := hs.step o.dst (hp e he)
            exact wopsN_pre hT hG os (i + 1) _ _ _ I' σ' hgd' hw (by rw [show base + 8 * (i + 1) = base + 8 * i + 8 by omega]; exact hs') (hres.put _ _) hQ'
    unfold wopsN at h
    rw [hg] at h
    simp only [List.cons_append]
    unfold wpList
    rw [if_pos (by simp [Region.wanted, hg])]
    exact .inl (run r hs hres h)
/-- values that say nothing of memory but by two keys -/
def plainV : AV → Bool
  | .un | .int .. | .bool _ | .nils | .nilp | .nilf => true
  | .ms 0 _ _ | .ms 1 _ _ => true
  | .me 0 _ _ => true
  | _ => false
theorem plainV_ok {v : AV} {u : Value} (h : plainV v = true) (h0 : ∀ p, σ 0 = some p → τ 0 = some p) (h1 : ∀ p, σ 1 = some p → τ 1 = some p) (hv : VR w I σ v u) : VR w' J τ v u := by
  unfold plainV at h
  split at h <;> (try (cases h; done))
  · simp only [VR]
  · simpa only [VR] using hv
  · simpa only [VR] using hv
  · simpa only [VR] using hv
  · simpa only [VR] using hv
  · simpa only [VR] using hv
  · simp only [VR] at hv ⊢
    cases hs : σ 0 with
    | none => rw [hs] at hv; exact hv.elim
    | some p => rw [h0 p hs, ← hs]; exact hv
  · simp only [VR] at hv ⊢
    cases hs : σ 1 with
    | none => rw [hs] at hv; exact hv.elim
    | some p => rw [h1 p hs, ← hs]; exact hv
  · simp only [VR] at hv ⊢
    cases hs : σ 0 with
    | none => rw [hs] at hv; exact hv.elim
    | some p => rw [h0 p hs, ← hs]; exact hv
def plainE (E : List AV) : Prop := ∀ t, plainV (lget E t) = true
/-- the row, all of it seen as what stays -/
theorem DpR.row {p : Pl} {e : List Sh} {j : Nat} {xs : List (List D)} {cs : Array Value} {t : TypeId} {fz : Nat × Nat} {us : List Value} {F : Nat → Option Nat} (h : DpR w p e j xs cs t fz us F) (hJ : ∀ b, p.fs b → J b) : RowR w J p e xs := by
  have ho := h.o0.1
  have hs2 := h.size
  refine ⟨cs, t, fz, h.blk, ⟨h.unf.unfz (by omega), .none h.o0.2.2 h.unf⟩, by rw [h.o0.2.1]; omega, h.sz, h.pos, h.len, h.cap, fun i hi => ?_⟩
  rw [ho, Nat.zero_add]
  have key : ∀ (ss : List Sh) (q : Nat), (∀ k s, ss[k]? = some s → e[q + k]? = some s) → DatC w J ss q (lk xs i) p.b (i * p.sz) := by
    intro ss
    induction ss with
    | nil => intro q _; trivial
    | cons s ss ih =>
      intro q hq
      have hs := hq 0 s rfl
      rw [Nat.add_zero] at hs
      obtain ⟨u, h1, h2, h3⟩ := h.rows.2 i hi q s hs
      simp only [DatC]
      refine ⟨⟨u, ?_, ?_⟩, ih (q + 1) fun k s' hk => ?_⟩
      · rw [h.sz, cell_of_row w p.b _ cs t fz h.blk]
        exact h.pre _ u h1
      · by_cases hqj : q = j
        · have h2 := h2 hqj
          have hown := h.own i
          generalize F i = f at h2 hown
          cases f with
          | none =>
            cases s with
            | slice v =>
              obtain ⟨ad, cap, rfl, g2, g3, g4, g5⟩ := h2
              simp only [Dat]
              exact ⟨ad, 0, cap, rfl, by rw [g2]; rfl, Nat.zero_le _, g3, g4, g5, fun i hi => by omega⟩
            | _ => exact h2.elim
          | some b =>
            cases s with
            | slice v =>
              obtain ⟨cap, pp, rfl, rfl, g2, g3, cs2, t2, fz2, g4, g5, g6, g7, g8, g9, g10, g11⟩ := h2
              simp only [Dat]
              refine ⟨_, _, _, rfl, rfl, g2, by omega, by simp, g8, fun i' hi' => ⟨pp.b, pp.o, rfl, hJ pp.b (hown pp.b hi rfl), ?_⟩⟩
              have := g11 i' hi'
              rw [← g7]
              exact DatC.keep' (fun _ h => h.elim) (fun _ h => h.elim) v 0 _ _ _ rfl this
            | _ => exact h2.elim
        · exact Dat.keep (fun _ h => h.elim) (fun _ h => h.elim) s _ u (h3 hqj)
      · have := hq (k + 1) s' (by simpa using hk)
        rwa [show q + 1 + k = q + (k + 1) by omega]
  exact key e 0 fun k s hk => by rw [Nat.zero_add]; exact hk
end
end Go.Am
/- alibidocs.SamePlaced: what stays of its memory between the parts of its walk. -/
namespace Go.Am
set_option linter.all false
set_option linter.deprecated false
open Go.Proofs
set_option maxRecDepth 100000
set_option maxHeartbeats 4000000
abbrev RfS : List Sh := [.int .u8, .str, .int .i64, .int .i64]
def spOk (c d : List D) : Bool := (lk c 0).toInt == (lk d 0).toInt && ofRow (lk c 1).toList == (lk d 1).toStr && (lk c 2).toInt == (lk d 2).toInt && (lk c 3).toInt == (lk d 3).toInt
def sameP (xs ys : List (List D)) : Bool := xs.length == ys.length && (List.range xs.length).all fun i => spOk (lk xs i) (lk ys i)
section
variable {w w' w0 : World} {po q1 : Option Pl} {xs zs : List (List D)} {a a' : Act} {E : List AV} {J : Nat → Prop} {τ : Sig} {nx : Nat}
def IA (po : Option Pl) (b : Nat) : Prop := ∃ p, po = some p ∧ (p.b = b ∨ p.fs b)
def SA (po q1 : Option Pl) : Sig := fun k => if k = 0 then some po else if k = 1 then some q1 else none
def MA (xs zs : List (List D)) : MS := [(0, .imm false PlS fun _ => xs), (1, .row false RfS fun _ => zs)]
structure SpW (w0 : World) (po q1 : Option Pl) (zs xs : List (List D)) (w : World) : Prop where
  dp : OR w (fun _ => False) (fun _ => none) po (.dp PlS 1 fun _ => xs)
  row : OR w (fun _ => False) (fun _ => none) q1 (.row false RfS fun _ => zs)
  sep : ∀ q, q1 = some q → ¬ IA po q.b
  os : w.os = w0.os
  tape : w.tape = w0.tape
  output : w.output = w0.output
  size : w0.heap.size ≤ w.heap.size
  same : ∀ b, b < w0.heap.size → ¬ IA po b → (∀ q, q1 = some q → q.b ≠ b) → w.heap[b]? = w0.heap[b]?
structure SpA (w0 : World) (po q1 : Option Pl) (zs xs : List (List D)) (E : List AV) (a : Act) (w : World) : Prop where
  mem : SpW w0 po q1 zs xs w
  env : EnvR w (fun _ => False) (SA po q1) E a.tmps
  len : E.length ≤ a.tmps.size
  def0 : a.defers = []
theorem row_any {I I' : Nat → Prop} {σ σ' : Sig} {p : Option Pl} (h : OR w I σ p (.row false RfS fun _ => zs)) : OR w I' σ' p (.row false RfS fun _ => zs) := by
  have h2 := flatO_ok (I' := I') (x := .row false RfS fun _ => zs) rfl h
  cases p <;> exact h2
theorem dp_any {I I' : Nat → Prop} {σ σ' : Sig} {p : Option Pl} {e : List Sh} {j : Nat} {x : Unit → List (List D)} (h : OR w I σ p (.dp e j x)) : OR w I' σ' p (.dp e j x) := by
  cases p <;> exact h
theorem imm_of_dp {σ : Sig} (h : OR w (fun _ => False) (fun _ => none) po (.dp PlS 1 fun _ => xs)) : OR w (IA po) σ po (.imm false PlS fun _ => xs) := by
  cases po with
  | none => exact ⟨rfl, h.1, by decide⟩
  | some p =>
    obtain ⟨cs, t, fz, us, F, h⟩ := h
    exact ⟨h.row fun b hb => ⟨p, rfl, .inr hb⟩, p, rfl, .inl rfl⟩
theorem MA_get {k : Nat} {o : MObj} (h : mget (MA xs zs) k = some o) : (k = 0 ∧ o = .imm false PlS fun _ => xs) ∨ (k = 1 ∧ o = .row false RfS fun _ => zs) := by
  simp only [MA, mget] at h
  split at h
  · rename_i hb
    cases h
    exact .inl ⟨(Nat.eq_of_beq_eq_true hb).symm, rfl⟩
  · split at h <;> (try (cases h; done))
    rename_i hb
    cases h
    exact .inr ⟨(Nat.eq_of_beq_eq_true hb).symm, rfl⟩
theorem MA_own {b : Nat} (h : Owned (SA po q1) (MA xs zs) b) : ∃ q, q1 = some q ∧ q.b = b := by
  obtain ⟨k, o, p, hk, ho, hs, hf⟩ := h
  rcases MA_get hk with ⟨rfl, rfl⟩ | ⟨rfl, rfl⟩
  · exact ho.elim
  · simp only [SA, if_neg (show ¬ (1 : Nat) = 0 by decide), if_true, Option.some.injEq] at hs
    exact ⟨p, hs, hf⟩
theorem SpW.lt (h : SpW w0 po q1 zs xs w) {b : Nat} (hb : IA po b) : b < w.heap.size := by
  obtain ⟨p, rfl, hf⟩ := hb
  exact h.dp.foot_lt hf
theorem SpW.ok (h : SpW w0 po q1 zs xs w) : Ok w (IA po) (SA po q1) (MA xs zs) := by
  refine ⟨fun b hb => h.lt hb, fun k o hk => ?_, fun b hb hi => ?_, fun k k' o o' p p' b hk hk' ho ho' _ _ _ _ => ?_⟩
  · rcases MA_get hk with ⟨rfl, rfl⟩ | ⟨rfl, rfl⟩
    · exact ⟨po, rfl, imm_of_dp h.dp⟩
    · exact ⟨q1, rfl, row_any h.row⟩
  · obtain ⟨q, rfl, rfl⟩ := MA_own hb
    exact h.sep q rfl hi
  · rcases MA_get hk with ⟨rfl, rfl⟩ | ⟨rfl, rfl⟩
    · exact ho.elim
    · rcases MA_get hk' with ⟨rfl, rfl⟩ | ⟨rfl, rfl⟩
      · exact ho'.elim
      · rfl
theorem SpA.st (h : SpA w0 po q1 zs xs E a w) (hE : plainE E) : St [] w (IA po) (SA po q1) (MA xs zs) E (MA xs zs) 8 a w (IA po) (SA po q1) :=
  ⟨fun t => plainV_ok (hE t) (fun _ h => h) (fun _ h => h) (h.env t), h.len, h.mem.ok, fun k hk => by simp only [SA]; rw [if_neg (by omega), if_neg (by omega)], Ext.refl h.mem.ok, h.def0⟩
theorem SpA.back (h : SpW w0 po q1 zs xs w) (hs : St [] w (IA po) (SA po q1) (MA xs zs) E (MA xs zs) nx a' w' J τ) (hE : plainE E) : SpA w0 po q1 zs xs E a' w' := by
  have hx := hs.ext
  have t0 : τ 0 = some po := hx.sig 0 po rfl
  have t1 : τ 1 = some q1 := hx.sig 1 q1 rfl
  have hI : ∀ b, IA po b → w'.heap[b]? = w.heap[b]? := fun b hb => hx.blk b (h.lt hb) fun ho => by
    obtain ⟨q, rfl, rfl⟩ := MA_own ho
    exact h.sep q rfl hb
  refine ⟨⟨?_, ?_, h.sep, hx.os.trans h.os, hx.tape.trans h.tape, hx.output.trans h.output, Nat.le_trans h.size hx.size, fun b hb hi hq => ?_⟩, fun t => plainV_ok (hE t) (fun p hp => by rw [t0] at hp; cases hp; rfl) (fun p hp => by rw [t1] at hp; cases hp; rfl) (hs.envr t), hs.len, hs.def0⟩
  · have K : Keep w (fun _ => False) (fun _ => none) w' (fun _ => False) (fun _ => none) := ⟨fun _ h => h.elim, fun _ h => h, fun _ _ h => h⟩
    exact OR.keep K (fun q b hq hf => hI b ⟨q, hq, hf⟩) h.dp
  · obtain ⟨p, hp, ho⟩ := hs.ok.obj 1 _ rfl
    rw [t1] at hp
    cases hp
    exact row_any ho
  · rw [hx.blk b (Nat.lt_of_lt_of_le hb h.size) fun ho => by
      obtain ⟨q, e1, e2⟩ := MA_own ho
      exact hq q e1 e2]
    exact h.same b hb hi hq
def plainL : List AV → Bool
  | [] => true
  | v :: vs => plainV v && plainL vs
theorem plainE_of : ∀ {E : List AV}, plainL E = true → plainE E
  | [], _, t => by cases t <;> rfl
  | v :: vs, h, t => by
    simp only [plainL, Bool.and_eq_true] at h
    cases t with
    | zero => exact h.1
    | succ t => exact plainE_of h.2 t
/-- a part of the walk -/
theorem seg {P : Program} {T : TT} {G : Ctx} (hp : P.follows .mixedOrders = true) (hT : ∀ t i, T t = some i → TIok P t i) (hG : ∀ f C, G f = some C → CSound P f C) {c : Code} (hc : codeOk c = true) (h : SpA w0 po q1 zs xs E a w) (hE : plainL E = true)
    {R : AExit → List AV → Prop} (hR : ∀ e E', R e E' → plainL E' = true) (hw : awp T G 2 c (fun e s' => ∃ E', R e E' ∧ fit 2 s' ⟨E', MA xs zs, 8⟩) ⟨E, MA xs zs, 8⟩)
    {Q : Exit → Act → World → Prop} (hQ : ∀ e E' a' w', R e E' → SpA w0 po q1 zs xs E' a' w' → Q e.to a' w') : c.wp P Q a w := by
  have hm : ∀ k, 2 ≤ k → SA po q1 k = none := fun k hk => by simp only [SA]; rw [if_neg (by omega), if_neg (by omega)]
  refine awp_ok hm hp hT hG c hc _ _ _ _ _ _ _ hw (h.st (plainE_of hE)) fun e s' a' w' I' σ' hq hst => ?_
  obtain ⟨E', hr, hf⟩ := hq
  obtain ⟨J, τ, hst2⟩ := fit_ok hm hst hf
  exact hQ e E' a' w' hr (SpA.back h.mem hst2 (plainE_of (hR e E' hr)))
end
end Go.Am
/- alibidocs.SamePlaced: the parts of its code; a byte of a payload is counted up. -/
namespace Go.Am
set_option linter.all false
set_option linter.deprecated false
open Go.Proofs
set_option maxRecDepth 100000
set_option maxHeartbeats 4000000
def cL : Code → Code | .seq a _ => a | c => c
def cR : Code → Code | .seq _ b => b | c => c
def cB : Code → Code | .block _ c => c | c => c
def cO : Code → Code | .loop c => c | c => c
def cOps : Code → List Oper | .region _ ops _ => ops.toList | _ => []
noncomputable def c64 : Code := codeOf Try.f64
noncomputable def c64BL : Code := cR (cL (cR (cR c64)))
noncomputable def c64LB : Code := cO (cB c64BL)
noncomputable def c64BB : Code := cB (cL (cR c64LB))
noncomputable def c64IL : Code := cO (cB (cR (cR c64BB)))
noncomputable def c64W : Code := cL (cR c64IL)
noncomputable def ops11 : List Oper := cOps (cB c64W)
noncomputable def ld11 : Oper := ops11.getD 5 default
theorem c64W_eq : c64W = .block 3 (.region 11 ops11.toArray false) := by rfl
theorem ops11_eq : ops11 = ops11.take 5 ++ ld11 :: ops11.drop 6 := by rfl
theorem ops11_len : ops11.length = 12 := by rfl
theorem ld11_op : ld11.op = .load 23 (.tmp 71) := by rfl
theorem ld11_dst : ld11.dst = some 72 := by rfl
theorem ld11_guard : ld11.guard = none := by rfl
section
variable {ds : List Deferred} {P : Program} {w w' w0 : World} {po q1 : Option Pl} {xs zs : List (List D)} {a a' : Act} {E : List AV} {I I0 J : Nat → Prop} {σ σ0 τ : Sig} {M M0 : MS} {nx : Nat} {env : List AV}
theorem St.weaken (hs : St ds w0 I0 σ0 M0 env M nx a w I σ) (h : ∀ t, lget E t = .un ∨ lget E t = lget env t) (hl : E.length ≤ a.tmps.size) : St ds w0 I0 σ0 M0 E M nx a w I σ :=
  ⟨fun t => by
    rcases h t with e | e
    · rw [e]; simp only [VR]
    · rw [e]; exact hs.envr t, hl, hs.ok, hs.free, hs.ext, hs.def0⟩
def E5 (n l1 n1 i : Nat) : List AV := ev 78 [(0, .ms 0 (fun _ => 0) fun _ => n), (1, .ms 1 (fun _ => l1) fun _ => n1), (5, .int .i64 fun _ => (i : Int))]
def E6 (n l1 n1 i k : Nat) : List AV := ev 78 [(0, .ms 0 (fun _ => 0) fun _ => n), (1, .ms 1 (fun _ => l1) fun _ => n1), (5, .int .i64 fun _ => (i : Int)), (6, .int .i64 fun _ => (k : Int))]
def E6C (n l1 n1 i k m : Nat) : List AV := ev 78 [(0, .ms 0 (fun _ => 0) fun _ => n), (1, .ms 1 (fun _ => l1) fun _ => n1), (5, .int .i64 fun _ => (i : Int)), (6, .int .i64 fun _ => (k : Int)), (72, .ms 2 (fun _ => 0) fun _ => m)]
theorem E6_at (n l1 n1 i k : Nat) : ∀ t, lget (E6 n l1 n1 i k) t = .un ∨ t = 0 ∨ t = 1 ∨ t = 5 ∨ t = 6 := by
  intro t
  by_cases h : t < 7
  · match t, h with
    | 0, _ => exact .inr (.inl rfl)
    | 1, _ => exact .inr (.inr (.inl rfl))
    | 2, _ => exact .inl rfl
    | 3, _ => exact .inl rfl
    | 4, _ => exact .inl rfl
    | 5, _ => exact .inr (.inr (.inr (.inl rfl)))
    | 6, _ => exact .inr (.inr (.inr (.inr rfl)))
  · left
    obtain ⟨s, rfl⟩ : ∃ s, t = 7 + s := ⟨t - 7, by omega⟩
    have e : lget (E6 n l1 n1 i k) (7 + s) = lget (uns 71) s := by
      rw [Nat.add_comm]
      rfl
    rw [e]
    exact uns_get 71 s
theorem E6_len (n l1 n1 i k : Nat) : (E6 n l1 n1 i k).length = 78 := by rfl
theorem lk_set_same {x : List (List D)} {i : Nat} (h : i < x.length) (c : List D) : lk (x.set i c) i = c := by simp [lk, List.getD, h]
theorem lk_set_other {x : List (List D)} {i j : Nat} (h : i ≠ j) (c : List D) : lk (x.set i c) j = lk x j := by simp only [lk, List.getD]; rw [List.getElem?_set_ne h]
def G64 : Ctx := fun f => gget [(62, fconvC)] f
theorem G64_ok : ∀ f C, G64 f = some C → CSound Try.prog f C := gget_cons fconv_ok (gget_nil _)
/-- a byte counted up -/
theorem sp_write {n l1 n1 i k : Nat} (hn : xs.length = n) (h : SpA w0 po q1 zs xs (E6 n l1 n1 i k) a w) (hi : i < n) (hn2 : n < 4611686018427387904) (hk : k < (lk (lk xs i) 1).toList.length) (hk2 : (lk (lk xs i) 1).toList.length < 4611686018427387904) :
    c64W.wp Try.prog (fun e a' w' => e = .normal ∧ ∃ ys, ys.length = (lk (lk xs i) 1).toList.length ∧ SpA w0 po q1 zs (xs.set i [lk (lk xs i) 0, D.list ys, lk (lk xs i) 2, lk (lk xs i) 3]) (E6 n l1 n1 i k) a' w') a w := by
  rw [c64W_eq]
  refine wp_block (wp_region_list ?_)
  show wpList Try.prog ops11.toArray _ ops11 a w
  conv => arg 4; rw [ops11_eq]
  have hm : ∀ k, 2 ≤ k → SA po q1 k = none := fun k hk => by simp only [SA]; rw [if_neg (by omega), if_neg (by omega)]
  have hpl : plainL (E6 n l1 n1 i k) = true := by rfl
  refine wopsN_pre (ds := []) (w0 := w) (I0 := IA po) (σ0 := SA po q1) (M0 := MA xs zs) (T := Ty) (G := G64) tyT G64_ok (base := 8) (K := fun r => r.M = MA xs zs ∧ r.env.length = 78 ∧ lget r.env 0 = .ms 0 (fun _ => 0) (fun _ => n) ∧ lget r.env 1 = .ms 1 (fun _ => l1) (fun _ => n1) ∧ lget r.env 5 = .int .i64 (fun _ => (i : Int)) ∧ lget r.env 6 = .int .i64 (fun _ => (k : Int)) ∧ ∃ f, lget r.env 71 = .me 0 f 1 ∧ f () = i)
    (ops11.take 5) 0 ⟨E6 n l1 n1 i k, MA xs zs, [], []⟩ a w (IA po) (SA po q1) ?_ ?_ (by simpa using h.st (plainE_of hpl)) (fun s b hb => by simp [rget] at hb) ?_
  · intro o ho
    have : ∀ o ∈ ops11.take 5, o.guard = none := by
      have e : (ops11.take 5).map (·.guard) = [none, none, none, none, none] := by rfl
      intro o ho
      have h1 : o.guard ∈ (ops11.take 5).map (·.guard) := List.mem_map_of_mem ho
      rw [e] at h1
      simpa using h1
    exact this o ho
  · have v1 : 0 ≤ (i : Int) ∧ (i : Int) < (n : Int) := by omega
    conv => cbv
    refine ⟨⟨v1⟩, _, rfl, ?_⟩
    simp
  · intro r1 a1 w1 J1 τ1 hK hst1
    obtain ⟨hM, hlen, e0, e1, e5, e6, f, e71, hf⟩ := hK
    rw [hM] at hst1
    have hsz : (E6 n l1 n1 i k).length ≤ a1.tmps.size := by rw [E6_len, ← hlen]; exact hst1.len
    have hst1' := hst1.weaken (E := E6 n l1 n1 i k) (fun t => by
      rcases E6_at n l1 n1 i k t with q | rfl | rfl | rfl | rfl
      · exact .inl q
      · right; rw [e0]; rfl
      · right; rw [e1]; rfl
      · right; rw [e5]; rfl
      · right; rw [e6]; rfl) hsz
    have h1 := SpA.back h.mem hst1' (plainE_of hpl)
    have t0 : τ1 0 = some po := hst1.ext.sig 0 po rfl
    have hv71 := hst1.envr 71
    rw [e71] at hv71
    simp only [VR] at hv71
    rw [t0] at hv71
    have hdp := h1.mem.dp
    have hsep := h1.mem.sep
    cases po with
    | none => exact hv71.elim
    | some p =>
      simp only [PtR, hf] at hv71
      obtain ⟨cs, t, fz, us, F, hd⟩ := hdp
      rw [hd.o0.1] at hv71
      simp only [Nat.zero_add] at hv71
      have hil : i < xs.length := by omega
      obtain ⟨u, hu1, hu2, _⟩ := hd.rows.2 i hil 1 (.slice [.int .u8]) rfl
      have hu2 := hu2 rfl
      have hown := hd.own i
      have hFi : ∃ b, F i = some b := by
        cases hF : F i with
        | some b => exact ⟨b, rfl⟩
        | none =>
          rw [hF] at hu2
          obtain ⟨_, _, _, e, _⟩ := hu2
          rw [e] at hk
          simp at hk
      obtain ⟨b, hFb⟩ := hFi
      rw [hFb] at hu2
      obtain ⟨cap, pp, hpp, hu, hc1, hc2, hrow⟩ := hu2
      have hfb : p.fs b := hd.own i b hil hFb
      have hpb : p.b ≠ b := fun e => hd.ne (e ▸ hfb)
      generalize hpl1 : (lk (lk xs i) 1).toList = pl at hk hk2 hu hc1 hrow
      obtain ⟨m, hpm⟩ : ∃ m, pl.length = m := ⟨_, rfl⟩
      have hcap : pp.cap ≤ maxLen := by obtain ⟨_, _, _, _, _, _, _, _, _, g, _⟩ := hrow; exact g
      have hbl : b < w1.heap.size := by obtain ⟨_, _, _, g, _⟩ := hrow; rw [← hpp]; exact (Array.getElem?_eq_some_iff.1 g).1
      obtain ⟨σC, hσC⟩ : ∃ σC : Sig, σC = fun k => if k = 2 then some (some (pp)) else SA (some p) q1 k := ⟨_, rfl⟩
      have hC0 : σC 0 = some (some p) := by rw [hσC]; rfl
      have hC1 : σC 1 = some q1 := by rw [hσC]; rfl
      have hC2 : σC 2 = some (some (pp)) := by rw [hσC]; rfl
      have hMC : ∀ k o, mget [(2, MObj.row false [.int .u8] fun _ => pl)] k = some o → k = 2 ∧ o = .row false [.int .u8] fun _ => pl := fun k o hk => by
        simp only [mget] at hk
        split at hk <;> (try (cases hk; done))
        rename_i hb
        cases hk
        exact ⟨(Nat.eq_of_beq_eq_true hb).symm, rfl⟩
      have hokC : Ok w1 (fun _ => False) σC [(2, MObj.row false [.int .u8] fun _ => pl)] := by
        refine ⟨fun _ h => h.elim, fun k o hk => ?_, fun _ _ h => h, fun k k' o o' _ _ _ hk hk' _ _ _ _ _ _ => ?_⟩
        · obtain ⟨rfl, rfl⟩ := hMC k o hk
          exact ⟨_, hC2, hrow, fun h => by cases h⟩
        · rw [(hMC k o hk).1, (hMC k' o' hk').1]
      -- the load of the payload's slice
      have hld : ∃ v, (loadVar 23 ⟨p.b, i * p.sz + 1, none⟩).run Try.prog w1 = .ok v w1 ∧ VR w1 (fun _ => False) σC (.ms 2 (fun _ => 0) fun _ => m) v := by
        have := run_loadVar_of (P := Try.prog) (w := w1) (I := fun _ => False) (σ := σC) (tyT 23 _ (by rfl)) (b := p.b) (off := i * p.sz + 1) (cs := [.ms 2 (fun _ => 0) fun _ => m]) (us := [u]) ?_ ?_ (show 1 ≤ 1 by decide) (show 1 ≤ 1 by decide)
        · exact this
        · simp only [VRs, VR]
          refine ⟨u, [], rfl, ?_, rfl⟩
          rw [hC2]
          simp only [MsR]
          exact ⟨pp.o, cap, by rw [← hpm, hpp]; exact hu, .inr (by simp), by simpa using hc2, by rw [← hpm]; exact hc1, hcap⟩
        · intro j x hj
          cases j with
          | zero =>
            simp only [List.getElem?_cons_zero, Option.some.injEq] at hj
            subst hj
            rw [Nat.add_zero, cell_of_row w1 p.b _ cs t fz hd.blk, hd.sz]
            exact hd.pre _ _ hu1
          | succ j => simp at hj
      obtain ⟨v, hv1, hv2⟩ := hld
      unfold wpList
      rw [if_pos (by simp [Region.wanted, ld11_guard])]
      left
      have hdo : Does Try.prog ld11 a1 w1 (fun x w' => x = v ∧ w' = w1) := by
        refine Does.value (v := v) (w' := w1) ?_ ⟨rfl, rfl⟩
        simp only [execOp, ld11_op]
        have he : a1.eval (.tmp 71) = .pointer (some ⟨p.b, i * p.sz + 1, none⟩) := hv71
        rw [he]
        simp [Instr.loadAt, Instr.sureAddr, hv1]
      refine hdo _ _ fun x w' hx => ?_
      obtain ⟨rfl, rfl⟩ := hx
      rw [ld11_dst]
      -- the rest, with the payload as a row of its own
      have hszp : 78 ≤ (a1.put (some 72) x).tmps.size := by rw [put_size]; rw [E6_len] at hsz; exact hsz
      have hget : ∀ t, t ≠ 72 → (a1.put (some 72) x).tmps.getD t undef = a1.tmps.getD t undef := fun t ht => by
        rw [put_get, if_neg (fun q => ht (by simpa using q.1.symm))]
      have hstC : St [] w' (fun _ => False) σC [(2, MObj.row false [.int .u8] fun _ => pl)] (E6C n l1 n1 i k m) [(2, MObj.row false [.int .u8] fun _ => pl)] (8 + 8 * 6) (a1.put (some 72) x) w' (fun _ => False) σC := by
        refine ⟨fun t => ?_, hszp, hokC, fun k hk => ?_, Ext.refl hokC, by rw [put_defers]; exact hst1.def0⟩
        · by_cases ht : t = 72
          · subst ht
            rw [put_get, if_pos ⟨rfl, by rw [E6_len] at hsz; omega⟩]
            exact hv2
          · rw [hget t ht]
            have h6 := h1.env t
            have e : lget (E6C n l1 n1 i k m) t = lget (E6 n l1 n1 i k) t := by
              by_cases h7 : t < 7
              · match t, h7 with
                | 0, _ => rfl
                | 1, _ => rfl
                | 2, _ => rfl
                | 3, _ => rfl
                | 4, _ => rfl
                | 5, _ => rfl
                | 6, _ => rfl
              · obtain ⟨s, rfl⟩ : ∃ s, t = 7 + s := ⟨t - 7, by omega⟩
                have g1 : lget (E6 n l1 n1 i k) (7 + s) = lget (uns 71) s := by rw [Nat.add_comm]; rfl
                have g2 : lget (E6C n l1 n1 i k m) (7 + s) = lget (lset (uns 71) 65 (.ms 2 (fun _ => 0) fun _ => m)) s := by rw [Nat.add_comm]; rfl
                rw [g1, g2, lset_eq, lget_eq, lget_eq, List.getD, List.getD, List.getElem?_set_ne (by omega)]
            rw [e]
            exact plainV_ok (plainE_of hpl t) (fun q hq => by rw [hC0]; exact hq) (fun q hq => by rw [hC1]; exact hq) h6
        · rw [hσC]
          simp only [SA]
          rw [if_neg (by omega), if_neg (by omega), if_neg (by omega)]
      refine wopsN_seq (ds := []) (w0 := w') (I0 := fun _ => False) (σ0 := σC) (M0 := [(2, MObj.row false [.int .u8] fun _ => pl)]) (T := Ty) (G := G64) tyT G64_ok (base := 8) (K := fun r => r.env.length = 78 ∧ lget r.env 0 = .ms 0 (fun _ => 0) (fun _ => n) ∧ lget r.env 1 = .ms 1 (fun _ => l1) (fun _ => n1) ∧ lget r.env 5 = .int .i64 (fun _ => (i : Int)) ∧ lget r.env 6 = .int .i64 (fun _ => (k : Int)) ∧ ∃ g, r.M = [(2, .row false [.int .u8] g)] ∧ (g ()).length = pl.length)
        (ops11.drop 6) 6 ⟨E6C n l1 n1 i k m, [(2, MObj.row false [.int .u8] fun _ => pl)], [], []⟩ _ _ _ _ ?_ hstC (fun s b hb => by simp [rget] at hb) ?_
      · have v1 : 0 ≤ (k : Int) ∧ (k : Int) < (m : Int) := by omega
        have v2 : 0 + ((k : Int)).toNat < pl.length := by omega
        conv => cbv
        refine ⟨⟨v1⟩, ⟨v2⟩, ⟨v1⟩, ⟨v2⟩, _, rfl, ?_⟩
        simp
      · intro r2 a2 w2 J2 τ2 hK2 hst2
        obtain ⟨hlen2, g0, g1, g5, g6, g, hM2, hgl⟩ := hK2
        rw [hM2] at hst2
        refine ⟨rfl, g (), hgl, ?_⟩
        have hx := hst2.ext
        have hownC : ∀ b', Owned σC [(2, MObj.row false [.int .u8] fun _ => pl)] b' → b' = b := by
          rintro b' ⟨k', o, q, hk', _, hs, hf⟩
          obtain ⟨rfl, rfl⟩ := hMC k' o hk'
          rw [hC2] at hs
          cases hs
          exact hf.symm.trans hpp
        have hsame : ∀ b', b' < w'.heap.size → b' ≠ b → w2.heap[b']? = w'.heap[b']? := fun b' hb' hne => hx.blk b' hb' fun ho => hne (hownC b' ho)
        have hrow2 : RowR w2 (fun _ => False) (pp) [.int .u8] (g ()) := by
          obtain ⟨q, hq, ho⟩ := hst2.ok.obj 2 _ rfl
          rw [hx.sig 2 _ hC2] at hq
          cases hq
          exact flatRow (J := fun _ => False) rfl ho.1
        have hltf : ∀ b', p.fs b' → b' < w'.heap.size := fun b' hb' => by obtain ⟨y, hy⟩ := hd.lt b' hb'; exact (Array.getElem?_eq_some_iff.1 hy).1
        have hpbl : p.b < w'.heap.size := (Array.getElem?_eq_some_iff.1 hd.blk).1
        have hdp2 : DpR w2 p PlS 1 (xs.set i [lk (lk xs i) 0, D.list (g ()), lk (lk xs i) 2, lk (lk xs i) 3]) cs t fz us F := by
          refine ⟨by rw [hsame _ hpbl hpb]; exact hd.blk, hd.unf, hd.size, hd.sz, hd.pos, by rw [List.length_set]; exact hd.len, hd.cap, hd.col, ⟨by rw [List.length_set]; exact hd.rows.1, fun j hj q s hq => ?_⟩, hd.pre, fun i1 i2 b' h1' h2' => hd.inj i1 i2 b' (by simpa using h1') (by simpa using h2'), fun j b' hj => hd.own j b' (by simpa using hj), hd.ne, fun b' hb' => ?_, hd.o0⟩
          · rw [List.length_set] at hj
            obtain ⟨y, y1, y2, y3⟩ := hd.rows.2 j hj q s hq
            refine ⟨y, y1, fun hq1 => ?_, fun hq1 => ?_⟩
            · subst hq1
              by_cases hij : i = j
              · subst hij
                rw [lk_set_same hil]
                cases hq
                rw [hFb]
                rw [hu1] at y1
                cases y1
                refine ⟨cap, pp, hpp, by rw [hu]; show _ = Value.slice _ (g ()).length cap; rw [hgl], by show (g ()).length ≤ cap; rw [hgl]; exact hc1, hc2, hrow2⟩
              · rw [lk_set_other hij]
                refine (y2 rfl).keep fun b' hb' => hsame b' (hltf b' (hd.own j b' hj hb')) fun e => hij ?_
                subst e
                exact hd.inj i j b' hil hj hFb hb'
            · have y3 := y3 hq1
              have e : lk (lk (xs.set i [lk (lk xs i) 0, D.list (g ()), lk (lk xs i) 2, lk (lk xs i) 3]) j) q = lk (lk xs j) q := by
                by_cases hij : i = j
                · subst hij
                  rw [lk_set_same hil]
                  match q, hq with
                  | 0, _ => rfl
                  | 1, _ => exact (hq1 rfl).elim
                  | 2, _ => rfl
                  | 3, _ => rfl
                · rw [lk_set_other hij]
              rw [e]
              exact Dat.keep (fun _ h => h.elim) (fun _ h => h) s _ y y3
          · by_cases hbb : b' = b
            · subst hbb
              obtain ⟨_, _, _, hh, _⟩ := hrow2
              rw [hpp] at hh
              exact ⟨_, hh⟩
            · rw [hsame b' (hltf b' hb') hbb]
              exact hd.lt b' hb'
        have hmem := h1.mem
        refine ⟨⟨⟨cs, t, fz, us, F, hdp2⟩, ?_, hsep, hx.os.trans hmem.os, hx.tape.trans hmem.tape, hx.output.trans hmem.output, Nat.le_trans hmem.size hx.size, fun b' hb' hni hq => ?_⟩, fun t' => ?_, by rw [E6_len, ← hlen2]; exact hst2.len, hst2.def0⟩
        · have K : Keep w' (fun _ => False) (fun _ => none) w2 (fun _ => False) (fun _ => none) := ⟨fun _ h => h.elim, fun _ h => h, fun _ _ h => h⟩
          refine OR.keep K (fun q b' hq hf => ?_) hmem.row
          have hlt' : b' < w'.heap.size := by
            have := hmem.row
            rw [hq] at this
            exact this.foot_lt hf
          refine hsame b' hlt' fun e => ?_
          have hf : q.b = b' := hf
          subst hf
          exact hsep q hq ⟨p, rfl, .inr (e ▸ hfb)⟩
        · rw [hsame b' (Nat.lt_of_lt_of_le hb' hmem.size) fun e => hni ⟨p, rfl, .inr (e ▸ hfb)⟩]
          exact hmem.same b' hb' hni hq
        · have hv := hst2.envr t'
          have e : lget (E6 n l1 n1 i k) t' = .un ∨ lget (E6 n l1 n1 i k) t' = lget r2.env t' := by
            rcases E6_at n l1 n1 i k t' with q | rfl | rfl | rfl | rfl
            · exact .inl q
            · right; rw [g0]; rfl
            · right; rw [g1]; rfl
            · right; rw [g5]; rfl
            · right; rw [g6]; rfl
          rcases e with e | e
          · rw [e]; simp only [VR]
          · rw [← e] at hv
            refine plainV_ok (plainE_of hpl t') (fun q hq => ?_) (fun q hq => ?_) hv
            · have h3 := hx.sig 0 _ hC0
              rw [h3] at hq
              cases hq
              rfl
            · have h3 := hx.sig 1 _ hC1
              rw [h3] at hq
              cases hq
              rfl
end
end Go.Am
/- alibidocs.SamePlaced: its inner loop. -/
namespace Go.Am
set_option linter.all false
set_option linter.deprecated false
open Go.Proofs
set_option maxRecDepth 100000
set_option maxHeartbeats 4000000
section
variable {w w' w0 : World} {po q1 : Option Pl} {xs zs : List (List D)} {a a' : Act}
/-- all elements but one are the same; that one's payload is as long -/
structure Near (xs xs' : List (List D)) (i : Nat) : Prop where
  len : xs'.length = xs.length
  other : ∀ j, j ≠ i → lk xs' j = lk xs j
  pay : (lk (lk xs' i) 1).toList.length = (lk (lk xs i) 1).toList.length
theorem Near.refl (xs : List (List D)) (i : Nat) : Near xs xs i := ⟨rfl, fun _ _ => rfl, rfl⟩
theorem Near.next {xs' : List (List D)} {i : Nat} (h : Near xs xs' i) (hi : i < xs'.length) {ys : List (List D)} (hy : ys.length = (lk (lk xs' i) 1).toList.length) (c0 c2 c3 : D) : Near xs (xs'.set i [c0, D.list ys, c2, c3]) i := by
  refine ⟨by rw [List.length_set]; exact h.len, fun j hj => by rw [lk_set_other (fun e => hj e.symm)]; exact h.other j hj, ?_⟩
  rw [lk_set_same hi, ← h.pay, ← hy]
  rfl
noncomputable def c64H3 : Code := cL c64IL
noncomputable def c64R10 : Code := cR (cR c64IL)
theorem c64IL_eq : c64IL = .seq c64H3 (.seq c64W c64R10) := by rfl
theorem c64BI_eq : cR (cR c64BB) = .block 2 (.loop c64IL) := by rfl
theorem sp_inner {n l1 n1 i : Nat} (hn : xs.length = n) (h : SpA w0 po q1 zs xs (E6 n l1 n1 i 0) a w) (hi : i < n) (hn2 : n < 4611686018427387904) (hk2 : (lk (lk xs i) 1).toList.length < 4611686018427387904) :
    (cR (cR c64BB)).wp Try.prog (fun e a' w' => e = .normal ∧ ∃ xs', Near xs xs' i ∧ SpA w0 po q1 zs xs' (E5 n l1 n1 i) a' w') a w := by
  rw [c64BI_eq]
  refine wp_block (wp_loop_ghost (fun m a w => ∃ k xs', k ≤ (lk (lk xs i) 1).toList.length ∧ (lk (lk xs i) 1).toList.length - k = m ∧ Near xs xs' i ∧ SpA w0 po q1 zs xs' (E6 n l1 n1 i k) a w) _ ⟨0, xs, by omega, rfl, .refl xs i, h⟩ ?_)
  rintro m a w ⟨k, xs', hk, hm, hnr, h⟩
  have hL := hnr.pay
  have hnl : xs'.length = n := by rw [hnr.len]; exact hn
  rw [c64IL_eq]
  refine wp_seq ?_
  refine seg (G := G64) (E := E6 n l1 n1 i k) (R := fun e E' => (e = .normal ∧ E' = E6 n l1 n1 i k ∧ k < (lk (lk xs' i) 1).toList.length) ∨ (e = .exit 2 ∧ E' = E5 n l1 n1 i)) mixed tyT G64_ok (c := c64H3) (by kernel_rfl) h (by rfl) (fun e E' hr => by rcases hr with ⟨_, rfl, _⟩ | ⟨_, rfl⟩ <;> rfl) ?_ ?_
  · have v1 : 0 ≤ (i : Int) ∧ (i : Int) < (n : Int) := by omega
    have v2 : 0 + ((i : Int)).toNat < xs'.length := by omega
    have e1 : (0 + ((i : Int)).toNat) = i := by omega
    conv => cbv
    refine ⟨⟨v1⟩, ⟨v2⟩, ?_⟩
    by_cases hkl : k < (lk (lk xs' i) 1).toList.length
    · refine .ofT (by simp [hkl]) ?_
      refine ⟨E6 n l1 n1 i k, .inl ⟨rfl, rfl, hkl⟩, ?_⟩
      conv => cbv
      simp [Hold.iff]
    · refine .ofF (by simp; omega) ?_
      refine ⟨E5 n l1 n1 i, .inr ⟨rfl, rfl⟩, ?_⟩
      conv => cbv
      simp [Hold.iff]
  · intro e E' a' w' hr h'
    rcases hr with ⟨rfl, rfl, hkl⟩ | ⟨rfl, rfl⟩
    · show (Code.seq c64W c64R10).wp Try.prog _ a' w'
      refine wp_seq (wp_mono (sp_write hnl h' hi hn2 hkl (by omega)) fun e2 a2 w2 hq => ?_)
      obtain ⟨rfl, ys, hy, h2⟩ := hq
      have hnr2 := hnr.next (by omega) hy (lk (lk xs' i) 0) (lk (lk xs' i) 2) (lk (lk xs' i) 3)
      show c64R10.wp Try.prog _ a2 w2
      refine seg (G := G64) (E := E6 n l1 n1 i k) (R := fun e E' => e = .normal ∧ E' = E6 n l1 n1 i (k + 1)) mixed tyT G64_ok (c := c64R10) (by kernel_rfl) h2 (by rfl) (fun e E' hr => by rcases hr with ⟨_, rfl⟩; rfl) ?_ ?_
      · have hw1 : IntKind.i64.wrap ((k : Int) + 1) = ((k + 1 : Nat) : Int) := by rw [wrap_i64 (by omega)]; omega
        refine ⟨E6 n l1 n1 i (k + 1), ⟨rfl, rfl⟩, ?_⟩
        conv => cbv
        simp [Hold.iff, hw1]
      · intro e3 E3 a3 w3 hr3 h3
        obtain ⟨rfl, rfl⟩ := hr3
        exact ⟨(lk (lk xs i) 1).toList.length - (k + 1), by omega, k + 1, _, by omega, rfl, hnr2, h3⟩
    · simp only [AExit.to, Exit.then, Exit.inBlock, if_true, true_and]
      exact ⟨xs', hnr, h'⟩
end
end Go.Am
/- alibidocs.SamePlaced keeps its contract. -/
namespace Go.Am
set_option linter.all false
set_option linter.deprecated false
open Go.Proofs
set_option maxRecDepth 100000
set_option maxHeartbeats 4000000
section
variable {w w' w0 : World} {po q1 : Option Pl} {xs zs : List (List D)} {a a' : Act}
noncomputable def c64H1 : Code := cL c64LB
noncomputable def c64R5 : Code := cR (cR c64LB)
noncomputable def c64H2 : Code := cL c64BB
noncomputable def c64R8 : Code := cL (cR c64BB)
theorem c64BL_eq : c64BL = .seq (cL c64BL) (cR c64BL) ∨ True := .inr trivial
def Er (b : Bool) : List AV := ev 78 [(4, .bool fun _ => b)]
theorem sp_cmp {n l1 n1 i : Nat} (hn : xs.length = n) (h : SpA w0 po q1 zs xs (E5 n l1 n1 i) a w) (hi : i < n) (hn1 : n1 = n) (hz : l1 + n1 ≤ zs.length) (hn2 : zs.length < 4611686018427387904) :
    c64H2.wp Try.prog (fun e a' w' => (e = .normal ∧ spOk (lk xs i) (lk zs (l1 + i)) = true ∧ SpA w0 po q1 zs xs (E5 n l1 n1 i) a' w') ∨ (e = .ret ∧ spOk (lk xs i) (lk zs (l1 + i)) = false ∧ SpA w0 po q1 zs xs (Er false) a' w')) a w := by
  refine seg (G := G64) (E := E5 n l1 n1 i) (R := fun e E' => (e = .normal ∧ spOk (lk xs i) (lk zs (l1 + i)) = true ∧ E' = E5 n l1 n1 i) ∨ (e = .ret ∧ spOk (lk xs i) (lk zs (l1 + i)) = false ∧ E' = Er false)) mixed tyT G64_ok (c := c64H2) (by kernel_rfl) h (by rfl) (fun e E' hr => by rcases hr with ⟨_, _, rfl⟩ | ⟨_, _, rfl⟩ <;> rfl) ?_ ?_
  · have v1 : 0 ≤ (i : Int) ∧ (i : Int) < (n : Int) := by omega
    have v2 : 0 + ((i : Int)).toNat < xs.length := by omega
    have v3 : 0 ≤ (i : Int) ∧ (i : Int) < (n1 : Int) := by omega
    have v4 : l1 + ((i : Int)).toNat < zs.length := by omega
    have e1 : (0 + ((i : Int)).toNat) = i := by omega
    conv => cbv
    repeat (first | (refine ⟨⟨?_⟩, ?_⟩; (focus (first | exact v1 | exact v2 | exact v3 | exact v4))))
    by_cases hA : (lk (lk xs i) 0).toInt = (lk (lk zs (l1 + i)) 0).toInt ∧ ofRow (lk (lk xs i) 1).toList = (lk (lk zs (l1 + i)) 1).toStr
    · refine .ofF (by simp [hA.1, hA.2]) ?_
      conv => cbv
      repeat (first | (refine ⟨⟨?_⟩, ?_⟩; (focus (first | exact v1 | exact v2 | exact v3 | exact v4))))
      by_cases hB : (lk (lk xs i) 2).toInt = (lk (lk zs (l1 + i)) 2).toInt
      · refine .ofF (by simp [hB]) ?_
        conv => cbv
        repeat (first | (refine ⟨⟨?_⟩, ?_⟩; (focus (first | exact v1 | exact v2 | exact v3 | exact v4))))
        by_cases hC : (lk (lk xs i) 3).toInt = (lk (lk zs (l1 + i)) 3).toInt
        · refine .ofF (by simp [hC]) ?_
          refine ⟨E5 n l1 n1 i, .inl ⟨rfl, by simp [spOk, hA.1, hA.2, hB, hC], rfl⟩, ?_⟩
          conv => cbv
          simp [Hold.iff]
        · refine .ofT (by simp [hC]) ?_
          conv => cbv
          refine ⟨Er false, .inr ⟨rfl, by simp [spOk, hC], rfl⟩, ?_⟩
          conv => cbv
          simp [Hold.iff]
      · refine .ofT (by simp [hB]) ?_
        conv => cbv
        refine .ofT rfl ?_
        conv => cbv
        refine ⟨Er false, .inr ⟨rfl, by simp [spOk, hB], rfl⟩, ?_⟩
        conv => cbv
        simp [Hold.iff]
    · refine .ofT (by simp; exact Classical.not_and_iff_not_or_not.1 hA) ?_
      conv => cbv
      refine .ofT rfl ?_
      conv => cbv
      refine .ofT rfl ?_
      conv => cbv
      refine ⟨Er false, .inr ⟨rfl, by simpa [spOk] using fun h1 h2 => absurd ⟨h1, h2⟩ hA, rfl⟩, ?_⟩
      conv => cbv
      simp [Hold.iff]
  · intro e E' a' w' hr h'
    rcases hr with ⟨rfl, h1, rfl⟩ | ⟨rfl, h1, rfl⟩
    · exact .inl ⟨rfl, h1, h'⟩
    · exact .inr ⟨rfl, h1, h'⟩
theorem c64BL_is : c64BL = .block 0 (.loop c64LB) := by rfl
theorem c64LB_is : c64LB = .seq c64H1 (.seq (.block 1 c64BB) c64R5) := by rfl
theorem c64BB_is : c64BB = .seq c64H2 (.seq c64R8 (cR (cR c64BB))) := by rfl
theorem sp_outer {n l1 n1 : Nat} (hn : xs.length = n) (h : SpA w0 po q1 zs xs (E5 n l1 n1 0) a w) (hn1 : n1 = n) (hz : l1 + n1 ≤ zs.length) (hn2 : zs.length < 4611686018427387904) (hpay : ∀ i, i < n → (lk (lk xs i) 1).toList.length < 4611686018427387904) :
    c64BL.wp Try.prog (fun e a' w' => (e = .normal ∧ (∀ j, j < n → spOk (lk xs j) (lk zs (l1 + j)) = true) ∧ ∃ xs', SpA w0 po q1 zs xs' (E5 n l1 n1 n) a' w') ∨ (e = .ret ∧ (∃ j, j < n ∧ spOk (lk xs j) (lk zs (l1 + j)) = false) ∧ ∃ xs', SpA w0 po q1 zs xs' (Er false) a' w')) a w := by
  rw [c64BL_is]
  refine wp_block (wp_loop_ghost (fun m a w => ∃ i xs', i ≤ n ∧ n - i = m ∧ xs'.length = n ∧ (∀ j, i ≤ j → lk xs' j = lk xs j) ∧ (∀ j, j < i → spOk (lk xs j) (lk zs (l1 + j)) = true) ∧ SpA w0 po q1 zs xs' (E5 n l1 n1 i) a w) _ ⟨0, xs, by omega, rfl, hn, fun _ _ => rfl, fun j hj => absurd hj (by omega), h⟩ ?_)
  rintro m a w ⟨i, xs', hi, hm, hl, hsame, hok, h⟩
  rw [c64LB_is]
  refine wp_seq ?_
  refine seg (G := G64) (E := E5 n l1 n1 i) (R := fun e E' => (e = .normal ∧ E' = E5 n l1 n1 i ∧ i < n) ∨ (e = .exit 0 ∧ E' = E5 n l1 n1 i ∧ ¬ i < n)) mixed tyT G64_ok (c := c64H1) (by kernel_rfl) h (by rfl) (fun e E' hr => by rcases hr with ⟨_, rfl, _⟩ | ⟨_, rfl, _⟩ <;> rfl) ?_ ?_
  · conv => cbv
    by_cases hin : i < n
    · refine .ofT (by simp [hin]) ?_
      refine ⟨E5 n l1 n1 i, .inl ⟨rfl, rfl, hin⟩, ?_⟩
      conv => cbv
      simp [Hold.iff]
    · refine .ofF (by simp; omega) ?_
      refine ⟨E5 n l1 n1 i, .inr ⟨rfl, rfl, hin⟩, ?_⟩
      conv => cbv
      simp [Hold.iff]
  · intro e E' a1 w1 hr h1
    rcases hr with ⟨rfl, rfl, hin⟩ | ⟨rfl, rfl, hin⟩
    · show (Code.seq (.block 1 c64BB) c64R5).wp Try.prog _ a1 w1
      refine wp_seq (wp_block ?_)
      rw [c64BB_is]
      refine wp_seq (wp_mono (sp_cmp hl h1 hin hn1 hz hn2) fun e2 a2 w2 hq => ?_)
      rw [hsame i (Nat.le_refl _)] at hq
      rcases hq with ⟨rfl, hq1, h2⟩ | ⟨rfl, hq1, h2⟩
      · show (Code.seq c64R8 (cR (cR c64BB))).wp Try.prog _ a2 w2
        refine wp_seq ?_
        refine seg (G := G64) (E := E5 n l1 n1 i) (R := fun e E' => e = .normal ∧ E' = E6 n l1 n1 i 0) mixed tyT G64_ok (c := c64R8) (by kernel_rfl) h2 (by rfl) (fun e E' hr => by rcases hr with ⟨_, rfl⟩; rfl) ?_ ?_
        · refine ⟨E6 n l1 n1 i 0, ⟨rfl, rfl⟩, ?_⟩
          conv => cbv
          simp [Hold.iff]
        · intro e3 E3 a3 w3 hr3 h3
          obtain ⟨rfl, rfl⟩ := hr3
          show (cR (cR c64BB)).wp Try.prog _ a3 w3
          refine wp_mono (sp_inner hl h3 hin (by omega) (by rw [hsame i (Nat.le_refl _)]; exact hpay i hin)) fun e4 a4 w4 hq4 => ?_
          obtain ⟨rfl, xs2, hnr, h4⟩ := hq4
          show c64R5.wp Try.prog _ a4 w4
          refine seg (G := G64) (E := E5 n l1 n1 i) (R := fun e E' => e = .normal ∧ E' = E5 n l1 n1 (i + 1)) mixed tyT G64_ok (c := c64R5) (by kernel_rfl) h4 (by rfl) (fun e E' hr => by rcases hr with ⟨_, rfl⟩; rfl) ?_ ?_
          · have hw1 : IntKind.i64.wrap ((i : Int) + 1) = ((i + 1 : Nat) : Int) := by rw [wrap_i64 (by omega)]; omega
            refine ⟨E5 n l1 n1 (i + 1), ⟨rfl, rfl⟩, ?_⟩
            conv => cbv
            simp [Hold.iff, hw1]
          · intro e5 E5' a5 w5 hr5 h5
            obtain ⟨rfl, rfl⟩ := hr5
            refine ⟨n - (i + 1), by omega, i + 1, xs2, by omega, rfl, by rw [hnr.len]; exact hl, fun j hj => ?_, fun j hj => ?_, h5⟩
            · rw [hnr.other j (by omega)]
              exact hsame j (by omega)
            · by_cases hji : j = i
              · subst hji; exact hq1
              · exact hok j (by omega)
      · simp only [Exit.then, Exit.inBlock]
        exact .inr ⟨trivial, ⟨i, hin, hq1⟩, xs', h2⟩
    · simp only [AExit.to, Exit.then, Exit.inBlock, if_true]
      have hin' : i = n := by omega
      subst hin'
      exact .inl ⟨trivial, hok, xs', h1⟩
end
end Go.Am
