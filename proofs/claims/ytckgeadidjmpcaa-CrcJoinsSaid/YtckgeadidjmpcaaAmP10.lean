/- crc: the program's functions keep their contracts. -/
import Derived.Test.YtckgeadidjmpcaaAmM2
import Derived.Test.YtckgeadidjmpcaaAmNz
import Derived.Test.YtckgeadidjmpcaaAmP9
namespace Go.Am
set_option linter.all false
set_option linter.deprecated false
open Go.Proofs
set_option maxRecDepth 100000
set_option maxHeartbeats 4000000
def byteC : Contract := { modes := [.mut, .ro], fn := fun args M => match args, M with
  | [.mp 0 0, .int .u8 c], [(0, .obj [.int .u32 s, .int .i64 m])] => some ⟨[], .tup [], [(0, some (.obj [.int .u32 fun _ => ((cbyte (BitVec.ofNat 32 (s ()).toNat) (c ()).toNat).toNat : Int), .int .i64 fun _ => IntKind.i64.wrap (m () + 1)]))]⟩
  | _, _ => none }
structure BI (r : B32) where
  i : Nat
  v : B32
  hi : i ≤ 8
  h : citer (8 - i) v = citer 8 r
theorem byte_ok : CSound Try.prog 82 byteC := by
  refine fsound' (G := G0) (c := codeOf Try.f82) mixed tyT (gget_nil _) Try.func82 (by rfl) (by kernel_rfl) (by kernel_rfl) fun args M r hr hvc hw hm => ?_
  unfold byteC at hr
  simp only at hr
  split at hr <;> cases hr
  rename_i c s m
  obtain ⟨c, rfl⟩ : ∃ x, c = fun _ => x := ⟨c (), rfl⟩
  obtain ⟨s, rfl⟩ : ∃ x, s = fun _ => x := ⟨s (), rfl⟩
  obtain ⟨m, rfl⟩ : ∃ x, m = fun _ => x := ⟨m (), rfl⟩
  have hm := hm ⟨rfl, trivial⟩
  simp only [WfM, WfO, WfVs, WfV, and_true, u8_iff, u32_iff, true_and] at hm hw
  obtain ⟨b, rfl⟩ := b32_of hm.1
  obtain ⟨c, rfl⟩ := Int.eq_ofNat_of_zero_le hw.1
  have hc : c < 256 := by omega
  clear hvc
  have e1 := start32 b c hc
  conv => cbv
  refine LoopP.mk (BI (~~~ b ^^^ BitVec.ofNat 32 c)) (fun x => ⟨finit 35 [.mp 0 0, .un, .un, .un, .int .u32 fun _ => (x.v.toNat : Int), .un, .un, .un, .un, .un, .un, .un, .un, .int .i64 fun _ => (x.i : Int)], [(0, .obj [.int .u32 fun _ => (b.toNat : Int), .int .i64 fun _ => m])], 73⟩) (fun x => 8 - x.i) ⟨0, _, by omega, rfl⟩ ?_ ?_
  · conv => cbv
    exact ⟨⟨e1⟩, ⟨rfl⟩, ⟨rfl⟩, ⟨rfl⟩⟩
  · intro ⟨i, v, hi, h⟩
    conv => cbv
    refine Split.mk (fun h2 => ?_) (fun h2 => ?_)
    · have h2 : (i : Int) < 8 := of_decide_eq_true h2
      have hw1 : IntKind.i64.wrap ((i : Int) + 1) = ((i + 1 : Nat) : Int) := by rw [wrap_i64 (by omega)]; omega
      have h3 : citer (8 - (i + 1)) (csh v) = citer 8 (~~~ b ^^^ BitVec.ofNat 32 c) := by
        rw [← h, show 8 - i = (8 - (i + 1)) + 1 by omega]; rfl
      have h4 : i + 1 ≤ 8 ∧ 8 - (i + 1) < 8 - i := by omega
      have h5 : (0 : Int) ≤ 1 := by decide
      conv => cbv
      refine ⟨⟨h5⟩, ⟨i + 1, csh v, h4.1, h3⟩, h4.2, ?_⟩
      conv => cbv
      exact ⟨⟨step32 v⟩, ⟨hw1⟩, ⟨rfl⟩, ⟨rfl⟩⟩
    · have h2 : ¬ (i : Int) < 8 := of_decide_eq_false h2
      obtain rfl : i = 8 := by omega
      have h : v = citer 8 (~~~ b ^^^ BitVec.ofNat 32 c) := h
      have h3 : cbyte (BitVec.ofNat 32 ((b.toNat : Int)).toNat) ((c : Int)).toNat = ~~~ v := by rw [h, ofNat_toNat32]; rfl
      conv => cbv
      refine ⟨⟨?_⟩, ⟨rfl⟩⟩
      show _ = (((cbyte (BitVec.ofNat 32 ((b.toNat : Int)).toNat) ((c : Int)).toNat).toNat : Nat) : Int)
      rw [h3]
      exact ib_not v
def addC : Contract := { modes := [.mut, .ro], fn := fun args M => match args, M with
  | [.nilp, .sl _ [.int .u8] _], [] => some ⟨[], .tup [], []⟩
  | [.mp 0 0, .sl _ [.int .u8] xs], [(0, .obj [.int .u32 s, .int .i64 m])] => some ⟨[fun _ => 0 ≤ m () ∧ m () + (xs ()).length < 9223372036854775808], .tup [],
      [(0, some (.obj [.int .u32 fun _ => ((crcs (BitVec.ofNat 32 (s ()).toNat) (bn (xs ()))).toNat : Int), .int .i64 fun _ => m () + (xs ()).length]))]⟩
  | _, _ => none }
def Lc1 : List (Nat × Contract) := [(82, byteC)]
def Gc1 : Ctx := fun f => gget Lc1 f
theorem Gc1_ok : ∀ f C, Gc1 f = some C → CSound Try.prog f C := gget_cons byte_ok (gget_nil _)
theorem add_ok : CSound Try.prog 44 addC := by
  refine fsound' (G := Gc1) (c := codeOf Try.f44) mixed tyT Gc1_ok Try.func44 (by rfl) (by kernel_rfl) (by kernel_rfl) fun args M r hr hvc hw hm => ?_
  unfold addC at hr
  simp only at hr
  split at hr <;> cases hr
  · conv => cbv
    refine .yes ?_
    conv => cbv
    trivial
  · rename_i xs s m
    obtain ⟨x, rfl⟩ : ∃ x, xs = fun _ => x := ⟨xs (), rfl⟩
    obtain ⟨s, rfl⟩ : ∃ x, s = fun _ => x := ⟨s (), rfl⟩
    obtain ⟨m, rfl⟩ : ∃ x, m = fun _ => x := ⟨m (), rfl⟩
    have hb : 0 ≤ m ∧ m + x.length < 9223372036854775808 := hvc _ (List.mem_singleton.2 rfl)
    have hm := hm ⟨rfl, trivial⟩
    simp only [WfM, WfO, WfVs, WfV, and_true, u32_iff, true_and] at hm hw
    obtain ⟨b, rfl⟩ := b32_of hm.1
    have hx := hw.1
    clear hvc
    conv => cbv
    refine .no ?_
    conv => cbv
    refine LoopP.mk {i : Nat // i ≤ x.length} (fun i => ⟨finit 20 [.mp 0 0, .un, .un, .un, .un, .un, .un, .un, .sl false U8 fun _ => x, .int .i64 fun _ => x.length, .int .i64 fun _ => (i.1 : Int)], [(0, .obj [.int .u32 fun _ => ((crcs b ((bn x).take i.1)).toNat : Int), .int .i64 fun _ => m + (i.1 : Int)])], 25⟩) (fun i => x.length - i.1) ⟨0, Nat.zero_le _⟩ ?_ ?_
    · have e1 : m = m + ((0 : Nat) : Int) := by omega
      conv => cbv
      exact ⟨⟨rfl⟩, ⟨rfl⟩, ⟨rfl⟩, ⟨rfl⟩, ⟨e1⟩⟩
    · intro ⟨i, hi⟩
      conv => cbv
      refine Split.mk (fun h => ?_) (fun h => ?_)
      · have h : (i : Int) < x.length := of_decide_eq_true h
        have h : i < x.length := by omega
        have hB : 0 ≤ (i : Int) ∧ (i : Int) < (x.length : Int) := by omega
        have hv := bn_at hw h
        have hw1 : IntKind.i64.wrap ((i : Int) + 1) = ((i + 1 : Nat) : Int) := by rw [wrap_i64 (by omega)]; omega
        have hw2 : IntKind.i64.wrap (m + (i : Int) + 1) = m + ((i + 1 : Nat) : Int) := by rw [wrap_i64 (by omega)]; omega
        have hlt : i + 1 ≤ x.length ∧ x.length - (i + 1) < x.length - i := by omega
        have hc := crcs_take (s := b) (b := bn x) (i := i) (by simpa using h)
        have hs : (((cbyte (BitVec.ofNat 32 (((crcs b ((bn x).take i)).toNat : Int)).toNat) ((lk (lk x ((i : Int)).toNat) 0).toInt).toNat).toNat : Nat) : Int) = (((crcs b ((bn x).take (i + 1))).toNat : Nat) : Int) := by
          rw [hc]; simp [hv]
        conv => cbv
        refine ⟨⟨hB⟩, ⟨i + 1, hlt.1⟩, hlt.2, ?_⟩
        conv => cbv
        exact ⟨⟨rfl⟩, ⟨rfl⟩, ⟨hw1⟩, ⟨hs⟩, ⟨hw2⟩⟩
      · have h : ¬ (i : Int) < x.length := of_decide_eq_false h
        obtain rfl : i = x.length := by omega
        have e : (bn x).take x.length = bn x := List.take_of_length_le (by simp)
        conv => cbv
        simp only [Hold.iff, e, ofNat_toNat32]
        exact ⟨trivial, trivial⟩
def valueC : Contract := { modes := [.mut], fn := fun args M => match args, M with
  | [.nilp], [] => some ⟨[], .int .u32 fun _ => 0, []⟩
  | [.mp 0 0], [(0, .obj [.int .u32 s, .int .i64 _])] => some ⟨[], .int .u32 s, []⟩
  | _, _ => none }
theorem value_ok : CSound Try.prog 42 valueC := by
  refine fsound' (G := G0) (c := codeOf Try.f42) mixed tyT (gget_nil _) Try.func42 (by rfl) (by kernel_rfl) (by kernel_rfl) fun args M r hr hvc hw hm => ?_
  unfold valueC at hr
  simp only at hr
  split at hr <;> cases hr
  · conv => cbv
    refine .yes ?_
    conv => cbv
    exact ⟨rfl⟩
  · conv => cbv
    refine .no ?_
    conv => cbv
    exact ⟨⟨rfl⟩, ⟨rfl⟩, ⟨rfl⟩⟩
def lenC : Contract := { modes := [.mut], fn := fun args M => match args, M with
  | [.nilp], [] => some ⟨[], .int .i64 fun _ => 0, []⟩
  | [.mp 0 0], [(0, .obj [.int .u32 _, .int .i64 m])] => some ⟨[], .int .i64 m, []⟩
  | _, _ => none }
theorem lens_ok : CSound Try.prog 81 lenC := by
  refine fsound' (G := G0) (c := codeOf Try.f81) mixed tyT (gget_nil _) Try.func81 (by rfl) (by kernel_rfl) (by kernel_rfl) fun args M r hr hvc hw hm => ?_
  unfold lenC at hr
  simp only at hr
  split at hr <;> cases hr
  · conv => cbv
    refine .yes ?_
    conv => cbv
    exact ⟨rfl⟩
  · conv => cbv
    refine .no ?_
    conv => cbv
    exact ⟨⟨rfl⟩, ⟨rfl⟩, ⟨rfl⟩⟩
def Lc2 : List (Nat × Contract) := [(81, lenC)]
def Gc2 : Ctx := fun f => gget Lc2 f
theorem Gc2_ok : ∀ f C, Gc2 f = some C → CSound Try.prog f C := gget_cons lens_ok (gget_nil _)
theorem len_ok : CSound Try.prog 43 lenC := by
  refine fsound' (G := Gc2) (c := codeOf Try.f43) mixed tyT Gc2_ok Try.func43 (by rfl) (by kernel_rfl) (by kernel_rfl) fun args M r hr hvc hw hm => ?_
  unfold lenC at hr
  simp only at hr
  split at hr <;> cases hr
  · conv => cbv
    refine .yes ?_
    conv => cbv
    exact ⟨rfl⟩
  · conv => cbv
    refine .no ?_
    conv => cbv
    exact ⟨⟨rfl⟩, ⟨rfl⟩, ⟨rfl⟩⟩
def copyC : Contract := { modes := [.mut], fn := fun args M => match args, M with
  | [.nilp], [] => some ⟨[], .nilp, []⟩
  | [.mp 0 0], [(0, .obj [.int .u32 s, .int .i64 m])] => some ⟨[], .mp 1 0, [(1, some (.obj [.int .u32 s, .int .i64 m]))]⟩
  | _, _ => none }
theorem rcopy_ok : CSound Try.prog 41 copyC := by
  refine fsound' (G := G0) (c := codeOf Try.f41) mixed tyT (gget_nil _) Try.func41 (by rfl) (by kernel_rfl) (by kernel_rfl) fun args M r hr hvc hw hm => ?_
  unfold copyC at hr
  simp only at hr
  split at hr <;> cases hr
  · conv => cbv
    refine .yes ?_
    conv => cbv
    trivial
  · conv => cbv
    refine .no ?_
    conv => cbv
    exact ⟨⟨rfl⟩, ⟨rfl⟩, ⟨rfl⟩, ⟨rfl⟩⟩
def rb (xs : List (List D)) : List (List Nat) := xs.map fun c => bn (lk c 0).toList
def fl (xs : List (List D)) : List (List D) := (xs.map fun c => (lk c 0).toList).flatten
theorem bn_fl (xs : List (List D)) : bn (fl xs) = (rb xs).flatten := by
  induction xs with
  | nil => rfl
  | cons x xs ih => simp only [fl, rb, List.map_cons, List.flatten_cons, bn_append] at ih ⊢; rw [← ih]
theorem fl_take {xs : List (List D)} {i : Nat} (h : i < xs.length) : fl (xs.take (i + 1)) = fl (xs.take i) ++ (lk (lk xs i) 0).toList := by
  rw [List.take_add_one, List.getElem?_eq_getElem h]
  simp only [fl, List.map_append, List.flatten_append, Option.toList_some, List.map_cons, List.map_nil, List.flatten_cons, List.flatten_nil, List.append_nil]
  simp [lk, List.getD, h]
theorem fl_len_take {xs : List (List D)} {i : Nat} (h : i < xs.length) : (fl (xs.take i)).length + (lk (lk xs i) 0).toList.length ≤ (fl xs).length := by
  have h1 := fl_take h
  have h2 : fl xs = fl (xs.take (i + 1)) ++ fl (xs.drop (i + 1)) := by
    simp only [fl]
    rw [← List.flatten_append, ← List.map_append, List.take_append_drop]
  rw [h2, h1]
  simp
theorem WfR.row {xs : List (List D)} (h : WfR [.slice U8] xs) {i : Nat} (hi : i < xs.length) : WfR U8 (lk (lk xs i) 0).toList := by
  have := h.2 i hi
  simp only [WfDs, WfD, and_true] at this
  exact ⟨this.1, fun i hi => by simp only [WfDs, WfD, and_true]; exact this.2 i hi⟩
def sumC : Contract := { modes := [.ro], fn := fun args M => match args, M with
  | [.nils], [] => some ⟨[], .int .u32 fun _ => 0, []⟩
  | [.sl _ [.slice [.int .u8]] xs], [] => some ⟨[fun _ => (fl (xs ())).length < 9223372036854775808], .int .u32 fun _ => ((crcs 0 (bn (fl (xs ())))).toNat : Int), []⟩
  | _, _ => none }
def Lc3 : List (Nat × Contract) := [(42, valueC), (44, addC)]
def Gc3 : Ctx := fun f => gget Lc3 f
theorem Gc3_ok : ∀ f C, Gc3 f = some C → CSound Try.prog f C := gget_cons value_ok (gget_cons add_ok (gget_nil _))
theorem sum_ok : CSound Try.prog 33 sumC := by
  refine fsound' (G := Gc3) (c := codeOf Try.f33) mixed tyT Gc3_ok Try.func33 (by rfl) (by kernel_rfl) (by kernel_rfl) fun args M r hr hvc hw hm => ?_
  unfold sumC at hr
  simp only at hr
  split at hr <;> cases hr
  · conv => cbv
    refine LoopP.mk Unit (fun i => ⟨finit 16 [.un, .un, .un, .mp 0 0, .un, .un, .nils, .int .i64 fun _ => 0, .int .i64 fun _ => 0], [(0, .obj [.int .u32 fun _ => 0, .int .i64 fun _ => 0])], 8⟩) (fun _ => 0) () ?_ ?_
    · conv => cbv
      exact ⟨⟨rfl⟩, ⟨rfl⟩, ⟨rfl⟩, ⟨rfl⟩⟩
    · intro _
      conv => cbv
      refine .ofF (by decide) ?_
      conv => cbv
      exact ⟨rfl⟩
  · rename_i xs
    obtain ⟨x, rfl⟩ : ∃ x, xs = fun _ => x := ⟨xs (), rfl⟩
    have hb : (fl x).length < 9223372036854775808 := hvc _ (List.mem_singleton.2 rfl)
    simp only [WfVs, WfV, and_true] at hw
    have hx := hw.1
    clear hvc hm
    conv => cbv
    refine LoopP.mk {i : Nat // i ≤ x.length} (fun i => ⟨finit 16 [.un, .un, .un, .mp 0 0, .un, .un, .sl false [.slice U8] fun _ => x, .int .i64 fun _ => x.length, .int .i64 fun _ => (i.1 : Int)], [(0, .obj [.int .u32 fun _ => ((crcs 0 (bn (fl (x.take i.1)))).toNat : Int), .int .i64 fun _ => ((fl (x.take i.1)).length : Int)])], 8⟩) (fun i => x.length - i.1) ⟨0, Nat.zero_le _⟩ ?_ ?_
    · conv => cbv
      exact ⟨⟨rfl⟩, ⟨rfl⟩, ⟨rfl⟩, ⟨rfl⟩, ⟨rfl⟩⟩
    · intro ⟨i, hi⟩
      conv => cbv
      refine Split.mk (fun h => ?_) (fun h => ?_)
      · have h : (i : Int) < x.length := of_decide_eq_true h
        have h : i < x.length := by omega
        have hB : 0 ≤ (i : Int) ∧ (i : Int) < (x.length : Int) := by omega
        have hw1 : IntKind.i64.wrap ((i : Int) + 1) = ((i + 1 : Nat) : Int) := by rw [wrap_i64 (by omega)]; omega
        have hlt : i + 1 ≤ x.length ∧ x.length - (i + 1) < x.length - i := by omega
        have h3 := fl_len_take h
        have h4 := fl_take h
        have hB2 : 0 ≤ ((fl (x.take i)).length : Int) ∧ ((fl (x.take i)).length : Int) + (((lk (lk x ((i : Int)).toNat) 0).toList).length : Int) < 9223372036854775808 := by
          simp only [Int.toNat_natCast]; omega
        have hs1 : (((crcs (BitVec.ofNat 32 (((crcs 0 (bn (fl (x.take i)))).toNat : Int)).toNat) (bn (lk (lk x ((i : Int)).toNat) 0).toList)).toNat : Nat) : Int) = (((crcs 0 (bn (fl (x.take (i + 1))))).toNat : Nat) : Int) := by
          rw [h4, bn_append, crcs_append, ofNat_toNat32, Int.toNat_natCast]
        have hs2 : ((fl (x.take i)).length : Int) + (((lk (lk x ((i : Int)).toNat) 0).toList).length : Int) = ((fl (x.take (i + 1))).length : Int) := by
          rw [h4, Int.toNat_natCast]; simp
        conv => cbv
        refine ⟨⟨hB⟩, ⟨hB2⟩, ⟨i + 1, hlt.1⟩, hlt.2, ?_⟩
        conv => cbv
        exact ⟨⟨rfl⟩, ⟨rfl⟩, ⟨hw1⟩, ⟨hs1⟩, ⟨hs2⟩⟩
      · have h : ¬ (i : Int) < x.length := of_decide_eq_false h
        obtain rfl : i = x.length := by omega
        have e : x.take x.length = x := List.take_of_length_le (Nat.le_refl _)
        conv => cbv
        simp only [Hold.iff, e]
def st4 (n : Nat) : List Nat := [n / 16777216 % 256, n / 65536 % 256, n / 256 % 256, n % 256]
def stC : Contract := { modes := [.ro], fn := fun args M => match args, M with
  | [.int .u32 n], [] => some ⟨[], .ms 0 (fun _ => 0) (fun _ => 4), [(0, some (.row true U8 fun _ => rowB (st4 (n ()).toNat)))]⟩
  | _, _ => none }
theorem ishr_nat (k : IntKind) (n s : Nat) (h : s ≤ k.bits) : ishr k (n : Int) (s : Int) = ((n / 2 ^ s : Nat) : Int) := by
  simp only [ishr, Int.toNat_natCast, Nat.min_eq_left h]
  rw [Int.fdiv_eq_ediv_of_nonneg _ (by exact_mod_cast Nat.zero_le _)]
  rw [Int.natCast_ediv]
  congr 1
theorem stands_ok : CSound Try.prog 75 stC := by
  refine fsound' (G := G0) (c := codeOf Try.f75) mixed tyT (gget_nil _) Try.func75 (by rfl) (by kernel_rfl) (by kernel_rfl) fun args M r hr hvc hw hm => ?_
  unfold stC at hr
  simp only at hr
  split at hr <;> cases hr
  rename_i n0
  clear hvc hm
  obtain ⟨m0, rfl⟩ : ∃ x, n0 = fun _ => x := ⟨n0 (), rfl⟩
  simp only [WfVs, WfV, and_true, u32_iff] at hw
  have ⟨n, hk⟩ := Int.eq_ofNat_of_zero_le hw.1
  subst hk
  have e1 : IntKind.u8.wrap (ishr .u32 (n : Int) 24) = ((n / 16777216 % 256 : Nat) : Int) := by have h := ishr_nat .u32 n 24 (by decide); rw [show ((24 : Nat) : Int) = 24 from rfl] at h; rw [h, wrap_u8_mod]; omega
  have e2 : IntKind.u8.wrap (ishr .u32 (n : Int) 16) = ((n / 65536 % 256 : Nat) : Int) := by have h := ishr_nat .u32 n 16 (by decide); rw [show ((16 : Nat) : Int) = 16 from rfl] at h; rw [h, wrap_u8_mod]; omega
  have e3 : IntKind.u8.wrap (ishr .u32 (n : Int) 8) = ((n / 256 % 256 : Nat) : Int) := by have h := ishr_nat .u32 n 8 (by decide); rw [show ((8 : Nat) : Int) = 8 from rfl] at h; rw [h, wrap_u8_mod]; omega
  have e4 : IntKind.u8.wrap (n : Int) = ((n % 256 : Nat) : Int) := by rw [wrap_u8_mod]; omega
  conv => cbv
  simp only [Hold.iff, e1, e2, e3, e4, st4, rowB]
  simp [chunk]
theorem rstands_ok : CSound Try.prog 29 stC := by
  refine fsound' (G := G0) (c := codeOf Try.f29) mixed tyT (gget_nil _) Try.func29 (by rfl) (by kernel_rfl) (by kernel_rfl) fun args M r hr hvc hw hm => ?_
  unfold stC at hr
  simp only at hr
  split at hr <;> cases hr
  rename_i n0
  clear hvc hm
  obtain ⟨m0, rfl⟩ : ∃ x, n0 = fun _ => x := ⟨n0 (), rfl⟩
  simp only [WfVs, WfV, and_true, u32_iff] at hw
  have ⟨n, hk⟩ := Int.eq_ofNat_of_zero_le hw.1
  subst hk
  have qa : (n : Int).tdiv 16777216 = ((n / 16777216 : Nat) : Int) := (Int.ofNat_tdiv n 16777216).symm
  have qb : (n : Int).tdiv 65536 = ((n / 65536 : Nat) : Int) := (Int.ofNat_tdiv n 65536).symm
  have qc : (n : Int).tdiv 256 = ((n / 256 : Nat) : Int) := (Int.ofNat_tdiv n 256).symm
  have q2 : ∀ a : Nat, ((a : Int).tmod 256) = ((a % 256 : Nat) : Int) := fun a => (Int.ofNat_tmod a 256).symm
  have w1 : ∀ a : Nat, a ≤ n → IntKind.u32.wrap (a : Int) = a := fun a h => by rw [wrap_u32_mod]; omega
  have e1 : IntKind.u8.wrap (IntKind.u32.wrap ((n : Int).tdiv 16777216)) = ((n / 16777216 % 256 : Nat) : Int) := by rw [qa, w1 _ (Nat.div_le_self _ _), wrap_u8_mod]; omega
  have e2 : IntKind.u8.wrap ((IntKind.u32.wrap ((n : Int).tdiv 65536)).tmod 256) = ((n / 65536 % 256 : Nat) : Int) := by rw [qb, w1 _ (Nat.div_le_self _ _), q2, wrap_u8_mod]; omega
  have e3 : IntKind.u8.wrap ((IntKind.u32.wrap ((n : Int).tdiv 256)).tmod 256) = ((n / 256 % 256 : Nat) : Int) := by rw [qc, w1 _ (Nat.div_le_self _ _), q2, wrap_u8_mod]; omega
  have e4 : IntKind.u8.wrap ((n : Int).tmod 256) = ((n % 256 : Nat) : Int) := by rw [q2, wrap_u8_mod]; omega
  conv => cbv
  simp only [Hold.iff, e1, e2, e3, e4, st4, rowB]
  simp [chunk]
def cloneC : Contract := { modes := [.ro], fn := fun args M => match args, M with
  | [.nils], [] => some ⟨[], .nils, []⟩
  | [.sl _ [.int .u8] xs], [] => some ⟨[fun _ => (xs ()).length ≤ big], .ms 0 (fun _ => 0) (fun _ => (xs ()).length), [(0, some (.row false U8 fun _ => xs ()))]⟩
  | _, _ => none }
theorem clone_ok : CSound Try.prog 76 cloneC := by
  refine fsound' (G := G0) (c := codeOf Try.f76) mixed tyT (gget_nil _) Try.func76 (by rfl) (by kernel_rfl) (by kernel_rfl) fun args M r hr hvc hw hm => ?_
  unfold cloneC at hr
  simp only at hr
  split at hr <;> cases hr
  · conv => cbv
    refine .yes ?_
    conv => cbv
    trivial
  · rename_i nn xs
    have hb : (xs ()).length ≤ big := hvc _ (List.mem_singleton.2 rfl)
    clear hvc hm hw
    obtain ⟨x, rfl⟩ : ∃ x, xs = fun _ => x := ⟨xs (), rfl⟩
    have hb : x.length ≤ big := hb
    cases nn
    · conv => cbv
      intro d hd
      have hd : d.toBool = true → x = [] := hd
      conv => cbv
      refine Split.mk (fun h => ?_) (fun h => ?_)
      · have hx := hd (eq_of_beq h)
        conv => cbv
        subst hx
        exact ⟨⟨rfl, rfl⟩, ⟨rfl⟩⟩
      · conv => cbv
        simp [Hold.iff, chunk, big] at hb ⊢
        exact hb
    · conv => cbv
      refine .no ?_
      conv => cbv
      simp [Hold.iff, chunk, big] at hb ⊢
      exact hb
theorem sclone_ok : CSound Try.prog 80 cloneC := by
  refine fsound' (G := G0) (c := codeOf Try.f80) mixed tyT (gget_nil _) Try.func80 (by rfl) (by kernel_rfl) (by kernel_rfl) fun args M r hr hvc hw hm => ?_
  unfold cloneC at hr
  simp only at hr
  split at hr <;> cases hr
  · conv => cbv
    refine .yes ?_
    conv => cbv
    trivial
  · rename_i nn xs
    have hb : (xs ()).length ≤ big := hvc _ (List.mem_singleton.2 rfl)
    clear hvc hm hw
    obtain ⟨x, rfl⟩ : ∃ x, xs = fun _ => x := ⟨xs (), rfl⟩
    have hb : x.length ≤ big := hb
    cases nn
    · conv => cbv
      intro d hd
      have hd : d.toBool = true → x = [] := hd
      conv => cbv
      refine Split.mk (fun h => ?_) (fun h => ?_)
      · have hx := hd (eq_of_beq h)
        conv => cbv
        subst hx
        exact ⟨⟨rfl, rfl⟩, ⟨rfl⟩⟩
      · conv => cbv
        simp [Hold.iff, chunk, big] at hb ⊢
        exact hb
    · conv => cbv
      refine .no ?_
      conv => cbv
      simp [Hold.iff, chunk, big] at hb ⊢
      exact hb
theorem bytes_eq {x : List (List D)} (h : WfR U8 x) {y : List (List D)} (hy : WfR U8 y) : ((x.map fun c => UInt8.ofNat (lk c 0).toInt.toNat) == (y.map fun c => UInt8.ofNat (lk c 0).toInt.toNat)) = (bn x == bn y) := by
  have key : ∀ {z : List (List D)}, WfR U8 z → (z.map fun c => UInt8.ofNat (lk c 0).toInt.toNat).map (·.toNat) = bn z := fun {z} hz => by
    have := bn_lt hz
    simp only [bn, List.map_map] at this ⊢
    refine List.map_congr_left fun c hc => ?_
    have := this _ (List.mem_map.2 ⟨c, hc, rfl⟩)
    simp only [Function.comp]
    rw [UInt8.toNat_ofNat']
    omega
  rw [Bool.eq_iff_iff]
  simp only [beq_iff_eq]
  constructor
  · intro e
    rw [← key h, ← key hy, e]
  · intro e
    rw [← key h, ← key hy] at e
    exact (List.map_inj_right fun a b h => UInt8.toNat_inj.1 h).1 e
theorem bequal_ok : CSound Try.prog 74 sameC := by
  refine fsound' (G := G0) (c := codeOf Try.f74) mixed tyT (gget_nil _) Try.func74 (by rfl) (by kernel_rfl) (by kernel_rfl) fun args M r hr hvc hw hm => ?_
  unfold sameC at hr
  simp only at hr
  split at hr <;> cases hr
  rename_i xs _ ys
  clear hvc hm
  have hx : xs = fun _ => xs () := rfl
  generalize xs () = x at hx
  subst hx
  have hy : ys = fun _ => ys () := rfl
  generalize ys () = y at hy
  subst hy
  simp only [WfVs, WfV, and_true] at hw
  have e := bytes_eq hw.1 hw.2
  conv => cbv
  exact ⟨e⟩
end Go.Am
