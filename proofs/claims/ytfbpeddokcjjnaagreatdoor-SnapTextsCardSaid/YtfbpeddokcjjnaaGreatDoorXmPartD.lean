/- strconv.FormatUint at base 10 returns the decimal numeral of every unsigned number: at this dump's numbers. -/
import Derived.Test.YtfbpeddokcjjnaaGreatDoorXmPartC
import Derived.Lib.Walk
import Derived.Lib.ItoaMem
import Derived.Lib.AppendIntMem
import Derived.WalkKit
import Derived.BigCall
import Derived.BigGuard
import Derived.Lib.ItoaLen
namespace Go.Proofs
set_option linter.all false
set_option linter.deprecated false
open Go.Shelf Go.RowKit Go.Sort Go.Lib
set_option maxHeartbeats 6400000 in
set_option maxRecDepth 100000 in
theorem Tryz.internal_strconv_FormatUint_10 (u : Nat) (hu64 : u < 18446744073709551616) (w : World) (htab : Lib.TabIs Tryz.prog w "internal/strconv.uint64pow10" .u64 Lib.pow10Tab) :
    Calls Tryz.prog 39 #[.int .u64 u, .int .i64 10] w fun e w' => e = .returned (.string ⟨(Lib.itoa u).toArray⟩) ∧ ∃ k os, w' = grow (w.drewN k) os := by
  have mixed := Tryz.laysM246.mixed
  have t2 := Tryz.underlying2; have a2 := Tryz.isAgg2; have z2 := Tryz.sizeOf2; have v2 := Tryz.zeroValue2
  have t3 := Tryz.underlying3; have a3 := Tryz.isAgg3; have z3 := Tryz.sizeOf3; have v3 := Tryz.zeroValue3
  have t9 := Tryz.underlying9; have a9 := Tryz.isAgg9; have z9 := Tryz.sizeOf9; have v9 := Tryz.zeroValue9
  have t4 := Tryz.underlying4; have a4 := Tryz.isAgg4; have z4 := Tryz.sizeOf4; have v4 := Tryz.zeroValue4
  have t171 := Tryz.underlying161; have a171 := Tryz.isAgg161; have z171 := Tryz.sizeOf161; have v171 := Tryz.zeroValue161
  have t0 := Tryz.underlying0; have a0 := Tryz.isAgg0; have z0 := Tryz.sizeOf0; have v0 := Tryz.zeroValue0
  have t53 := Tryz.underlying22; have a53 := Tryz.isAgg22; have z53 := Tryz.sizeOf22; have v53 := Tryz.zeroValue22
  have t37 := Tryz.underlying88; have a37 := Tryz.isAgg88; have z37 := Tryz.sizeOf88; have v37 := Tryz.zeroValue88
  have t5 := Tryz.underlying5; have a5 := Tryz.isAgg5; have z5 := Tryz.sizeOf5; have v5 := Tryz.zeroValue5
  have t173 := Tryz.underlying164; have a173 := Tryz.isAgg164; have z173 := Tryz.sizeOf164; have v173 := Tryz.zeroValue164
  by_cases hs : u < 100
  · have hi : u < 100 := hs
    go_enter Tryz.func39, Tryz.ntmps39
    go_wp2_with (go_at_call 69; refine (Tryz.internal_strconv_small u hi _).mono ?_; rintro e w' ⟨rfl, rfl⟩)
    go_ret
    refine ⟨?_, 0, #[], by simp [World.drewN_zero]⟩
    rw [Lib.itoa_nonneg]
    rfl
  · have hu1 : 1 ≤ u := by omega
    have hnd20 : Lib.nDigits u ≤ 20 := by have := Lib.numDigits_eq u hu1 hu64; split at this <;> omega
    have hal : Tryz.prog.arrayLen 161 = 24 := by simp [Program.arrayLen, Tryz.underlying161]
    have hsl1 : ∀ W, (Instr.sliceAt 161 (.pointer (some ⟨w.heap.size, 0, none⟩)) none (some (.int .i64 (Lib.nDigits u : Int))) none).run Tryz.prog W = .ok (.slice (some ⟨w.heap.size, 0, none⟩) (Lib.nDigits u) 24) W := fun W => by
      rw [run_sliceAt_array_h W 161 ⟨w.heap.size, 0, none⟩ (by simp [Program.arrayLen, Program.elem, Tryz.underlying161]) .i64 (Lib.nDigits u : Int) (by omega) (by rw [hal]; omega)]
      go_simp
    have hH0 := Lib.holds_zero0 w 161 (Lib.nDigits u) (by omega)
    have hfmt := Tryz.internal_strconv_formatBase10 w.heap.size 0 24 u (Array.replicate (Lib.nDigits u) 0) (w.alloc (.cells Lib.zeros24 161)) hH0 (by rw [Array.size_replicate]; exact Lib.lt_pow_nDigits u) hu64 (by rw [Array.size_replicate]; omega)
    rw [Array.size_replicate] at hfmt
    have HH0 := Lib.hid hH0
    clear hH0 hal
    go_enter Tryz.func39, Tryz.ntmps39
    go_wp2_with (first
      | (go_at_call 70; refine (Tryz.internal_strconv_numDigits u hu1 hu64 _ (Lib.tabIs_alloc htab _)).mono ?_; rintro e w' ⟨rfl, rfl⟩))
    go_at_call 71
    refine hfmt.mono ?_
    rintro e w' ⟨rfl, k, v', dk, rfl, hF⟩
    have hcv : (convert 88 9 (.slice (some ⟨w.heap.size, 0, none⟩) (Lib.nDigits u) 24)).run Tryz.prog ((putRow (fun (b : UInt8) => Value.int .u8 (b.toNat : Int)) (w.alloc (.cells Lib.zeros24 161)) w.heap.size 0 dk).drewN k) = .ok (.string ⟨(Lib.decDigits u).toArray⟩) ((putRow (fun (b : UInt8) => Value.int .u8 (b.toNat : Int)) (w.alloc (.cells Lib.zeros24 161)) w.heap.size 0 dk).drewN k) := by
      have h := run_convert_bytes_back (P := Tryz.prog) ((putRow (fun (b : UInt8) => Value.int .u8 (b.toNat : Int)) (w.alloc (.cells Lib.zeros24 161)) w.heap.size 0 dk).drewN k) 88 9 5 ⟨w.heap.size, 0, none⟩ 24 (Lib.decDigits u) Tryz.underlying88 Tryz.underlying5 Tryz.underlying9 (fun j hj => by
        rw [Lib.row_is_numeral hF j hj, Lib.add_plain, World.cell?_drewN]
        exact cell?_putRow (fun (b : UInt8) => Value.int .u8 (b.toNat : Int)) _ w.heap.size 0 _ dk HH0.out (by rw [hF.size, Array.size_replicate]) j (by rw [hF.size]; rw [Lib.decDigits_length] at hj; exact hj))
      rw [Lib.decDigits_length] at h
      exact h
    go_wp2
    go_ret
    obtain ⟨os, eo⟩ := Lib.fin_at w (.cells Lib.zeros24 161) dk k 0
    refine ⟨?_, k, os, eo⟩
    rw [Lib.itoa_nonneg]
    rfl
set_option maxRecDepth 100000 in
theorem Tryz.strconv_FormatUint (u : Nat) (hu64 : u < 18446744073709551616) (w : World) (htab : Lib.TabIs Tryz.prog w "internal/strconv.uint64pow10" .u64 Lib.pow10Tab) :
    Calls Tryz.prog 15 #[.int .u64 u, .int .i64 10] w fun e w' => e = .returned (.string ⟨(Lib.itoa u).toArray⟩) ∧ ∃ k os, w' = grow (w.drewN k) os := by
  have mixed := Tryz.laysM246.mixed
  have t3 := Tryz.underlying3; have a3 := Tryz.isAgg3; have z3 := Tryz.sizeOf3; have v3 := Tryz.zeroValue3
  have t9 := Tryz.underlying9; have a9 := Tryz.isAgg9; have z9 := Tryz.sizeOf9; have v9 := Tryz.zeroValue9
  have t53 := Tryz.underlying22; have a53 := Tryz.isAgg22; have z53 := Tryz.sizeOf22; have v53 := Tryz.zeroValue22
  go_enter Tryz.func15, Tryz.ntmps15
  go_wp2_with (go_at_call 39; refine (Tryz.internal_strconv_FormatUint_10 u hu64 _ htab).mono ?_; rintro e w' ⟨rfl, k, os, rfl⟩)
  go_ret
  exact ⟨rfl, k, os, rfl⟩
def digs10 : ByteArray := ⟨#[48, 49, 50, 51, 52, 53, 54, 55, 56, 57]⟩
theorem digs10_piece {i : Nat} (h : i < 10) : (digs10.data.toList.drop i).take (i + 1 - i) = [UInt8.ofNat (48 + i)] := by
  have : ∀ i : Fin 10, (digs10.data.toList.drop i).take (i + 1 - i) = [UInt8.ofNat (48 + i)] := by decide
  exact this ⟨i, h⟩
end Go.Proofs
/- The reference tells a number by its numeral: at this dump's numbers. -/
namespace Go.Proofs
set_option linter.all false
set_option linter.deprecated false
open Go.Shelf Go.RowKit Go.Sort Go.Lib
theorem dd_small {u : Nat} (h : u < 10) : decDigits u = [UInt8.ofNat (48 + u % 10)] := by rw [decDigits, dif_pos h, Nat.mod_eq_of_lt h]
theorem dd_big {u : Nat} (h : ¬ u < 10) : decDigits u = decDigits (u / 10) ++ [UInt8.ofNat (48 + u % 10)] := by
  conv => lhs; rw [decDigits, dif_neg h]
set_option maxHeartbeats 6400000 in
set_option maxRecDepth 100000 in
theorem Tryz.digits_ref (w : World) : ∀ (u : Nat) (hu64 : u < 18446744073709551616),
    Calls Tryz.prog 20 #[.int .u64 u] w fun e w' => e = .returned (.string ⟨(Lib.decDigits u).toArray⟩) ∧ w' = w := by
  intro u
  induction u using Nat.strongRecOn with
  | _ u ih =>
  intro hu64
  have mixed := Tryz.laysM246.mixed
  have t3 := Tryz.underlying3; have a3 := Tryz.isAgg3; have z3 := Tryz.sizeOf3; have v3 := Tryz.zeroValue3
  have t4 := Tryz.underlying4; have a4 := Tryz.isAgg4; have z4 := Tryz.sizeOf4; have v4 := Tryz.zeroValue4
  have t9 := Tryz.underlying9; have a9 := Tryz.isAgg9; have z9 := Tryz.sizeOf9; have v9 := Tryz.zeroValue9
  have t53 := Tryz.underlying22; have a53 := Tryz.isAgg22; have z53 := Tryz.sizeOf22; have v53 := Tryz.zeroValue22
  have hm : u % 10 < 10 := Nat.mod_lt _ (by decide)
  have hex : digs10.extract (u % 10) (u % 10 + 1) = ⟨#[UInt8.ofNat (48 + u % 10)]⟩ := AnyPlain.small_ba _ [_] (by rw [Lib.extract_data]; exact digs10_piece hm)
  go_enter Tryz.func20, Tryz.ntmps20
  go_name_bytes_deep 10 DG hDG
  have eDG : DG = digs10 := by rw [← hDG]; decide +kernel
  subst eDG
  clear hDG
  have hsl : ∀ w, (Instr.slice 9 (.string digs10) (some (.int .u64 ((u : Int) % 10))) (some (.int .u64 ((u : Int) % 10 + 1))) none).run Tryz.prog w = .ok (.string (digs10.extract (u % 10) (u % 10 + 1))) w := fun w => by
    rw [run_slice_string w 9 digs10 .u64 .u64 _ _ t9 (by omega) (by omega) (by rw [show digs10.size = 10 from rfl]; omega), show ((u : Int) % 10).toNat = u % 10 by omega, show ((u : Int) % 10 + 1).toNat = u % 10 + 1 by omega]
  rw [hex] at hsl
  go_wp2_with (go_at_call 20; refine (ih (u / 10) (by omega) (by omega)).mono ?_; rintro e w' ⟨rfl, rfl⟩)
  · rename_i h
    go_ret
    refine ⟨?_, rfl⟩
    rw [dd_small (by omega)]
    simp
  · exfalso
    rename_i h2
    have h3 := Lib.decDigits_length (u / 10)
    have h4 : Lib.nDigits (u / 10) ≤ 20 := by
      by_cases h0 : u / 10 = 0
      · rw [h0]; decide +kernel
      · have := Lib.numDigits_eq (u / 10) (by omega) (by omega); split at this <;> omega
    omega
  · rename_i h h2
    go_ret
    refine ⟨?_, rfl⟩
    rw [dd_big (u := u) (by omega)]
    simp
    apply ByteArray.ext
    simp [ByteArray.data_append]
set_option maxHeartbeats 6400000 in
set_option maxRecDepth 100000 in
theorem Tryz.whole_ref (w : World) (n : Int) (h0 : -9223372036854775808 ≤ n) (h1 : n ≤ 9223372036854775807) :
    Calls Tryz.prog 19 #[.int .i64 n] w fun e w' => e = .returned (.string ⟨(Lib.itoa n).toArray⟩) ∧ w' = w := by
  have mixed := Tryz.laysM246.mixed
  have t3 := Tryz.underlying3; have a3 := Tryz.isAgg3; have z3 := Tryz.sizeOf3; have v3 := Tryz.zeroValue3
  have t4 := Tryz.underlying4; have a4 := Tryz.isAgg4; have z4 := Tryz.sizeOf4; have v4 := Tryz.zeroValue4
  have t9 := Tryz.underlying9; have a9 := Tryz.isAgg9; have z9 := Tryz.sizeOf9; have v9 := Tryz.zeroValue9
  have t53 := Tryz.underlying22; have a53 := Tryz.isAgg22; have z53 := Tryz.sizeOf22; have v53 := Tryz.zeroValue22
  have lens : ∀ u : Nat, u ≤ 9223372036854775808 → (Lib.decDigits u).length ≤ 20 := fun u hu => by
    rw [Lib.decDigits_length]
    by_cases h0 : u = 0
    · rw [h0]; decide +kernel
    · have := Lib.numDigits_eq u (by omega) (by omega); split at this <;> omega
  by_cases hneg : n < 0
  · obtain ⟨u, rfl⟩ : ∃ u : Nat, n = -(u : Int) := ⟨n.natAbs, by omega⟩
    have hwr : IntKind.u64.wrap (-IntKind.u64.wrap (-(u : Int))) = (u : Int) := by rw [IntKind.wrap_u64, IntKind.wrap_u64]; omega
    have hl := lens u (by omega)
    clear lens
    go_enter Tryz.func19, Tryz.ntmps19
    go_wp2_with (go_at_call 20; refine (Tryz.digits_ref _ u (by omega)).mono ?_; rintro e w' ⟨rfl, rfl⟩)
    go_ret
    refine ⟨?_, rfl⟩
    rw [Lib.itoa_neg u (by omega)]
    simp
    apply ByteArray.ext
    simp [ByteArray.data_append]
  · obtain ⟨u, rfl⟩ : ∃ u : Nat, n = u := ⟨n.toNat, by omega⟩
    have hwr : IntKind.u64.wrap (u : Int) = (u : Int) := by rw [IntKind.wrap_u64]; omega
    go_enter Tryz.func19, Tryz.ntmps19
    go_wp2_with (go_at_call 20; refine (Tryz.digits_ref _ u (by omega)).mono ?_; rintro e w' ⟨rfl, rfl⟩)
    go_ret
    refine ⟨?_, rfl⟩
    rw [Lib.itoa_nonneg]
    rfl
end Go.Proofs
