/- crc.Put, crc.Open keep their contracts. -/
import Derived.Test.YtckgeadidjmpcaaAmP11
namespace Go.Am
set_option linter.all false
set_option linter.deprecated false
open Go.Proofs
set_option maxRecDepth 100000
set_option maxHeartbeats 4000000
def crcB (xs : List (List D)) : List Nat := st4 (crcs 0 (bn xs)).toNat
@[simp] theorem crcB_len (xs : List (List D)) : (crcB xs).length = 4 := rfl
@[simp] theorem st4_take (k : Nat) : List.take 4 (rowB (st4 k)) = rowB (st4 k) := List.take_of_length_le (by simp [st4])
def cputC : Contract := { modes := [.ro], fn := fun args M => match args, M with
  | [.sl _ [.slice [.int .u8]] xs], [] => some ⟨[fun _ => (fl (xs ())).length + 4 ≤ big], .ms 0 (fun _ => 0) (fun _ => (fl (xs ())).length + 4), [(0, some (.row false U8 fun _ => fl (xs ()) ++ rowB (crcB (fl (xs ())))))]⟩
  | _, _ => none }
def Lc4 : List (Nat × Contract) := [(79, joinC), (33, sumC), (75, stC)]
def Gc4 : Ctx := fun f => gget Lc4 f
theorem Gc4_ok : ∀ f C, Gc4 f = some C → CSound Try.prog f C := gget_cons join_ok (gget_cons sum_ok (gget_cons stands_ok (gget_nil _)))
theorem cput_ok : CSound Try.prog 31 cputC := by
  refine fsound' (G := Gc4) (c := codeOf Try.f31) mixed tyT Gc4_ok Try.func31 (by rfl) (by kernel_rfl) (by kernel_rfl) fun args M r hr hvc hw hm => ?_
  unfold cputC at hr
  simp only at hr
  split at hr <;> cases hr
  rename_i nn xs
  have hb : (fl (xs ())).length + 4 ≤ big := hvc _ (List.mem_singleton.2 rfl)
  clear hvc hm hw
  have hx : xs = fun _ => xs () := rfl
  generalize xs () = x at hx hb
  subst hx
  have hb1 : (fl x).length ≤ big := by omega
  have hb2 : (fl x).length < 9223372036854775808 := by simp only [big] at hb; omega
  conv => cbv
  refine ⟨⟨hb1⟩, ⟨hb2⟩, ⟨rfl⟩, ⟨Nat.le_refl _⟩, ⟨hb⟩, ⟨by simp [st4]⟩, ⟨rfl, rfl⟩, ⟨?_⟩⟩
  show (fl x).take (fl x).length ++ _ = _
  rw [List.take_length]
  rfl
def openS (xs : List (List D)) : List (List D) × Int :=
  if xs.length < 4 then ([], 4) else
  if bn (xs.drop (xs.length - 4)) = crcB (xs.take (xs.length - 4)) then (xs.take (xs.length - 4), 0) else ([], 20)
def openC : Contract := { modes := [.ro], fn := fun args M => match args, M with
  | [.sl _ [.int .u8] xs], [] => some ⟨[fun _ => (xs ()).length ≤ big], .tup [.ms 0 (fun _ => 0) (fun _ => (openS (xs ())).1.length), .int .i64 fun _ => (openS (xs ())).2], [(0, some (.row false U8 fun _ => (openS (xs ())).1))]⟩
  | _, _ => none }
def Lc5 : List (Nat × Contract) := [(33, sumC), (75, stC), (74, sameC), (76, cloneC)]
def Gc5 : Ctx := fun f => gget Lc5 f
theorem Gc5_ok : ∀ f C, Gc5 f = some C → CSound Try.prog f C := gget_cons sum_ok (gget_cons stands_ok (gget_cons bequal_ok (gget_cons clone_ok (gget_nil _))))
theorem open_ok : CSound Try.prog 28 openC := by
  refine fsound' (G := Gc5) (c := codeOf Try.f28) mixed tyT Gc5_ok Try.func28 (by rfl) (by kernel_rfl) (by kernel_rfl) fun args M r hr hvc hw hm => ?_
  unfold openC at hr
  simp only at hr
  split at hr <;> cases hr
  rename_i nn xs
  have hb : (xs ()).length ≤ big := hvc _ (List.mem_singleton.2 rfl)
  clear hvc hm
  have hx : xs = fun _ => xs () := rfl
  generalize xs () = x at hx hb
  subst hx
  simp only [WfVs, WfV, and_true] at hw
  have hb : x.length ≤ 1099511627776 := hb
  have hw1 : IntKind.i64.wrap ((x.length : Int) - 4) = (x.length : Int) - 4 := wrap_i64 (by omega)
  conv => cbv
  refine Split.mk (fun h => ?_) (fun h => ?_)
  · have h := of_decide_eq_true h
    simp only [hw1] at h
    have e : openS x = ([], 4) := by rw [openS, if_pos (by omega)]
    conv => cbv
    simp [Hold.iff, e]
  · have h := of_decide_eq_false h
    simp only [hw1] at h
    obtain ⟨n, hn⟩ : ∃ n, x.length = n + 4 := ⟨x.length - 4, by omega⟩
    have hw2 : IntKind.i64.wrap ((x.length : Int) - 4) = (n : Int) := by rw [hw1]; omega
    have v1 : 0 ≤ IntKind.i64.wrap ((x.length : Int) - 4) ∧ IntKind.i64.wrap ((x.length : Int) - 4) ≤ (x.length : Int) ∧ (x.length : Int) ≤ (x.length : Int) ∧ (x.length : Int) ≤ (x.length : Int) := by rw [hw2]; omega
    have v2 : (0 : Int) ≤ 0 ∧ (0 : Int) ≤ IntKind.i64.wrap ((x.length : Int) - 4) ∧ IntKind.i64.wrap ((x.length : Int) - 4) ≤ IntKind.i64.wrap ((x.length : Int) - 4) ∧ IntKind.i64.wrap ((x.length : Int) - 4) ≤ (x.length : Int) := by rw [hw2]; omega
    have e1 : openS x = if bn (x.drop n) = crcB (x.take n) then (x.take n, 0) else ([], 20) := by rw [openS, if_neg (by omega), show x.length - 4 = n by omega]
    have hn4 : (x.drop n).take (x.length - n) = x.drop n := List.take_of_length_le (by simp)
    conv => cbv
    refine ⟨⟨v1⟩, ⟨v2⟩, ⟨by simp [chunk]⟩, ⟨?_⟩, ⟨by simp [st4]⟩, Split.mk (fun h2 => ?_) (fun h2 => ?_)⟩
    · simp [chunk, fl, lk, D.toList, hw2]; omega
    · simp [chunk, fl, lk, D.toList, hw2, hn4] at h2
      rw [if_neg (by intro hh; exact h2 (by simpa [crcB] using hh))] at e1
      conv => cbv
      simp [Hold.iff, e1]
    · simp [chunk, fl, lk, D.toList, hw2, hn4] at h2
      rw [if_pos (by simpa [crcB] using h2)] at e1
      conv => cbv
      simp [Hold.iff, e1, hw2]
      simp only [big]; omega
end Go.Am
