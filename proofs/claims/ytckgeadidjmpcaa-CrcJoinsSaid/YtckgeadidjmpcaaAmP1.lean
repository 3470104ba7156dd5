/- alibi/varint.Put keeps its contract. -/
import Derived.Test.YtckgeadidjmpcaaAmLib
import Derived.Test.YtckgeadidjmpcaaAmTyS
namespace Go.Am
set_option linter.all false
set_option linter.deprecated false
open Go.Proofs
set_option maxRecDepth 100000
def put1 : Nat → Nat → List Nat
  | 0, v => [v]
  | f + 1, v => if v < 128 then [v] else (v % 128 + 128) :: put1 f (v / 128)
def putB (v : Nat) : List Nat := put1 9 v
def putC : Contract := { modes := [.ro], fn := fun args M => match args, M with
  | [.int .u64 v], [] => some ⟨[], .ms 0 (fun _ => 0) (fun _ => (putB (v ()).toNat).length), [(0, some (.row false U8 fun _ => rowB (putB (v ()).toNat)))]⟩
  | _, _ => none }
structure PI (v : Nat) where
  bs : List Nat
  u : Nat
  f : Nat
  h : bs ++ put1 f u = put1 9 v
  hu : u < 128 ^ (f + 1)
  hf : bs.length + f = 9
def G0 : Ctx := fun f => gget [] f
theorem or128 (u : Nat) : ibits .or .u8 (IntKind.u8.wrap (u : Int)) 128 = ((u % 128 + 128 : Nat) : Int) := by
  rw [wrap_u8_mod]
  have e : ((u : Int) % 256) = ((u % 256 : Nat) : Int) := by omega
  rw [e]
  simp only [ibits, wrap_u8_mod, IntKind.bits]
  have h1 : u % 256 < 256 := by omega
  have : ∀ x : Nat, x < 256 → ((BitVec.ofInt 8 (x : Int) ||| BitVec.ofInt 8 128).toNat : Int) % 256 = ((x % 128 + 128 : Nat) : Int) := by decide
  exact (this _ h1).trans (by omega)
theorem shr7 (u : Nat) : ishr .u64 (u : Int) 7 = ((u / 128 : Nat) : Int) := by
  simp [ishr, IntKind.bits, Int.fdiv_eq_ediv_of_nonneg]
theorem put_ok : CSound Try.prog 19 putC := by
  refine fsound' (G := G0) (c := codeOf Try.f19) mixed tyT (gget_nil _) Try.func19 (by rfl) (by kernel_rfl) (by kernel_rfl) fun args M r hr hvc hw hm => ?_
  unfold putC at hr
  simp only at hr
  split at hr <;> cases hr
  rename_i v
  obtain ⟨n, rfl⟩ : ∃ n, v = fun _ => n := ⟨v (), rfl⟩
  clear hvc hm
  simp only [WfVs, WfV, and_true, u64_iff] at hw
  obtain ⟨n, rfl⟩ := Int.eq_ofNat_of_zero_le hw.1
  have hn : n < 18446744073709551616 := by omega
  cbv
  refine LoopP.mk (PI n) (fun x => ⟨finit 18 [.int .u64 fun _ => x.u, .un, .ms 0 (fun _ => 0) (fun _ => x.bs.length)], [(0, .row false [.int .u8] (fun _ => rowB x.bs))], 8⟩) (fun x => x.u) ⟨[], n, 9, rfl, by omega, rfl⟩ ?_ ?_
  · cbv
    exact ⟨⟨rfl⟩, ⟨rfl, rfl⟩, ⟨rfl⟩⟩
  · intro ⟨bs, u, f, h1, hu, hf⟩
    cbv
    refine Split.mk (fun h => ?_) (fun h => ?_)
    · cbv
      simp only [zc1] at h
      simp only [zc2] at h
      have h : 128 ≤ u := by simp at h; omega
      cases f with
      | zero => omega
      | succ f =>
      rw [put1, if_neg (by omega)] at h1
      refine ⟨⟨rfl⟩, ⟨by simp⟩, ⟨by simp [chunk, big]; omega⟩, ⟨by simp [chunk]⟩, ⟨by decide⟩, ⟨bs ++ [u % 128 + 128], u / 128, f, ?_, ?_, ?_⟩, ?_, ?_⟩
      · rw [← h1]; simp
      · rw [Nat.pow_succ] at hu; omega
      · simp; omega
      · simp only; omega
      · cbv
        refine ⟨⟨?_⟩, ⟨?_, ?_⟩, ⟨?_⟩⟩
        · exact shr7 u
        · rfl
        · simp [chunk]
        · simp [chunk, or128, rowB_append, rowB_one]
    · cbv
      simp only [zc1] at h
      simp only [zc2] at h
      have h : u < 128 := by simp at h; omega
      have e : putB n = bs ++ [u] := by
        rw [putB, ← h1]
        cases f with
        | zero => rfl
        | succ f => rw [put1, if_pos (by omega)]
      have e2 : IntKind.u8.wrap (u : Int) = u := by rw [wrap_u8_mod]; omega
      simp [Hold.iff, chunk, e, e2, rowB_append, rowB_one, big]
      omega
end Go.Am
