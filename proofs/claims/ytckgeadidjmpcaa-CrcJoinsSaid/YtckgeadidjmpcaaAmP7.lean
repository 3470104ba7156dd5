/- alibikit.Spoil and the document's Put keep their contracts. -/
import Derived.Test.YtckgeadidjmpcaaAmM1
namespace Go.Am
set_option linter.all false
set_option linter.deprecated false
open Go.Proofs
set_option maxRecDepth 100000
set_option maxHeartbeats 4000000
def spoil (xs : List (List D)) (lo len : Nat) : List (List D) := xs.take lo ++ List.replicate len [D.int 165] ++ xs.drop (lo + len)
def spoilC : Contract := { modes := [.mut], fn := fun args M => match args, M with
  | [.ms 0 lo len], [(0, .row nn [.int .u8] xs)] => some ⟨[fun _ => lo () + len () ≤ (xs ()).length], .tup [], [(0, some (.row nn U8 fun _ => spoil (xs ()) (lo ()) (len ())))]⟩
  | _, _ => none }
structure SpI (n : Nat) where
  i : Nat
  hi : i ≤ n
theorem spoil_next {xs : List (List D)} {lo i : Nat} (h : lo + i < xs.length) : (spoil xs lo i).set (lo + i) [D.int 165] = spoil xs lo (i + 1) := by
  have e : lo + i = (xs.take lo ++ List.replicate i [D.int 165]).length := by simp; omega
  have e2 : xs.drop (lo + i) = xs[lo + i] :: xs.drop (lo + (i + 1)) := by rw [List.drop_eq_getElem_cons h]; rfl
  simp only [spoil]
  conv => lhs; rw [e2]
  rw [List.set_append, if_neg (by simp; omega)]
  have e3 : lo + i - (xs.take lo ++ List.replicate i [D.int 165]).length = 0 := by simp; omega
  rw [e3, List.set_cons_zero, List.replicate_succ']
  simp
theorem spoil_ok : CSound Try.prog 25 spoilC := by
  refine fsound' (G := G0) (c := codeOf Try.f25) mixed tyT (gget_nil _) Try.func25 (by rfl) (by kernel_rfl) (by kernel_rfl) fun args M r hr hvc hw hm => ?_
  unfold spoilC at hr
  simp only at hr
  split at hr <;> cases hr
  rename_i lo len nn xs
  obtain ⟨lo, rfl⟩ : ∃ x, lo = fun _ => x := ⟨lo (), rfl⟩
  obtain ⟨len, rfl⟩ : ∃ x, len = fun _ => x := ⟨len (), rfl⟩
  obtain ⟨x, rfl⟩ : ∃ x, xs = fun _ => x := ⟨xs (), rfl⟩
  have hb : lo + len ≤ x.length := hvc _ (List.mem_singleton.2 rfl)
  have hm := hm ⟨rfl, trivial⟩
  simp only [WfM, WfO, and_true] at hm
  have hl := hm.1
  clear hvc
  have s0 : x = spoil x lo 0 := by simp [spoil]
  have hw1 : ∀ i : Nat, i < len → IntKind.i64.wrap ((i : Int) + 1) = ((i + 1 : Nat) : Int) := fun i h => by rw [wrap_i64 (by omega)]; omega
  have hB1 : ∀ i : Nat, i < len → (0 : Int) ≤ (i : Int) ∧ (i : Int) < (len : Int) := fun i h => by omega
  have hB2 : ∀ i : Nat, i < len → lo + ((i : Int)).toNat < (spoil x lo i).length := fun i h => by simp [spoil]; omega
  have hB3 : ∀ i : Nat, i < len → (spoil x lo i).set (lo + ((i : Int)).toNat) [D.int 165] = spoil x lo (i + 1) := fun i h => by rw [Int.toNat_natCast]; exact spoil_next (by omega)
  cases nn
  · cbv
    refine LoopP.mk (SpI len) (fun s => ⟨finit 12 [.ms 0 (fun _ => lo) (fun _ => len), .un, .int .i64 fun _ => s.i], [(0, .row false U8 fun _ => spoil x lo s.i)], 17⟩) (fun s => len - s.i) ⟨0, Nat.zero_le _⟩ ?_ ?_
    · cbv
      exact ⟨⟨rfl, rfl⟩, ⟨rfl⟩, ⟨s0⟩⟩
    · intro ⟨i, hi⟩
      have hn1 : i < len → i + 1 ≤ len ∧ len - (i + 1) < len - i := fun h => by omega
      have hn2 : ¬ (i : Int) < (len : Int) → i = len := fun h => by omega
      have hn3 : (i : Int) < (len : Int) → i < len := fun h => by omega
      cbv
      refine Split.mk (fun h => ?_) (fun h => ?_)
      · have h := hn3 (of_decide_eq_true h)
        cbv
        refine ⟨⟨hB1 i h⟩, ⟨hB2 i h⟩, ⟨i + 1, (hn1 h).1⟩, (hn1 h).2, ?_⟩
        cbv
        exact ⟨⟨rfl, rfl⟩, ⟨hw1 i h⟩, ⟨hB3 i h⟩⟩
      · have h := hn2 (of_decide_eq_false h)
        subst h
        cbv
        exact ⟨rfl⟩
  · cbv
    refine LoopP.mk (SpI len) (fun s => ⟨finit 12 [.ms 0 (fun _ => lo) (fun _ => len), .un, .int .i64 fun _ => s.i], [(0, .row true U8 fun _ => spoil x lo s.i)], 17⟩) (fun s => len - s.i) ⟨0, Nat.zero_le _⟩ ?_ ?_
    · cbv
      exact ⟨⟨rfl, rfl⟩, ⟨rfl⟩, ⟨s0⟩⟩
    · intro ⟨i, hi⟩
      have hn1 : i < len → i + 1 ≤ len ∧ len - (i + 1) < len - i := fun h => by omega
      have hn2 : ¬ (i : Int) < (len : Int) → i = len := fun h => by omega
      have hn3 : (i : Int) < (len : Int) → i < len := fun h => by omega
      cbv
      refine Split.mk (fun h => ?_) (fun h => ?_)
      · have h := hn3 (of_decide_eq_true h)
        cbv
        refine ⟨⟨hB1 i h⟩, ⟨hB2 i h⟩, ⟨i + 1, (hn1 h).1⟩, (hn1 h).2, ?_⟩
        cbv
        exact ⟨⟨rfl, rfl⟩, ⟨hw1 i h⟩, ⟨hB3 i h⟩⟩
      · have h := hn2 (of_decide_eq_false h)
        subst h
        cbv
        exact ⟨rfl⟩
def rputC (n : Nat) : Contract := { modes := [.ro], fn := fun args M => match args, M with
  | [.int .u64 v], [] => some ⟨[fun _ => (v ()).toNat < 128 ^ (n + 1)], .ms 0 (fun _ => 0) (fun _ => (put1 n (v ()).toNat).length), [(0, some (.row true U8 fun _ => rowB (put1 n (v ()).toNat)))]⟩
  | _, _ => none }
def Lr (n : Nat) : List (Nat × Contract) := [(23, rputC n)]
def Gr (n : Nat) : Ctx := fun f => gget (Lr n) f
theorem rput0 : CSound Try.prog 23 (rputC 0) := by
  refine fsound' (G := G0) (c := codeOf Try.f23) mixed tyT (gget_nil _) Try.func23 (by rfl) (by kernel_rfl) (by kernel_rfl) fun args M r hr hvc hw hm => ?_
  unfold rputC at hr
  simp only at hr
  split at hr <;> cases hr
  rename_i v
  obtain ⟨n, rfl⟩ : ∃ n, v = fun _ => n := ⟨v (), rfl⟩
  have hb := hvc _ (List.mem_singleton.2 rfl)
  clear hvc hm
  simp only [WfVs, WfV, and_true, u64_iff] at hw
  obtain ⟨n, rfl⟩ := Int.eq_ofNat_of_zero_le hw.1
  have hn : n < 128 := by simpa using hb
  have h1 : (n : Int) < 128 := by omega
  have h2 : IntKind.u8.wrap (n : Int) = n := by rw [wrap_u8_mod]; omega
  clear hb
  cbv
  refine .ofT (decide_eq_true h1) ?_
  cbv
  simp [Hold.iff, chunk, h2, put1, rowB]
theorem rputS (n : Nat) (hn : n ≤ 100) (ih : CSound Try.prog 23 (rputC n)) : CSound Try.prog 23 (rputC (n + 1)) := by
  refine fsound' (G := Gr n) (c := codeOf Try.f23) mixed tyT (gget_cons ih (gget_nil _)) Try.func23 (by rfl) (by kernel_rfl) (by kernel_rfl) fun args M r hr hvc hw hm => ?_
  unfold rputC at hr
  simp only at hr
  split at hr <;> cases hr
  rename_i v
  obtain ⟨u, rfl⟩ : ∃ n, v = fun _ => n := ⟨v (), rfl⟩
  have hb := hvc _ (List.mem_singleton.2 rfl)
  clear hvc hm
  simp only [WfVs, WfV, and_true, u64_iff] at hw
  obtain ⟨u, rfl⟩ := Int.eq_ofNat_of_zero_le hw.1
  simp only [Int.toNat_natCast] at hb
  rw [Nat.pow_succ] at hb
  have d0 : ((u : Int).tdiv 128) = ((u / 128 : Nat) : Int) := by rw [Int.tdiv_eq_ediv_of_nonneg (by omega)]; omega
  have d1 : IntKind.u64.wrap ((u : Int).tdiv 128) = ((u / 128 : Nat) : Int) := by rw [d0, wrap_u64 (by omega)]
  have d3 : ((u : Int).tmod 128) = ((u % 128 : Nat) : Int) := by rw [Int.tmod_eq_emod_of_nonneg (by omega)]; omega
  have d2 : IntKind.u8.wrap (IntKind.u8.wrap ((u : Int).tmod 128) + 128) = ((u % 128 + 128 : Nat) : Int) := by rw [d3, wrap_u8_mod, wrap_u8_mod]; omega
  have hlen := put1_len n (u / 128)
  have f1 : 1 + (put1 n (u / 128)).length ≤ 1099511627776 := by omega
  have f2 : u / 128 < 128 ^ (n + 1) := by omega
  have e1 : (u : Int) < 128 → put1 (n + 1) u = [u] ∧ IntKind.u8.wrap (u : Int) = u := fun h => by rw [put1, if_pos (by omega), wrap_u8_mod]; exact ⟨rfl, by omega⟩
  have e2 : ¬ (u : Int) < 128 → put1 (n + 1) u = (u % 128 + 128) :: put1 n (u / 128) := fun h => by rw [put1, if_neg (by omega)]
  have e3 : List.take (put1 n (u / 128)).length (rowB (put1 n (u / 128))) = rowB (put1 n (u / 128)) := take_rowB _
  cbv
  refine Split.mk (fun h => ?_) (fun h => ?_)
  · have h := e1 (of_decide_eq_true h)
    cbv
    simp [Hold.iff, chunk, h.1, h.2, rowB]
  · have h := e2 (of_decide_eq_false h)
    cbv
    simp only [Hold.iff, chunk, d1, d2, Int.toNat_natCast, h]
    simp [big, e3]
    exact ⟨f2, f1, Nat.add_comm _ _, by simp [rowB]⟩
theorem rput_all : ∀ n, n ≤ 100 → CSound Try.prog 23 (rputC n)
  | 0, _ => rput0
  | n + 1, h => rputS n (by omega) (rput_all n (by omega))
/-- the document's Put: the same bytes -/
def rputC' : Contract := { modes := [.ro], fn := fun args M => match args, M with
  | [.int .u64 v], [] => some ⟨[], .ms 0 (fun _ => 0) (fun _ => (putB (v ()).toNat).length), [(0, some (.row true U8 fun _ => rowB (putB (v ()).toNat)))]⟩
  | _, _ => none }
theorem rput_ok : CSound Try.prog 23 rputC' := by
  refine csound_of (rput_all 9 (by omega)) fun args M r hr hvc hw => ?_
  unfold rputC' at hr
  simp only at hr
  split at hr <;> cases hr
  rename_i v
  simp only [WfVs, WfV, and_true, u64_iff] at hw
  refine ⟨_, rfl, fun p hp => ?_, rfl, rfl⟩
  rw [List.mem_singleton.1 hp]
  show (v ()).toNat < 128 ^ 10
  omega
end Go.Am
