/- Small helps for the contracts' proofs. -/
import Derived.Test.YtckgeadidjmpcaaAmWf
namespace Go.Am
set_option linter.all false
set_option linter.deprecated false
def codeOf (f : Func) : Code := match f.body with | some c => c | none => .skip
/-- bytes as a row's data, and back -/
def rowB (bs : List Nat) : List (List D) := bs.map fun (b : Nat) => [D.int (b : Int)]
def bn (xs : List (List D)) : List Nat := xs.map fun c => (lk c 0).toInt.toNat
abbrev U8 : List Sh := [.int .u8]
theorem wfB_iff (k : IntKind) (n : Int) : wfB k n = true ↔ k.min ≤ n ∧ n ≤ k.max := by simp [wfB]
theorem u8_iff (n : Int) : wfB .u8 n = true ↔ 0 ≤ n ∧ n < 256 := by rw [wfB_iff]; simp [IntKind.min, IntKind.max, IntKind.signed, IntKind.bits]; omega
theorem u32_iff (n : Int) : wfB .u32 n = true ↔ 0 ≤ n ∧ n < 4294967296 := by rw [wfB_iff]; simp [IntKind.min, IntKind.max, IntKind.signed, IntKind.bits]; omega
theorem u64_iff (n : Int) : wfB .u64 n = true ↔ 0 ≤ n ∧ n < 18446744073709551616 := by rw [wfB_iff]; simp [IntKind.min, IntKind.max, IntKind.signed, IntKind.bits]; omega
theorem i64_iff (n : Int) : wfB .i64 n = true ↔ -9223372036854775808 ≤ n ∧ n < 9223372036854775808 := by rw [wfB_iff]; simp [IntKind.min, IntKind.max, IntKind.signed, IntKind.bits]; omega
theorem wrap_of {k : IntKind} {n : Int} (h : wfB k n = true) : k.wrap n = n := by
  rw [wfB_iff] at h
  cases k <;> simp [IntKind.wrap, IntKind.min, IntKind.max, IntKind.signed, IntKind.bits] at h ⊢ <;> omega
theorem wrap_i64 {n : Int} (h : -9223372036854775808 ≤ n ∧ n < 9223372036854775808) : IntKind.i64.wrap n = n := wrap_of ((i64_iff n).2 h)
theorem wrap_u64 {n : Int} (h : 0 ≤ n ∧ n < 18446744073709551616) : IntKind.u64.wrap n = n := wrap_of ((u64_iff n).2 h)
theorem wrap_u64_mod (n : Int) : IntKind.u64.wrap n = n % 18446744073709551616 := by simp [IntKind.wrap, IntKind.signed, IntKind.bits]
theorem wrap_u32_mod (n : Int) : IntKind.u32.wrap n = n % 4294967296 := by simp [IntKind.wrap, IntKind.signed, IntKind.bits]
theorem wrap_u8_mod (n : Int) : IntKind.u8.wrap n = n % 256 := by simp [IntKind.wrap, IntKind.signed, IntKind.bits]
@[simp] theorem bn_len (xs : List (List D)) : (bn xs).length = xs.length := by simp [bn]
@[simp] theorem rowB_len (bs : List Nat) : (rowB bs).length = bs.length := by simp [rowB]
@[simp] theorem bn_rowB (bs : List Nat) : bn (rowB bs) = bs := by
  simp only [bn, rowB, List.map_map]
  conv => rhs; rw [← List.map_id bs]
  exact List.map_congr_left fun b _ => by simp [lk, D.toInt]
theorem bn_append (xs ys : List (List D)) : bn (xs ++ ys) = bn xs ++ bn ys := by simp [bn]
theorem bn_take (xs : List (List D)) (n : Nat) : bn (xs.take n) = (bn xs).take n := by simp [bn, List.map_take]
theorem bn_drop (xs : List (List D)) (n : Nat) : bn (xs.drop n) = (bn xs).drop n := by simp [bn, List.map_drop]
theorem rowB_append (a b : List Nat) : rowB (a ++ b) = rowB a ++ rowB b := by simp [rowB]
theorem bn_lt {xs : List (List D)} (h : WfR U8 xs) : ∀ b ∈ bn xs, b < 256 := by
  intro b hb
  obtain ⟨i, hi, rfl⟩ := List.getElem_of_mem hb
  have := h.2 i (by simpa using hi)
  simp only [WfDs, WfD, and_true] at this
  rw [u8_iff] at this
  have e : lk xs i = xs[i]'(by simpa using hi) := by simp [lk, List.getD, List.getElem?_eq_getElem (show i < xs.length by simpa using hi)]
  rw [e] at this
  simp only [bn, List.getElem_map]
  omega
theorem bn_at {xs : List (List D)} (h : WfR U8 xs) {i : Nat} (hi : i < xs.length) : (lk (lk xs i) 0).toInt = (((bn xs).getD i 0 : Nat) : Int) := by
  have := h.2 i hi
  simp only [WfDs, WfD, and_true] at this
  rw [u8_iff] at this
  have e : (bn xs).getD i 0 = (lk (lk xs i) 0).toInt.toNat := by simp [bn, lk, List.getD, List.getElem?_eq_getElem hi]
  rw [e]
  omega
theorem WfR.take {e : List Sh} {xs : List (List D)} (h : WfR e xs) (n : Nat) : WfR e (xs.take n) :=
  ⟨by simp; have := h.1; omega, fun i hi => by
    rw [List.length_take] at hi
    have h1 : i < n := by omega
    have := h.2 i (by omega)
    simpa [lk, List.getD, List.getElem?_take, h1] using this⟩
theorem WfR.drop {e : List Sh} {xs : List (List D)} (h : WfR e xs) (n : Nat) : WfR e (xs.drop n) :=
  ⟨by simp; have := h.1; omega, fun i hi => by
    simp at hi
    have := h.2 (n + i) (by omega)
    simpa [lk, List.getD, List.getElem?_drop] using this⟩
@[simp] theorem dall_one (f : Unit → D) : dall [f] = [f ()] := rfl
theorem Hold.iff {p : Unit → Prop} : Hold p ↔ p () := ⟨fun h => h.1, .mk⟩
@[simp] theorem take_rowB (bs : List Nat) : (rowB bs).take bs.length = rowB bs := List.take_of_length_le (by simp)
theorem rowB_one (b : Nat) : rowB [b] = [[D.int (b : Int)]] := rfl
/-- casts as the evaluator leaves them, and back: two steps -/
theorem zc1 (n : Nat) : @NatCast.natCast Int instNatCastInt n = Int.ofNat n := rfl
theorem zc2 (n : Nat) : Int.ofNat n = (n : Int) := rfl
theorem ne_t {a b : Int} (h : (a != b) = true) : a ≠ b := by simpa using h
theorem ne_f {a b : Int} (h : (a != b) = false) : a = b := by simpa using h
theorem eq_t {a b : Int} (h : (a == b) = true) : a = b := by simpa using h
theorem eq_f {a b : Int} (h : (a == b) = false) : a ≠ b := by simpa using h
theorem Split.yes {X Y : Unit → Prop} (h : X ()) : Split (fun _ => true) X Y := ⟨fun _ => h, fun h => by cases h⟩
theorem Split.no {X Y : Unit → Prop} (h : Y ()) : Split (fun _ => false) X Y := ⟨fun h => (by cases h), fun _ => h⟩
theorem Split.ofT {b : Unit → Bool} {X Y : Unit → Prop} (hb : b () = true) (h : X ()) : Split b X Y := ⟨fun _ => h, fun e => by rw [hb] at e; cases e⟩
theorem Split.ofF {b : Unit → Bool} {X Y : Unit → Prop} (hb : b () = false) (h : Y ()) : Split b X Y := ⟨fun e => (by rw [hb] at e; cases e), fun _ => h⟩
/-- an environment by its slots -/
def ev1 : List (Nat × AV) → Nat → AV
  | [], _ => .un
  | (k, v) :: l, i => match Nat.beq k i with | true => v | false => ev1 l i
def evs : Nat → Nat → List (Nat × AV) → List AV
  | 0, _, _ => []
  | n + 1, i, l => ev1 l i :: evs n (i + 1) l
def ev (n : Nat) (l : List (Nat × AV)) : List AV := evs n 0 l
theorem csound_weak {P : Program} {f : FuncId} {C C' : Contract} (h : CSound P f C') (hh : ∀ args M r, C.fn args M = some r → (∀ p ∈ r.vc, p ()) → WfVs args → ∃ args' r', C'.fn args' M = some r' ∧ (∀ p ∈ r'.vc, p ()) ∧ r'.val = r.val ∧ r'.objs = r.objs ∧ ∀ w I σ vs, VRs w I σ args vs → VRs w I σ args' vs) (hn0 : ∀ args M, C.nfn args M = none := by intros; rfl) : CSound P f C := by
  refine ⟨fun args M r hr hvc => ?_, fun args M r hr => by rw [hn0] at hr; cases hr⟩
  intro w I σ vs hok hfree hargs
  obtain ⟨args', r', h1, h2, h3, h4, h5⟩ := hh args M r hr hvc hargs.wf
  have := h.det args' M r' h1 h2 w I σ vs hok hfree (h5 w I σ vs hargs)
  rw [h3, h4] at this
  exact this
theorem csound_of {P : Program} {f : FuncId} {C C' : Contract} (h : CSound P f C') (hh : ∀ args M r, C.fn args M = some r → (∀ p ∈ r.vc, p ()) → WfVs args → ∃ r', C'.fn args M = some r' ∧ (∀ p ∈ r'.vc, p ()) ∧ r'.val = r.val ∧ r'.objs = r.objs) (hn0 : ∀ args M, C.nfn args M = none := by intros; rfl) : CSound P f C :=
  csound_weak h (fun args M r hr hvc hw => by
    obtain ⟨r', h1, h2, h3, h4⟩ := hh args M r hr hvc hw
    exact ⟨args, r', h1, h2, h3, h4, fun _ _ _ _ h => h⟩) hn0
theorem nils_sl {w : World} {I : Nat → Prop} {σ : Sig} {e : List Sh} (he : 0 < e.length) {v : Value} (h : VR w I σ .nils v) : VR w I σ (.sl false e fun _ => []) v := by
  simp only [VR] at h ⊢
  subst h
  refine ⟨?_, fun h => by cases h⟩
  simp only [Dat, D.toList]
  exact ⟨none, 0, 0, rfl, rfl, Nat.le_refl _, Nat.zero_le _, fun _ => rfl, he, fun i hi => by simp at hi⟩
theorem Split.d {p : Prop} [Decidable p] {X Y : Unit → Prop} (f : p → X ()) (g : ¬ p → Y ()) : Split (fun _ => decide p) X Y := ⟨fun h => f (of_decide_eq_true h), fun h => g (of_decide_eq_false h)⟩
/-- contracts by number -/
def gget : List (Nat × Contract) → Nat → Option Contract
  | [], _ => none
  | (k, c) :: L, n => match Nat.beq k n with | true => some c | false => gget L n
theorem gget_nil (P : Program) : ∀ f C, gget [] f = some C → CSound P f C := fun _ _ h => by simp [gget] at h
theorem gget_cons {P : Program} {L : List (Nat × Contract)} {k : Nat} {c : Contract} (h : CSound P k c) (hL : ∀ f C, gget L f = some C → CSound P f C) : ∀ f C, gget ((k, c) :: L) f = some C → CSound P f C := by
  intro f C hf
  simp only [gget] at hf
  split at hf
  · rename_i hb
    have hb := Nat.eq_of_beq_eq_true hb
    subst hb
    cases hf
    exact h
  · exact hL f C hf
end Go.Am
