/- A law's function, called with arguments that came in: it returns true and writes nothing that was there. -/
import Derived.Test.YtckgeadidjmpcaaAmLib
import Derived.Below
import Derived.RowKit
namespace Go.Am
set_option linter.all false
set_option linter.deprecated false
open Go.RowKit Go.RowKit
/-- all blocks that are there -/
def allB (w : World) : Nat → Prop := fun b => b < w.heap.size
def noS : Sig := fun _ => none
theorem ok_nil (w : World) : Ok w (allB w) noS [] :=
  ⟨fun _ h => h, fun k o h => by simp [mget] at h, fun b ⟨k, o, p, h, _⟩ => by simp [mget] at h, fun k k' o o' p p' h => by simp [mget] at h⟩
theorem law_calls {P : Program} {f : FuncId} {C : Contract} (hC : CSound P f C) {args : List AV} {vs : List Value} {w : World} {b : Unit → Bool} {r : Res}
    (hf : C.fn args [] = some r) (hr : r.val = .bool b) (hb : b () = true) (hvc : ∀ p ∈ r.vc, p ()) (hv : VRs w (allB w) noS args vs) {fn : Func} (h1 : P.funcs[f]? = some fn) (h2 : (fn.name == "runtime.NumGoroutine") = false) (h3 : fn.body.isNone = false) :
    Calls P f vs.toArray w fun e w' => e = .returned (.bool true) ∧ Below w.heap.size w w' := by
  have h := hC.det args [] r hf hvc w (allB w) noS vs (ok_nil w) (fun _ _ => rfl) hv
  have h := h { (default : Oper) with dst := some 0 } { tmps := #[undef], defers := [] } (fun a w' => a.tmps.getD 0 undef = .bool true ∧ Below w.heap.size w w') (fun _ _ _ => False) (fun v w' hh => by
    obtain ⟨I', σ', g1, _, g3⟩ := hh
    rw [hr] at g1
    simp only [VR] at g1
    refine ⟨by simp [Act.put, g1, hb], g3.os, g3.tape, g3.output, g3.size, fun k hk => g3.blk k hk fun ⟨_, _, _, q, _⟩ => by simp [mget] at q⟩)
  have hrun : (callFunc f vs.toArray).run P w = .ok (.enter f vs.toArray) w := by
    simp only [callFunc, Sem.run_bind, run_program, Result.andThen_ok, h1, h2, h3, Bool.false_eq_true, if_false, Sem.run_pure]
  rw [hrun] at h
  refine Calls.mono h fun e w' he => ?_
  cases e with
  | returned v =>
    simp only [Act.put] at he
    refine ⟨?_, he.2⟩
    have := he.1
    simp at this
    rw [this]
  | panicked ch => exact he.elim
  | outgrown => obtain ⟨_, _, q⟩ := he; exact q.elim
/-- a slice of integers that came in -/
def IsRow (k : IntKind) (w : World) (a : Option Addr) (len cap : Nat) (zs : List Int) : Prop :=
  (a = none ∧ len = 0 ∧ cap = 0 ∧ zs = []) ∨
  ∃ x, a = some x ∧ len ≤ cap ∧ cap ≤ maxLen ∧ zs.length = cap ∧ (∀ i, i < zs.length → w.cell? (x.add i) = some (.int k (zs.getD i 0))) ∧ ∀ n ∈ zs, (Lit.int k n).wf = true
theorem cell_lt {w : World} {x : Addr} {v : Value} (h : w.cell? x = some v) : x.block < w.heap.size := by
  unfold World.cell? at h
  split at h
  · rename_i hb
    exact (Array.getElem?_eq_some_iff.1 hb).1
  · cases h
theorem wf_lit {k : IntKind} {n : Int} (h : (Lit.int k n).wf = true) : wfB k n = true := by
  simpa [Lit.wf, wfB] using h
theorem row_of {k : IntKind} {w : World} {a : Option Addr} {len cap : Nat} {zs : List Int} (h : IsRow k w a len cap zs) : VR w (allB w) noS (.sl false [.int k] fun _ => (zs.take len).map fun z => [D.int z]) (.slice a len cap) := by
  simp only [VR, Dat]
  refine ⟨?_, fun h => by cases h⟩
  rcases h with ⟨rfl, rfl, rfl, rfl⟩ | ⟨x, rfl, h1, h2, h3, h4, h5⟩
  · exact ⟨none, 0, 0, rfl, by simp [D.toList], Nat.le_refl _, Nat.zero_le _, fun _ => rfl, by simp, fun i hi => by omega⟩
  · refine ⟨some x, len, cap, rfl, by simp [D.toList]; omega, h1, h2, fun h => (by cases h), by simp, fun i hi => ?_⟩
    have hc := h4 i (by omega)
    have hb := cell_lt hc
    obtain ⟨b, off, spot⟩ := x
    have hadd : ∀ s : Option Nat, s = none → (⟨b, off, s⟩ : Addr).add i = ⟨b, off + i, none⟩ := fun s e => by subst e; simp only [Addr.add]; split <;> simp_all
    have hs : spot = none := by simpa [Addr.add] using World.cell?_spot (h4 0 (by omega))
    subst hs
    rw [hadd _ rfl] at hc hb
    refine ⟨b, off, rfl, hb, ?_⟩
    simp only [DatC]
    have e : lk (lk (D.list ((zs.take len).map fun z => [D.int z])).toList i) 0 = D.int (zs.getD i 0) := by
      have hl : i < zs.length := by omega
      simp [lk, D.toList, List.getD, hi, hl]
    refine ⟨⟨.int k (zs.getD i 0), by simpa using hc, ?_⟩, trivial⟩
    rw [e]
    simp only [Dat, D.toInt, true_and]
    refine wf_lit (h5 _ ?_)
    have hl : i < zs.length := by omega
    simp [List.getD, hl]
end Go.Am
