/- internal/bytealg.MakeNoZero: bytes that nobody knows. -/
import Derived.Test.YtckgeadidjmpcaaAmLib
import Derived.Lib.MakeNoZero
import Derived.Laws.Externs
namespace Go.Am
set_option linter.all false
set_option linter.deprecated false
section
variable {P : Program} {w : World} {I : Nat → Prop} {σ : Sig}
def vInt : Value → Int
  | .int _ n => n
  | _ => 0
def nozC : Contract := { modes := [.ro], fn := fun _ _ => none, nfn := fun args M => match args, M with
  | [.int .i64 n], [] => some ⟨[fun _ => 0 ≤ n () ∧ n () ≤ big], fun d => d.toList.length = (n ()).toNat ∧ ∀ i, i < d.toList.length → WfDs U8 0 (lk d.toList i), fun d => (.ms 0 (fun _ => 0) (fun _ => (n ()).toNat), [(0, some (.row true U8 (fun _ => d.toList)))])⟩
  | _, _ => none }
theorem digits_bytes : ∀ (n t : Nat) (acc : Array Value), (∀ v ∈ acc.toList, ∃ b : Nat, b < 256 ∧ v = .int .u8 b) → ∀ v ∈ (Extern.BytealgMakeNoZero.digits n t acc).toList, ∃ b : Nat, b < 256 ∧ v = .int .u8 b
  | 0, _, _, h => h
  | n + 1, t, acc, h => by
    rw [Extern.BytealgMakeNoZero.digits]
    refine digits_bytes n _ _ fun v hv => ?_
    simp only [Array.toList_push, List.mem_append, List.mem_singleton] at hv
    rcases hv with hv | rfl
    · exact h v hv
    · exact ⟨t % 256, Nat.mod_lt _ (by decide), rfl⟩
theorem run_noz (ps : Array TypeId) (t e : TypeId) (ht : P.underlying t = some (.slice e)) (n : Nat) (hn : n ≤ big) :
    ∃ cs : Array Value, (Extern.BytealgMakeNoZero.makeNoZero ps #[t] #[.int .i64 n]).run P w = .ok (.slice (some ⟨w.heap.size, 0, none⟩) n cs.size) (w.drew.drew.alloc (.cells cs e)) ∧ n ≤ cs.size ∧ cs.size ≤ maxLen ∧ ∀ v ∈ cs.toList, ∃ b : Nat, b < 256 ∧ v = .int .u8 b := by
  have hb : n ≤ 1099511627776 := hn
  have h1 : ¬ ((n : Int) < 0 || (n : Int) > 2 ^ 48) = true := by simp; omega
  refine ⟨Extern.BytealgMakeNoZero.digits (grownCap w n 0 e) ((Question.extern "internal/bytealg.MakeNoZero.bytes" 0).cut (w.drew.tape w.drew.drawn (.extern "internal/bytealg.MakeNoZero.bytes" 0))) #[], ?_, ?_, ?_, digits_bytes _ _ _ (by simp)⟩
  · have hdef : Extern.BytealgMakeNoZero.makeNoZero ps #[t] #[.int .i64 n] =
        (do
          let .slice elem ← underlying t | stuck "bytealg.MakeNoZero: slice type expected"
          if (n : Int) < 0 || (n : Int) > 2 ^ 48 then runtimePanic (.error "makeslice: len out of range")
          let cap ← choose (.appendCap (n : Int).toNat 0 elem)
          askRoom cap
          let bytes ← choose (.extern "internal/bytealg.MakeNoZero.bytes" 0)
          let a ← newRow elem (Extern.BytealgMakeNoZero.digits cap bytes #[])
          pure (.slice (some a) (n : Int).toNat cap) : Sem Value) := rfl
    rw [hdef]
    simp only [Sem.run_bind, run_underlying ht, Result.andThen_ok, if_neg h1, Sem.run_pure, Int.toNat_natCast]
    simp [Question.forced, newRow, grownCap, Lib.size_digits]
  · rw [Lib.size_digits]
    have := grownCap_ge w n 0 e
    simp; omega
  · rw [Lib.size_digits]
    have := grownCap_le_maxLen w n 0 e (by unfold maxLen; omega)
    simp; omega
theorem noz_ok {f : FuncId} {fn : Func} {t e : TypeId} (hf : P.funcs[f]? = some fn) (hname : (fn.name == "runtime.NumGoroutine") = false) (hb : fn.body.isNone = true) (hn : Extern.findNext fn = none) {ps : Array TypeId}
    (he : Extern.find fn = some (Extern.BytealgMakeNoZero.makeNoZero ps #[t])) (ht : P.underlying t = some (.slice e)) : CSound P f nozC := by
  refine ⟨fun args M r hr => by simp [nozC] at hr, fun args M r hr hvc => ?_⟩
  intro w I σ vs hok hfree hargs o a K Q hK
  simp only [nozC] at hr
  split at hr <;> cases hr
  rename_i n
  have hv : 0 ≤ n () ∧ n () ≤ big := hvc _ (List.mem_singleton.2 rfl)
  simp only [VRs, VR] at hargs
  obtain ⟨u, us, rfl, ⟨rfl, _⟩, rfl⟩ := hargs
  obtain ⟨m, hm⟩ := Int.eq_ofNat_of_zero_le hv.1
  obtain ⟨cs, hrun, h1, h2, h3⟩ := run_noz (P := P) (w := w) ps t e ht m (by have := hv.2; rw [hm] at this; exact Int.ofNat_le.1 this)
  have hl : (cs.toList.take m).length = m := by simp; omega
  have hrow : RowL w I U8 ((cs.toList.take m).map fun v => [D.int (vInt v)]) (cs.toList.take m) := by
    refine ⟨by simp, fun i hi => ?_⟩
    rw [List.length_map] at hi
    have hv3 := h3 (cs.toList.take m)[i] (List.mem_of_mem_take (List.getElem_mem hi))
    obtain ⟨b, hb, e1⟩ := hv3
    have e2 : ((cs.toList.take m).drop (i * 1)).take 1 = [(cs.toList.take m)[i]] := by
      rw [Nat.mul_one, List.drop_eq_getElem_cons hi]; rfl
    show DatL w I U8 0 _ (((cs.toList.take m).drop (i * 1)).take 1)
    rw [e2, e1]
    have e3 : lk ((cs.toList.take m).map fun v => [D.int (vInt v)]) i = [D.int b] := by
      simp only [lk, List.getD, List.getElem?_map, List.getElem?_eq_getElem hi, e1]
      rfl
    rw [e3]
    refine ⟨_, [], rfl, ?_, rfl⟩
    simp only [Dat, lk, List.getD, List.getElem?_cons_zero, Option.getD_some, D.toInt, true_and, u8_iff]
    omega
  have hpost := Post.alloc (key := 0) (M := []) (w := w) (I := I) (w' := w.drew.drew.alloc (.cells cs e)) (x := .cells cs e) (cap := cs.size) (sz := 1) (val := .ms 0 (fun _ => 0) (fun _ => m)) (v := .slice (some ⟨w.heap.size, 0, none⟩) m cs.size)
    (y := .row true U8 (fun _ => (cs.toList.take m).map fun v => [D.int (vInt v)])) hok (hfree 0 (Nat.le_refl _)) ⟨rfl, rfl, rfl, rfl⟩ trivial
    (row_new (w := w) (I := I) (w' := w.drew.drew.alloc (.cells cs e)) (cs0 := cs) (t := e) (fz := (0, 0)) ⟨rfl, rfl, rfl, rfl⟩ hok.lt (by decide) hrow (by simp) (fun j c hc => by
      rw [List.getElem?_take] at hc
      split at hc
      · simpa using hc
      · cases hc) (by rw [List.length_map, hl]; exact h1) h2 (by simp [unfrozen]))
    (by simp only [VR, Sig.upd_same, MsR]; exact ⟨0, cs.size, rfl, .inr (by simp), by simp, h1, h2⟩)
  obtain ⟨I', σ', g1, g2, g3, _⟩ := hpost
  have hcall : (callFunc f [Value.int .i64 (n ())].toArray).run P w = .ok (.value (.slice (some ⟨w.heap.size, 0, none⟩) m cs.size)) (w.drew.drew.alloc (.cells cs e)) := by
    rw [hm, run_callFunc_extern hf hname hb hn he, show [Value.int .i64 (m : Int)].toArray = #[.int .i64 (m : Int)] from rfl, hrun]
    rfl
  rw [hcall]
  have hmn : (n ()).toNat = m := by omega
  refine hK _ _ ⟨_, _, ⟨.list ((cs.toList.take m).map fun v => [D.int (vInt v)]), ⟨?_, ?_⟩, rfl⟩, I', σ', ?_, g2, g3⟩
  · simp only [D.toList, List.length_map, hl, hmn]
  · intro i hi
    have := hrow.2 i (by simpa [D.toList] using hi)
    obtain ⟨u, cs', _, hd, _⟩ := this
    simp only [WfDs, WfD, and_true, D.toList]
    exact hd.2
  · simp only [hmn]
    exact g1
end
end Go.Am
