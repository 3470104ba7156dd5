/- One operation: stores, new objects. -/
import Derived.Test.YtckgeadidjmpcaaAmOps6
namespace Go.Am
set_option linter.all false
set_option linter.deprecated false
section
variable {P : Program} {o : Oper} {a : Act} {w w' : World} {I : Nat → Prop} {σ : Sig} {M : MS} {key : Nat} {env : List AV} {T : TT}

theorem Turned.refl (w : World) (b : Nat) : Turned w w b := ⟨rfl, rfl, rfl, rfl, fun _ _ => rfl⟩
theorem Turned.trans {w w' w'' : World} {b : Nat} (h : Turned w w' b) (k : Turned w' w'' b) : Turned w w'' b :=
  ⟨k.os.trans h.os, k.tape.trans h.tape, k.output.trans h.output, k.size.trans h.size, fun j hj => (k.other j hj).trans (h.other j hj)⟩
def Splice (cs : Array Value) (o : Nat) (vs : List Value) (cs' : Array Value) : Prop :=
  cs'.size = cs.size ∧ ∀ j : Nat, cs'[j]? = if o ≤ j ∧ j < o + vs.length then vs[j - o]? else cs[j]?
theorem run_storeCells_splice (b o : Nat) : ∀ (vs : List Value) (i : Nat) (w : World) (cs : Array Value) (t : TypeId) (fz : Nat × Nat), w.heap[b]? = some (.cells cs t fz) → unfrozen cs fz → o + i + vs.length ≤ cs.size → (∀ v ∈ vs, v.oneCell' = true) →
    ∃ w' cs', (storeCells ⟨b, o, none⟩ vs i).run P w = .ok () w' ∧ Turned w w' b ∧ w'.heap[b]? = some (.cells cs' t fz) ∧ Splice cs (o + i) vs cs'
  | [], i, w, cs, t, fz, hh, _, _, _ => ⟨w, cs, rfl, .refl w b, hh, rfl, fun j => by rw [if_neg (by simp)]⟩
  | v :: vs, i, w, cs, t, fz, hh, hf, hl, h1 => by
    simp only [List.length_cons] at hl
    have hb : b < w.heap.size := (Array.getElem?_eq_some_iff.1 hh).1
    have hc : w.cell? ⟨b, o + i, none⟩ = some cs[o + i] := by
      rw [cell_of_row w b (o + i) cs t fz hh]
      exact Array.getElem?_eq_getElem (by omega)
    have hfz : w.frozen? ⟨b, o + i, none⟩ = false := by
      simp only [World.frozen?, hh]
      unfold unfrozen at hf
      simp only [Bool.and_eq_false_iff, decide_eq_false_iff_not]
      omega
    have hst : (store ((⟨b, o, none⟩ : Addr).add i) v).run P w = .ok () (w.setCell ⟨b, o + i, none⟩ v) := by
      rw [Addr.add_lit, run_store P w _ v _ (h1 v (by simp))]
      simp [hc, hfz]
    have hh' : (w.setCell ⟨b, o + i, none⟩ v).heap[b]? = some (.cells (cs.setIfInBounds (o + i) v) t fz) := by
      simp [World.setCell, Array.getElem?_modify, hh]
    have ht : Turned w (w.setCell ⟨b, o + i, none⟩ v) b := ⟨rfl, rfl, rfl, by simp, fun k hk => heap_setCell_other w ⟨b, o + i, none⟩ k v hk⟩
    obtain ⟨w', cs', r1, r2, r3, r4, r5⟩ := run_storeCells_splice b o vs (i + 1) _ _ t fz hh' (by unfold unfrozen at *; simpa using hf) (by simp; omega) (fun x hx => h1 x (by simp [hx]))
    refine ⟨w', cs', ?_, ht.trans r2, r3, by simpa using r4, fun j => ?_⟩
    · simp only [storeCells, Sem.run_bind, hst, Result.andThen_ok, r1]
    · rw [r5 j]
      simp only [List.length_cons]
      by_cases hj : o + i = j
      · subst hj
        rw [if_neg (by omega), if_pos (by omega), Array.getElem?_setIfInBounds_self_of_lt (by omega)]
        simp
      · rw [Array.getElem?_setIfInBounds_ne hj]
        by_cases h2 : o + (i + 1) ≤ j ∧ j < o + (i + 1) + vs.length
        · rw [if_pos h2, if_pos (by omega)]
          obtain ⟨n, rfl⟩ : ∃ n, j = o + i + 1 + n := ⟨j - (o + i + 1), by omega⟩
          rw [show o + i + 1 + n - (o + (i + 1)) = n by omega, show o + i + 1 + n - (o + i) = n + 1 by omega]
          rfl
        · rw [if_neg h2, if_neg (by omega)]
theorem run_storeVar_of {t : TypeId} {i : TI} (hi : TIok P t i) {v : Value} (hv : v.cells.size = i.size) (h1 : ∀ c ∈ v.cells.toList, c.oneCell' = true) {b off : Nat} {cs : Array Value} {ty : TypeId} {fz : Nat × Nat}
    (hh : w.heap[b]? = some (.cells cs ty fz)) (hf : unfrozen cs fz) (hl : off + i.size ≤ cs.size) :
    ∃ w' cs', (Instr.storeAt t (.pointer (some ⟨b, off, none⟩)) v).run P w = .ok () w' ∧ Turned w w' b ∧ w'.heap[b]? = some (.cells cs' ty fz) ∧ Splice cs off v.cells.toList cs' := by
  obtain ⟨inf, z, hinf, hs, _⟩ := hi.info
  obtain ⟨w', cs', r1, r2, r3, r4⟩ := run_storeCells_splice (P := P) b off v.cells.toList 0 w cs ty fz hh hf (by simp; omega) h1
  refine ⟨w', cs', ?_, r2, r3, by simpa using r4⟩
  simp only [Instr.storeAt, Instr.sureAddr, storeVar, Sem.run_bind, Sem.run_pure, Result.andThen_ok, run_sizeOf_of hinf, hs]
  rw [if_neg (by simp [hv])]
  exact r1
theorem Splice.unfrozen {cs cs' : Array Value} {o : Nat} {vs : List Value} {fz : Nat × Nat} (h : Splice cs o vs cs') (hf : Am.unfrozen cs fz) : Am.unfrozen cs' fz := by
  unfold Am.unfrozen at *
  rw [h.1]
  exact hf
/-- an object's cells behind a store -/
theorem VRs.splice : ∀ {vs cs : List AV} {us ws : List Value} {us' : List Value} {off : Nat}, VRs w I σ cs us → VRs w I σ vs ws → us'.length = us.length → (∀ j : Nat, us'[j]? = if off ≤ j ∧ j < off + ws.length then ws[j - off]? else us[j]?) →
    off + ws.length ≤ us.length → VRs w I σ (Am.lput cs off vs) us'
  | [], cs, us, ws, us', off, h, hv, hl, hj, _ => by
    simp only [VRs] at hv
    subst hv
    have : us' = us := List.ext_getElem? fun j => by rw [hj j, if_neg (by simp)]
    rw [this]
    exact h
  | v :: vs, cs, us, ws, us', off, h, hv, hl, hj, hb => by
    simp only [VRs] at hv
    obtain ⟨u, ws', rfl, hu, hv⟩ := hv
    simp only [Am.lput]
    refine VRs.splice (us := us.set off u) (VRs.lset off h hu) hv (by simpa using hl) (fun j => ?_) (by simp at hb ⊢; omega)
    rw [hj j]
    simp only [List.length_cons] at hb ⊢
    by_cases he : off = j
    · subst he
      rw [if_pos (by omega), if_neg (by omega), List.getElem?_set_self (by omega)]
      simp
    · rw [List.getElem?_set_ne he]
      by_cases h2 : off + 1 ≤ j ∧ j < off + 1 + ws'.length
      · rw [if_pos h2, if_pos (by omega)]
        obtain ⟨n, rfl⟩ : ∃ n, j = off + 1 + n := ⟨j - (off + 1), by omega⟩
        rw [show off + 1 + n - (off + 1) = n by omega, show off + 1 + n - off = n + 1 by omega]
        rfl
      · rw [if_neg h2, if_neg (by omega)]
mutual
theorem shEq_ok : ∀ {s t : Sh}, shEq s t = true → s = t
  | .int k, .int k', h => by simp only [shEq, decide_eq_true_eq] at h; rw [h]
  | .bool, .bool, _ => rfl
  | .str, .str, _ => rfl
  | .slice e, .slice e', h => by
    have := shEqs_ok (s := e) (t := e') (by simpa [shEq] using h)
    rw [this]
  | .ptr e, .ptr e', h => by
    have := shEqs_ok (s := e) (t := e') (by simpa [shEq] using h)
    rw [this]
  | .other, .other, _ => rfl
  | .int _, .bool, h => by simp [shEq] at h
  | .int _, .str, h => by simp [shEq] at h
  | .int _, .slice _, h => by simp [shEq] at h
  | .int _, .ptr _, h => by simp [shEq] at h
  | .int _, .other, h => by simp [shEq] at h
  | .bool, .int _, h => by simp [shEq] at h
  | .bool, .str, h => by simp [shEq] at h
  | .bool, .slice _, h => by simp [shEq] at h
  | .bool, .ptr _, h => by simp [shEq] at h
  | .bool, .other, h => by simp [shEq] at h
  | .str, .int _, h => by simp [shEq] at h
  | .str, .bool, h => by simp [shEq] at h
  | .str, .slice _, h => by simp [shEq] at h
  | .str, .ptr _, h => by simp [shEq] at h
  | .str, .other, h => by simp [shEq] at h
  | .slice _, .int _, h => by simp [shEq] at h
  | .slice _, .bool, h => by simp [shEq] at h
  | .slice _, .str, h => by simp [shEq] at h
  | .slice _, .ptr _, h => by simp [shEq] at h
  | .slice _, .other, h => by simp [shEq] at h
  | .ptr _, .int _, h => by simp [shEq] at h
  | .ptr _, .bool, h => by simp [shEq] at h
  | .ptr _, .str, h => by simp [shEq] at h
  | .ptr _, .slice _, h => by simp [shEq] at h
  | .ptr _, .other, h => by simp [shEq] at h
  | .other, .int _, h => by simp [shEq] at h
  | .other, .bool, h => by simp [shEq] at h
  | .other, .str, h => by simp [shEq] at h
  | .other, .slice _, h => by simp [shEq] at h
  | .other, .ptr _, h => by simp [shEq] at h
theorem shEqs_ok : ∀ {s t : List Sh}, shEqs s t = true → s = t
  | [], [], _ => rfl
  | s :: ss, t :: ts, h => by
    unfold shEqs at h
    split at h
    · rename_i h1
      rw [shEq_ok h1, shEqs_ok h]
    · cases h
  | [], _ :: _, h => by simp [shEqs] at h
  | _ :: _, [], h => by simp [shEqs] at h
end
theorem enc_ok {s : Sh} {x : AV} {d : Unit → D} {v : Value} (h : enc s x = some d) (hv : VR w I σ x v) : Dat w I s (d ()) v := by
  unfold enc at h
  split at h <;> (try (cases h; done))
  · split at h
    · rename_i hk
      simp only [decide_eq_true_eq] at hk
      simp only [Option.some.injEq] at h
      subst h hk
      simpa only [VR, Dat, D.toInt] using hv
    · cases h
  · simp only [Option.some.injEq] at h
    subst h
    simpa only [VR, Dat, D.toBool] using hv
  · simp only [Option.some.injEq] at h
    subst h
    simpa only [VR, Dat, D.toStr] using hv
  · simp only [Option.some.injEq] at h
    subst h
    simp only [VR] at hv
    subst hv
    simp only [Dat, D.toList]
    exact ⟨none, 0, 0, rfl, rfl, Nat.le_refl _, Nat.zero_le _, fun _ => rfl, by simp, fun i hi => by omega⟩
  · split at h
    · rename_i he
      simp only [Option.some.injEq] at h
      subst h
      simp only [VR] at hv
      rw [← shEqs_ok he]
      exact hv.1
    · cases h
end
end Go.Am
