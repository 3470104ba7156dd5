/- A table of types held against the program's own. -/
import Derived.Test.YtckgeadidjmpcaaAmFun
namespace Go.Am
set_option linter.all false
set_option linter.deprecated false
section
variable {P : Program}
def infSz (P : Program) (t sz : Nat) : Bool := match P.info? t with | some inf => Nat.beq inf.size sz | none => false
def fsOk (P : Program) : List (Nat × Nat × Nat) → List Field → Bool
  | [], _ => true
  | _ :: _, [] => false
  | (off, ft, sz) :: fs, g :: gs => Nat.beq g.offset off && Nat.beq g.type ft && infSz P ft sz && fsOk P fs gs
def tdOk (P : Program) : TD → TypeDesc → Bool
  | .int k, .int k' => decide (k' = k)
  | .bool, .bool => true
  | .str, .string => true
  | .slice el esz eb esh, .slice el' => Nat.beq el' el && Nat.beq esh.length esz && Nat.blt 0 esz && (match P.info? el with
    | some inf => Nat.beq inf.size esz && Nat.beq inf.bytes eb && (match inf.zero with | some z => Nat.beq z.cells.size esz | none => false)
    | none => false)
  | .ptr el, .pointer el' => Nat.beq el' el
  | .struct fs cmp, .struct fields => fsOk P fs fields.toList && Nat.beq fs.length fields.size && (!cmp || fields.toList.all fun g => g.name != "_")
  | .array n el esz, .array n' el' => Nat.beq n' n && Nat.beq el' el && infSz P el esz
  | .func, .func .. => true
  | .other, _ => true
  | _, _ => false
def zOk : AV → Value → Bool
  | .un, _ => true
  | .int k n, .int k' m => decide (k' = k) && decide (m = n ()) && wfB k (n ())
  | .bool b, .bool c => c == b ()
  | .str s, .string t => decide (t.data.toList = s ()) && Nat.ble t.size maxLen
  | .nils, .slice none 0 0 => true
  | .nilp, .pointer none => true
  | .nilf, .nilFunc => true
  | _, _ => false
def zsOk : List AV → List Value → Bool
  | [], [] => true
  | v :: vs, u :: us => zOk v u && zsOk vs us
  | _, _ => false
def tiOk (P : Program) (t : Nat) (i : TI) : Bool :=
  (match P.underlying t with | some d => tdOk P i.td d && (i.agg == isAggD d) | none => false) &&
  (match i.td with | .struct _ true => !(P.stoodInHeld t) && !(P.eqGuardType P.depth t) | _ => true) &&
  (match P.info? t with
    | some inf => Nat.beq inf.size i.size && (match inf.zero with | some z => Nat.beq z.cells.size i.size && zsOk i.zero z.cells.toList | none => false)
    | none => false)
def tabOk (P : Program) : TL → Bool
  | [] => true
  | (t, i) :: L => tiOk P t i && tabOk P L
theorem infSz_iff {t sz : Nat} (h : infSz P t sz = true) : ∃ inf, P.info? t = some inf ∧ inf.size = sz := by
  unfold infSz at h
  split at h
  · rename_i inf hi
    exact ⟨inf, hi, Nat.eq_of_beq_eq_true h⟩
  · cases h
theorem fsOk_iff : ∀ {fs : List (Nat × Nat × Nat)} {gs : List Field}, fsOk P fs gs = true → FsR P fs gs
  | [], _, _ => trivial
  | _ :: _, [], h => by simp [fsOk] at h
  | (off, ft, sz) :: fs, g :: gs, h => by
    simp only [fsOk, Bool.and_eq_true] at h
    exact ⟨Nat.eq_of_beq_eq_true h.1.1.1, Nat.eq_of_beq_eq_true h.1.1.2, infSz_iff h.1.2, fsOk_iff h.2⟩
theorem tdOk_iff {td : TD} {d : TypeDesc} (h : tdOk P td d = true) : TDok P td d := by
  unfold tdOk at h
  split at h <;> simp only [TDok] <;> (try (cases h; done))
  · rw [of_decide_eq_true h]
  · rename_i el esz eb esh el'
    simp only [Bool.and_eq_true] at h
    obtain ⟨⟨⟨h1, h2⟩, h3⟩, h4⟩ := h
    have h1 := Nat.eq_of_beq_eq_true h1
    subst h1
    refine ⟨rfl, Nat.eq_of_beq_eq_true h2, by rw [Nat.blt] at h3; exact Nat.le_of_ble_eq_true h3, ?_⟩
    split at h4 <;> (try (cases h4; done))
    rename_i inf hi
    simp only [Bool.and_eq_true] at h4
    obtain ⟨⟨g1, g2⟩, g3⟩ := h4
    split at g3 <;> (try (cases g3; done))
    rename_i z hz
    exact ⟨inf, z, hi, Nat.eq_of_beq_eq_true g1, Nat.eq_of_beq_eq_true g2, hz, Nat.eq_of_beq_eq_true g3⟩
  · rw [Nat.eq_of_beq_eq_true h]
  · rename_i fs cmp fields
    simp only [Bool.and_eq_true] at h
    obtain ⟨⟨h1, h2⟩, h3⟩ := h
    refine ⟨fields, rfl, fsOk_iff h1, Nat.eq_of_beq_eq_true h2, fun hc g hg => ?_⟩
    rw [hc] at h3
    simp only [Bool.not_true, Bool.false_or] at h3
    have := List.all_eq_true.1 h3 g hg
    simpa using this
  · simp only [Bool.and_eq_true] at h
    obtain ⟨⟨h1, h2⟩, h3⟩ := h
    rw [Nat.eq_of_beq_eq_true h1, Nat.eq_of_beq_eq_true h2]
    exact ⟨rfl, infSz_iff h3⟩
  · exact ⟨_, _, _, rfl⟩
theorem zOk_iff {v : AV} {u : Value} (h : zOk v u = true) (w : World) (I : Nat → Prop) (σ : Sig) : VR w I σ v u := by
  unfold zOk at h
  split at h
  · simp only [VR]
  · simp only [Bool.and_eq_true, decide_eq_true_eq] at h
    obtain ⟨⟨rfl, rfl⟩, h⟩ := h
    simp only [VR, true_and]
    exact h
  · simp only [beq_iff_eq] at h
    simp only [VR, h]
  · simp only [Bool.and_eq_true, decide_eq_true_eq] at h
    simp only [VR]
    exact ⟨_, rfl, h.1, Nat.le_of_ble_eq_true h.2⟩
  · simp only [VR]
  · simp only [VR]
  · simp only [VR]
  · cases h
theorem zsOk_iff : ∀ {vs : List AV} {us : List Value}, zsOk vs us = true → ∀ (w : World) (I : Nat → Prop) (σ : Sig), VRs w I σ vs us
  | [], [], _, _, _, _ => by simp only [VRs]
  | [], _ :: _, h, _, _, _ => by simp [zsOk] at h
  | _ :: _, [], h, _, _, _ => by simp [zsOk] at h
  | v :: vs, u :: us, h, w, I, σ => by
    simp only [zsOk, Bool.and_eq_true] at h
    simp only [VRs]
    exact ⟨u, us, rfl, zOk_iff h.1 w I σ, zsOk_iff h.2 w I σ⟩
theorem tiOk_iff {t : Nat} {i : TI} (h : tiOk P t i = true) : TIok P t i := by
  simp only [tiOk, Bool.and_eq_true] at h
  obtain ⟨⟨h1, h2⟩, h3⟩ := h
  refine ⟨?_, fun hc => ?_, ?_⟩
  · split at h1 <;> (try (cases h1; done))
    rename_i d hd
    simp only [Bool.and_eq_true, beq_iff_eq] at h1
    exact ⟨d, hd, tdOk_iff h1.1, h1.2⟩
  · split at h2
    · simpa using h2
    · rename_i hn
      split at hc
      · rename_i fs c htd
        cases c
        · cases hc
        · exact (hn fs htd).elim
      · cases hc
  · split at h3 <;> (try (cases h3; done))
    rename_i inf hi
    simp only [Bool.and_eq_true] at h3
    obtain ⟨g1, g2⟩ := h3
    split at g2 <;> (try (cases g2; done))
    rename_i z hz
    simp only [Bool.and_eq_true] at g2
    exact ⟨inf, z, hi, Nat.eq_of_beq_eq_true g1, hz, Nat.eq_of_beq_eq_true g2.1, zsOk_iff g2.2⟩
theorem tab_ok : ∀ {L : TL}, tabOk P L = true → ∀ t i, tget' L t = some i → TIok P t i
  | [], _, _, _, h => by simp [tget'] at h
  | (k, i0) :: L, hL, t, i, h => by
    simp only [tabOk, Bool.and_eq_true] at hL
    simp only [tget'] at h
    split at h
    · rename_i hb
      have hb := Nat.eq_of_beq_eq_true hb
      subst hb
      cases h
      exact tiOk_iff hL.1
    · exact tab_ok hL.2 t i h
end
end Go.Am
