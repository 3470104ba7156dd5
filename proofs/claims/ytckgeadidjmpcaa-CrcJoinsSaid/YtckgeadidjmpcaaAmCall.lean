/- A call, by its contract. -/
import Derived.Test.YtckgeadidjmpcaaAmOpsC
namespace Go.Am
set_option linter.all false
set_option linter.deprecated false
section
variable {P : Program} {o : Oper} {a : Act} {w w' : World} {I I' : Nat → Prop} {σ σ' τ : Sig} {M : MS} {key : Nat} {env : List AV} {T : TT}

/-! ### renaming -/
theorem kidx_ok : ∀ (ks : List Nat) (n i j : Nat), kidx ks n i = some j → i ≤ j ∧ ks[j - i]? = some n
  | [], _, _, _, h => by simp [kidx] at h
  | k :: ks, n, i, j, h => by
    unfold kidx at h
    split at h
    · rename_i hk
      simp only [Option.some.injEq] at h
      subst h
      exact ⟨Nat.le_refl _, by simp [Nat.eq_of_beq_eq_true hk]⟩
    · obtain ⟨h1, h2⟩ := kidx_ok ks n (i + 1) j h
      refine ⟨by omega, ?_⟩
      rw [show j - i = (j - (i + 1)) + 1 by omega]
      simpa using h2
/-- the canonical places -/
def canon (σ : Sig) (ks : List Nat) : Sig := fun i => match ks[i]? with | some k => σ k | none => none
theorem canon_kidx {ks : List Nat} {n i : Nat} (h : kidx ks n 0 = some i) : canon σ ks i = σ n := by
  obtain ⟨_, h2⟩ := kidx_ok ks n 0 i h
  unfold canon
  rw [show i - 0 = i by omega] at h2
  rw [h2]
mutual
theorem renC_ok {ks : List Nat} : ∀ {x y : AV} {v : Value}, renC ks x = some y → VR w I σ x v → VR w I (canon σ ks) y v
  | .ms n lo len, y, v, h, hv => by
    unfold renC at h
    split at h <;> (try (cases h; done))
    rename_i i hi
    simp only [Option.some.injEq] at h
    subst h
    simp only [VR] at hv ⊢
    rw [canon_kidx hi]; exact hv
  | .mp n off, y, v, h, hv => by
    unfold renC at h
    split at h <;> (try (cases h; done))
    rename_i i hi
    simp only [Option.some.injEq] at h
    subst h
    simp only [VR] at hv ⊢
    rw [canon_kidx hi]; exact hv
  | .me n ix off, y, v, h, hv => by
    unfold renC at h
    split at h <;> (try (cases h; done))
    rename_i i hi
    simp only [Option.some.injEq] at h
    subst h
    simp only [VR] at hv ⊢
    rw [canon_kidx hi]; exact hv
  | .ax n off c ix, y, v, h, hv => by
    unfold renC at h
    split at h <;> (try (cases h; done))
    rename_i i hi
    simp only [Option.some.injEq] at h
    subst h
    simp only [VR] at hv ⊢
    rw [canon_kidx hi]; exact hv
  | .agg cs, y, v, h, hv => by
    unfold renC at h
    split at h <;> (try (cases h; done))
    rename_i cs' h1
    simp only [Option.some.injEq] at h
    subst h
    simp only [VR] at hv ⊢
    obtain ⟨us, rfl, hv⟩ := hv
    exact ⟨us, rfl, renCs_ok h1 hv⟩
  | .tup cs, y, v, h, hv => by
    unfold renC at h
    split at h <;> (try (cases h; done))
    rename_i cs' h1
    simp only [Option.some.injEq] at h
    subst h
    simp only [VR] at hv ⊢
    obtain ⟨us, rfl, hv⟩ := hv
    exact ⟨us, rfl, renCs_ok h1 hv⟩
  | .fn f cs, y, v, h, hv => by
    unfold renC at h
    split at h <;> (try (cases h; done))
    rename_i cs' h1
    simp only [Option.some.injEq] at h
    subst h
    simp only [VR] at hv ⊢
    obtain ⟨us, rfl, hv⟩ := hv
    exact ⟨us, rfl, renCs_ok h1 hv⟩
  | .pt cs, y, v, h, hv => by
    unfold renC at h
    split at h <;> (try (cases h; done))
    rename_i cs' h1
    simp only [Option.some.injEq] at h
    subst h
    simp only [VR] at hv ⊢
    obtain ⟨b, off, rfl, hv⟩ := hv
    exact ⟨b, off, rfl, renCat_ok h1 hv⟩
  | .un, y, v, h, hv => by simp only [renC, Option.some.injEq] at h; subst h; simp only [VR]
  | .udf, y, v, h, hv => by simp only [renC, Option.some.injEq] at h; subst h; simpa only [VR] using hv
  | .int .., y, v, h, hv => by simp only [renC, Option.some.injEq] at h; subst h; simpa only [VR] using hv
  | .bool _, y, v, h, hv => by simp only [renC, Option.some.injEq] at h; subst h; simpa only [VR] using hv
  | .str _, y, v, h, hv => by simp only [renC, Option.some.injEq] at h; subst h; simpa only [VR] using hv
  | .nils, y, v, h, hv => by simp only [renC, Option.some.injEq] at h; subst h; simpa only [VR] using hv
  | .nilp, y, v, h, hv => by simp only [renC, Option.some.injEq] at h; subst h; simpa only [VR] using hv
  | .nilf, y, v, h, hv => by simp only [renC, Option.some.injEq] at h; subst h; simpa only [VR] using hv
  | .sl .., y, v, h, hv => by simp only [renC, Option.some.injEq] at h; subst h; simpa only [VR] using hv
theorem renCs_ok {ks : List Nat} : ∀ {xs ys : List AV} {vs : List Value}, renCs ks xs = some ys → VRs w I σ xs vs → VRs w I (canon σ ks) ys vs
  | [], ys, vs, h, hv => by simp only [renCs, Option.some.injEq] at h; subst h; simpa only [VRs] using hv
  | x :: xs, ys, vs, h, hv => by
    unfold renCs at h
    split at h <;> (try (cases h; done))
    rename_i y ys' h1 h2
    simp only [Option.some.injEq] at h
    subst h
    simp only [VRs] at hv ⊢
    obtain ⟨u, us, rfl, hu, hv⟩ := hv
    exact ⟨u, us, rfl, renC_ok h1 hu, renCs_ok h2 hv⟩
theorem renCat_ok {ks : List Nat} : ∀ {xs ys : List AV} {b off : Nat}, renCs ks xs = some ys → VRat w I σ xs b off → VRat w I (canon σ ks) ys b off
  | [], ys, b, off, h, hv => by simp only [renCs, Option.some.injEq] at h; subst h; simp only [VRat]
  | x :: xs, ys, b, off, h, hv => by
    unfold renCs at h
    split at h <;> (try (cases h; done))
    rename_i y ys' h1 h2
    simp only [Option.some.injEq] at h
    subst h
    simp only [VRat] at hv ⊢
    obtain ⟨⟨hb, u, hu, hx⟩, hv⟩ := hv
    exact ⟨⟨hb, u, hu, renC_ok h1 hx⟩, renCat_ok h2 hv⟩
end
/-- renamed back it is what it was -/
theorem back_kidx {ks : List Nat} {base n i : Nat} (h : kidx ks n 0 = some i) : back ks ks.length base i = n := by
  obtain ⟨_, h2⟩ := kidx_ok ks n 0 i h
  rw [show i - 0 = i by omega] at h2
  unfold back
  have hlt := (List.getElem?_eq_some_iff.1 h2).1
  have hb : Nat.blt i ks.length = true := by rw [Nat.blt]; exact Nat.ble_eq_true_of_le hlt
  rw [hb]
  simp [List.getD, h2]
mutual
theorem ren_renC {ks : List Nat} {base : Nat} : ∀ {x y : AV}, renC ks x = some y → ren (back ks ks.length base) y = x
  | .ms n lo len, y, h => by
    unfold renC at h
    split at h <;> (try (cases h; done))
    rename_i i hi
    simp only [Option.some.injEq] at h
    subst h
    simp only [ren, back_kidx hi]
  | .mp n off, y, h => by
    unfold renC at h
    split at h <;> (try (cases h; done))
    rename_i i hi
    simp only [Option.some.injEq] at h
    subst h
    simp only [ren, back_kidx hi]
  | .me n ix off, y, h => by
    unfold renC at h
    split at h <;> (try (cases h; done))
    rename_i i hi
    simp only [Option.some.injEq] at h
    subst h
    simp only [ren, back_kidx hi]
  | .ax n off c ix, y, h => by
    unfold renC at h
    split at h <;> (try (cases h; done))
    rename_i i hi
    simp only [Option.some.injEq] at h
    subst h
    simp only [ren, back_kidx hi]
  | .agg cs, y, h => by
    unfold renC at h
    split at h <;> (try (cases h; done))
    rename_i cs' h1
    simp only [Option.some.injEq] at h
    subst h
    simp only [ren, rens_renCs h1]
  | .tup cs, y, h => by
    unfold renC at h
    split at h <;> (try (cases h; done))
    rename_i cs' h1
    simp only [Option.some.injEq] at h
    subst h
    simp only [ren, rens_renCs h1]
  | .fn f cs, y, h => by
    unfold renC at h
    split at h <;> (try (cases h; done))
    rename_i cs' h1
    simp only [Option.some.injEq] at h
    subst h
    simp only [ren, rens_renCs h1]
  | .pt cs, y, h => by
    unfold renC at h
    split at h <;> (try (cases h; done))
    rename_i cs' h1
    simp only [Option.some.injEq] at h
    subst h
    simp only [ren, rens_renCs h1]
  | .un, y, h => by simp only [renC, Option.some.injEq] at h; subst h; simp only [ren]
  | .udf, y, h => by simp only [renC, Option.some.injEq] at h; subst h; simp only [ren]
  | .int .., y, h => by simp only [renC, Option.some.injEq] at h; subst h; simp only [ren]
  | .bool _, y, h => by simp only [renC, Option.some.injEq] at h; subst h; simp only [ren]
  | .str _, y, h => by simp only [renC, Option.some.injEq] at h; subst h; simp only [ren]
  | .nils, y, h => by simp only [renC, Option.some.injEq] at h; subst h; simp only [ren]
  | .nilp, y, h => by simp only [renC, Option.some.injEq] at h; subst h; simp only [ren]
  | .nilf, y, h => by simp only [renC, Option.some.injEq] at h; subst h; simp only [ren]
  | .sl .., y, h => by simp only [renC, Option.some.injEq] at h; subst h; simp only [ren]
theorem rens_renCs {ks : List Nat} {base : Nat} : ∀ {xs ys : List AV}, renCs ks xs = some ys → rens (back ks ks.length base) ys = xs
  | [], ys, h => by simp only [renCs, Option.some.injEq] at h; subst h; rfl
  | x :: xs, ys, h => by
    unfold renCs at h
    split at h <;> (try (cases h; done))
    rename_i y ys' h1 h2
    simp only [Option.some.injEq] at h
    subst h
    simp only [rens, ren_renC h1, rens_renCs h2]
end
theorem MsR.some {p : Option (Option Pl)} {lo len : Nat} {v : Value} (h : MsR p lo len v) : ∃ q, p = some q := by
  cases p with
  | none => exact h.elim
  | some q => exact ⟨q, rfl⟩
theorem PtR.some {p : Option (Option Pl)} {v : Value} {f : Pl → Nat} (h : PtR p v f) : ∃ q, p = some q := by
  cases p with
  | none => exact h.elim
  | some q => exact ⟨q, rfl⟩
mutual
/-- under another name -/
theorem ren_ok {f : Nat → Nat} {n : Nat} (hf : ∀ j, j < n → ∀ p, σ j = some p → τ (f j) = some p) : ∀ {x : AV} {v : Value}, kltV n x = true → VR w I σ x v → VR w I τ (ren f x) v
  | .ms k lo len, v, h, hv => by
    simp only [kltV] at h
    simp only [ren, VR] at hv ⊢
    obtain ⟨q, hq⟩ := MsR.some hv
    rw [hf k (by rw [Nat.blt] at h; exact Nat.le_of_ble_eq_true h) q hq, ← hq]; exact hv
  | .mp k off, v, h, hv => by
    simp only [kltV] at h
    simp only [ren, VR] at hv ⊢
    obtain ⟨q, hq⟩ := PtR.some hv
    rw [hf k (by rw [Nat.blt] at h; exact Nat.le_of_ble_eq_true h) q hq, ← hq]; exact hv
  | .me k ix off, v, h, hv => by
    simp only [kltV] at h
    simp only [ren, VR] at hv ⊢
    obtain ⟨q, hq⟩ := PtR.some hv
    rw [hf k (by rw [Nat.blt] at h; exact Nat.le_of_ble_eq_true h) q hq, ← hq]; exact hv
  | .ax k off c ix, v, h, hv => by
    simp only [kltV] at h
    simp only [ren, VR] at hv ⊢
    obtain ⟨q, hq⟩ := PtR.some hv
    rw [hf k (by rw [Nat.blt] at h; exact Nat.le_of_ble_eq_true h) q hq, ← hq]; exact hv
  | .agg cs, v, h, hv => by
    simp only [kltV] at h
    simp only [ren, VR] at hv ⊢
    obtain ⟨us, rfl, hv⟩ := hv
    exact ⟨us, rfl, rens_ok hf h hv⟩
  | .tup cs, v, h, hv => by
    simp only [kltV] at h
    simp only [ren, VR] at hv ⊢
    obtain ⟨us, rfl, hv⟩ := hv
    exact ⟨us, rfl, rens_ok hf h hv⟩
  | .fn g cs, v, h, hv => by
    simp only [kltV] at h
    simp only [ren, VR] at hv ⊢
    obtain ⟨us, rfl, hv⟩ := hv
    exact ⟨us, rfl, rens_ok hf h hv⟩
  | .pt cs, v, h, hv => by
    simp only [kltV] at h
    simp only [ren, VR] at hv ⊢
    obtain ⟨b, off, rfl, hv⟩ := hv
    exact ⟨b, off, rfl, renat_ok hf h hv⟩
  | .un, _, _, _ => by simp only [ren, VR]
  | .udf, _, _, hv => by simpa only [ren, VR] using hv
  | .int .., _, _, hv => by simpa only [ren, VR] using hv
  | .bool _, _, _, hv => by simpa only [ren, VR] using hv
  | .str _, _, _, hv => by simpa only [ren, VR] using hv
  | .nils, _, _, hv => by simpa only [ren, VR] using hv
  | .nilp, _, _, hv => by simpa only [ren, VR] using hv
  | .nilf, _, _, hv => by simpa only [ren, VR] using hv
  | .sl .., _, _, hv => by simpa only [ren, VR] using hv
theorem rens_ok {f : Nat → Nat} {n : Nat} (hf : ∀ j, j < n → ∀ p, σ j = some p → τ (f j) = some p) : ∀ {xs : List AV} {vs : List Value}, kltVs n xs = true → VRs w I σ xs vs → VRs w I τ (rens f xs) vs
  | [], vs, _, hv => by simpa only [rens, VRs] using hv
  | x :: xs, vs, h, hv => by
    unfold kltVs at h
    split at h <;> (try (cases h; done))
    rename_i h1
    simp only [rens, VRs] at hv ⊢
    obtain ⟨u, us, rfl, hu, hv⟩ := hv
    exact ⟨u, us, rfl, ren_ok hf h1 hu, rens_ok hf h hv⟩
theorem renat_ok {f : Nat → Nat} {n : Nat} (hf : ∀ j, j < n → ∀ p, σ j = some p → τ (f j) = some p) : ∀ {xs : List AV} {b off : Nat}, kltVs n xs = true → VRat w I σ xs b off → VRat w I τ (rens f xs) b off
  | [], _, _, _, _ => by simp only [rens, VRat]
  | x :: xs, b, off, h, hv => by
    unfold kltVs at h
    split at h <;> (try (cases h; done))
    rename_i h1
    simp only [rens, VRat] at hv ⊢
    obtain ⟨⟨hb, u, hu, hx⟩, hv⟩ := hv
    exact ⟨⟨hb, u, hu, ren_ok hf h1 hx⟩, renat_ok hf h hv⟩
end
/-! ### what leads into no memory -/
mutual
theorem flatV_ok : ∀ {x : AV} {v : Value}, flatV x = true → VR w I σ x v → VR w I' σ x v
  | .sl .., _, h, _ => by simp [flatV] at h
  | .pt _, _, h, _ => by simp [flatV] at h
  | .agg cs, v, h, hv => by
    simp only [flatV] at h
    simp only [VR] at hv ⊢
    obtain ⟨us, rfl, hv⟩ := hv
    exact ⟨us, rfl, flatVs_ok h hv⟩
  | .tup cs, v, h, hv => by
    simp only [flatV] at h
    simp only [VR] at hv ⊢
    obtain ⟨us, rfl, hv⟩ := hv
    exact ⟨us, rfl, flatVs_ok h hv⟩
  | .fn f cs, v, h, hv => by
    simp only [flatV] at h
    simp only [VR] at hv ⊢
    obtain ⟨us, rfl, hv⟩ := hv
    exact ⟨us, rfl, flatVs_ok h hv⟩
  | .un, _, _, _ => by simp only [VR]
  | .udf, _, _, hv => by simpa only [VR] using hv
  | .int .., _, _, hv => by simpa only [VR] using hv
  | .bool _, _, _, hv => by simpa only [VR] using hv
  | .str _, _, _, hv => by simpa only [VR] using hv
  | .nils, _, _, hv => by simpa only [VR] using hv
  | .nilp, _, _, hv => by simpa only [VR] using hv
  | .nilf, _, _, hv => by simpa only [VR] using hv
  | .ms .., _, _, hv => by simpa only [VR] using hv
  | .mp .., _, _, hv => by simpa only [VR] using hv
  | .me .., _, _, hv => by simpa only [VR] using hv
  | .ax .., _, _, hv => by simpa only [VR] using hv
theorem flatVs_ok : ∀ {xs : List AV} {vs : List Value}, flatVs xs = true → VRs w I σ xs vs → VRs w I' σ xs vs
  | [], vs, _, hv => by simpa only [VRs] using hv
  | x :: xs, vs, h, hv => by
    unfold flatVs at h
    split at h <;> (try (cases h; done))
    rename_i h1
    simp only [VRs] at hv ⊢
    obtain ⟨u, us, rfl, hu, hv⟩ := hv
    exact ⟨u, us, rfl, flatV_ok h1 hu, flatVs_ok h hv⟩
end
theorem flatSh_ok {b : Nat} : ∀ {e : List Sh} {j : Nat} {ds : List D} {o : Nat}, flatSh e = true → DatC w I e j ds b o → DatC w I' e j ds b o
  | [], _, _, _, _, _ => trivial
  | s :: ss, j, ds, o, h, hd => by
    simp only [DatC] at hd ⊢
    obtain ⟨⟨u, hu, hd1⟩, hd2⟩ := hd
    cases s with
    | int k => exact ⟨⟨u, hu, hd1⟩, flatSh_ok (by simpa [flatSh] using h) hd2⟩
    | bool => exact ⟨⟨u, hu, hd1⟩, flatSh_ok (by simpa [flatSh] using h) hd2⟩
    | str => exact ⟨⟨u, hu, hd1⟩, flatSh_ok (by simpa [flatSh] using h) hd2⟩
    | slice e => simp [flatSh] at h
    | ptr e => simp [flatSh] at h
    | other => simp [flatSh] at h
def flatO : MObj → Bool
  | .row _ e _ => flatSh e
  | .obj cs => flatVs cs
  | .imm .. => false
theorem flatO_ok {p : Option Pl} {x : MObj} (h : flatO x = true) (ho : OR w I σ p x) : OR w I' σ p x := by
  cases x with
  | imm nn e xs => simp [flatO] at h
  | row nn e xs =>
    cases p with
    | none => exact ho
    | some q =>
      obtain ⟨cs, t, fz, hh, r1, r2, r3, r4, r5, r6, r7⟩ := ho
      exact ⟨cs, t, fz, hh, r1, r2, r3, r4, r5, r6, fun i hi => flatSh_ok h (r7 i hi)⟩
  | obj cs =>
    cases p with
    | none => exact ho
    | some q =>
      obtain ⟨us, t, fz, hh, hf, hv⟩ := ho
      exact ⟨us, t, fz, hh, hf, flatVs_ok h hv⟩
theorem flatM_ok : ∀ {M : MS} {k : Nat} {x : MObj}, flatM M = true → mget M k = some x → flatO x = true
  | [], _, _, _, h => by simp [mget] at h
  | (k', y) :: M, k, x, h, hk => by
    unfold flatM at h
    split at h <;> (try (cases h; done))
    · rename_i heq; cases heq
    · rename_i a nn e xs M' heq
      simp only [List.cons.injEq, Prod.mk.injEq] at heq
      obtain ⟨⟨rfl, rfl⟩, rfl⟩ := heq
      split at h <;> (try (cases h; done))
      rename_i h1
      simp only [mget] at hk
      split at hk
      · cases hk; exact h1
      · exact flatM_ok h hk
    · rename_i a cs M' heq
      simp only [List.cons.injEq, Prod.mk.injEq] at heq
      obtain ⟨⟨rfl, rfl⟩, rfl⟩ := heq
      split at h <;> (try (cases h; done))
      rename_i h1
      simp only [mget] at hk
      split at hk
      · cases hk; exact h1
      · exact flatM_ok h hk
end
end Go.Am
