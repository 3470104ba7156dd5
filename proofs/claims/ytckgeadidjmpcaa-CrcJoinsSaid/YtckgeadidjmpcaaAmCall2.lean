/- A call, by its contract: the step. -/
import Derived.Test.YtckgeadidjmpcaaAmCall
namespace Go.Am
set_option linter.all false
set_option linter.deprecated false
section
variable {P : Program} {o : Oper} {a : Act} {w w' : World} {I I' : Nat → Prop} {σ σ' τ : Sig} {M : MS} {key : Nat} {env : List AV} {T : TT}

/-- a function called with values: it hands back a value, and a world, of which R holds -/
def Invokes (P : Program) (f : FuncId) (vs : List Value) (w : World) (R : Value → World → Prop) : Prop :=
  ∀ (o : Oper) (a : Act) (K : Act → World → Prop) (Q : Exit → Act → World → Prop), (∀ v w', R v w' → K (a.put o.dst v) w') → o.upon P a K Q ((callFunc f vs.toArray).run P w)
/-- what a call does, of the canonical objects 0 .. m - 1 -/
def Tri (P : Program) (f : FuncId) (args : List AV) (M : MS) (m : Nat) (val : AV) (upd : List (Nat × Option MObj)) : Prop :=
  ∀ (w : World) (I : Nat → Prop) (σ : Sig) (vs : List Value), Ok w I σ M → (∀ k, m ≤ k → σ k = none) → VRs w I σ args vs →
    Invokes P f vs w fun v w' => ∃ I' σ', VR w' I' σ' val v ∧ Ok w' I' σ' (mapply M upd) ∧ Ext w I σ M w' I' σ' (mapply M upd)
def NTri (P : Program) (f : FuncId) (args : List AV) (M : MS) (m : Nat) (R : AV → List (Nat × Option MObj) → Prop) : Prop :=
  ∀ (w : World) (I : Nat → Prop) (σ : Sig) (vs : List Value), Ok w I σ M → (∀ k, m ≤ k → σ k = none) → VRs w I σ args vs →
    Invokes P f vs w fun v w' => ∃ val upd, R val upd ∧ ∃ I' σ', VR w' I' σ' val v ∧ Ok w' I' σ' (mapply M upd) ∧ Ext w I σ M w' I' σ' (mapply M upd)
structure CSound (P : Program) (f : FuncId) (C : Contract) : Prop where
  det : ∀ args M r, C.fn args M = some r → (∀ p ∈ r.vc, p ()) → Tri P f args M M.length r.val r.objs
  nd : ∀ args M r, C.nfn args M = some r → (∀ p ∈ r.pre, p ()) → NTri P f args M M.length fun val upd => ∃ d, r.ok d ∧ r.res d = (val, upd)
theorem Invokes.mono {f : FuncId} {vs : List Value} {R R' : Value → World → Prop} (h : Invokes P f vs w R) (hR : ∀ v w', R v w' → R' v w') : Invokes P f vs w R' :=
  fun o a K Q hK => h o a K Q fun v w' hr => hK v w' (hR v w' hr)
theorem modeArgs_ok (hok : Ok w I σ M) : ∀ (ms : List Mode) (vs vs' : List AV) (l : List Nat) (vc : List (Unit → Prop)) (us : List Value), modeArgs M ms vs = some (vs', l, vc) → (∀ p ∈ vc, p ()) → VRs w I σ vs us → VRs w (Also I (Lent σ l)) σ vs' us ∧ LentOk M l
  | [], [], vs', l, vc, us, h, _, hv => by
    simp only [modeArgs, Option.some.injEq, Prod.mk.injEq] at h
    obtain ⟨rfl, rfl, rfl⟩ := h
    exact ⟨VRs.keep (.also _) _ _ hv, fun _ h => by cases h⟩
  | [], _ :: _, _, _, _, _, h, _, _ => by simp [modeArgs] at h
  | .ro :: _, [], _, _, _, _, h, _, _ => by simp [modeArgs] at h
  | .mut :: _, [], _, _, _, _, h, _, _ => by simp [modeArgs] at h
  | .ro :: ms, v :: vs, vs', l, vc, us, h, hvc, hv => by
    unfold modeArgs at h
    split at h <;> (try (cases h; done))
    rename_i v1 r1 c1 vs1 r2 c2 h1 h2
    simp only [Option.some.injEq, Prod.mk.injEq] at h
    obtain ⟨rfl, rfl, rfl⟩ := h
    simp only [VRs] at hv
    obtain ⟨u, us', rfl, hu, hv⟩ := hv
    obtain ⟨g1, g2⟩ := ro_ok hok v v1 r1 c1 u h1 (fun p hp => hvc p (List.mem_append_left _ hp)) hu
    obtain ⟨g3, g4⟩ := modeArgs_ok hok ms vs vs1 r2 c2 us' h2 (fun p hp => hvc p (List.mem_append_right _ hp)) hv
    refine ⟨?_, fun k hk => (List.mem_append.1 hk).elim (g2 k) (g4 k)⟩
    simp only [VRs]
    exact ⟨u, us', rfl, VR.keep (.more fun b ⟨k, hk, r⟩ => ⟨k, List.mem_append_left _ hk, r⟩) _ _ g1, VRs.keep (.more fun b ⟨k, hk, r⟩ => ⟨k, List.mem_append_right _ hk, r⟩) _ _ g3⟩
  | .mut :: ms, v :: vs, vs', l, vc, us, h, hvc, hv => by
    unfold modeArgs at h
    split at h <;> (try (cases h; done))
    rename_i vs1 r2 c2 h2
    simp only [Option.some.injEq, Prod.mk.injEq] at h
    obtain ⟨rfl, rfl, rfl⟩ := h
    simp only [VRs] at hv
    obtain ⟨u, us', rfl, hu, hv⟩ := hv
    obtain ⟨g3, g4⟩ := modeArgs_ok hok ms vs vs1 r2 c2 us' h2 hvc hv
    refine ⟨?_, g4⟩
    simp only [VRs]
    exact ⟨u, us', rfl, VR.keep (.also _) _ _ hu, g3⟩
/-- the objects that a call is handed -/
theorem subM_ok {ks : List Nat} : ∀ (l : List Nat) (i : Nat) (S : MS), subM M ks l i = some S → S.length = l.length ∧ ∀ j, mget S j = (if i ≤ j then (match l[j - i]? with
      | some k => (match mget M k with | some (.obj cs) => (renCs ks cs).map .obj | x => x)
      | none => none) else none) ∧ (∀ k, l[j - i]? = some k → i ≤ j → ∃ x, mget M k = some x ∧ ∀ cs, x = .obj cs → ∃ cs', renCs ks cs = some cs')
  | [], i, S, h => by
    simp only [subM, Option.some.injEq] at h
    subst h
    exact ⟨rfl, fun j => ⟨by simp [mget], by simp⟩⟩
  | k :: l, i, S, h => by
    unfold subM at h
    have step : ∀ (y : MObj) (S' : MS), subM M ks l (i + 1) = some S' → (∃ x, mget M k = some x ∧ (∀ cs, x = .obj cs → ∃ cs', renCs ks cs = some cs') ∧ (match mget M k with | some (.obj cs) => (renCs ks cs).map MObj.obj | x => x) = some y) → S = (i, y) :: S' →
        (S.length = (k :: l).length ∧ ∀ j, mget S j = (if i ≤ j then (match (k :: l)[j - i]? with
      | some k => (match mget M k with | some (.obj cs) => (renCs ks cs).map .obj | x => x)
      | none => none) else none) ∧ (∀ k', (k :: l)[j - i]? = some k' → i ≤ j → ∃ x, mget M k' = some x ∧ ∀ cs, x = .obj cs → ∃ cs', renCs ks cs = some cs')) := by
      rintro y S' hS ⟨x, hx, hcs, hy⟩ rfl
      obtain ⟨ih1, ih2⟩ := subM_ok l (i + 1) S' hS
      refine ⟨by simp [ih1], fun j => ?_⟩
      obtain ⟨g1, g2⟩ := ih2 j
      simp only [mget]
      by_cases hj : i = j
      · subst hj
        refine ⟨?_, fun k' hk' _ => ?_⟩
        · simp only [Nat.beq_refl, Nat.le_refl, if_true, Nat.sub_self, List.getElem?_cons_zero]
          rw [hy]
        · simp only [Nat.sub_self, List.getElem?_cons_zero, Option.some.injEq] at hk'
          subst hk'
          exact ⟨x, hx, hcs⟩
      · have hb : Nat.beq i j = false := by rw [← Bool.not_eq_true]; intro h; exact hj (Nat.eq_of_beq_eq_true h)
        rw [hb]
        simp only
        by_cases hle : i ≤ j
        · rw [g1, if_pos (by omega), if_pos hle]
          rw [show j - i = (j - (i + 1)) + 1 by omega]
          simp only [List.getElem?_cons_succ, true_and]
          exact fun k' hk' _ => g2 k' hk' (by omega)
        · rw [g1, if_neg (by omega), if_neg hle]
          exact ⟨rfl, fun _ _ h => absurd h hle⟩
    split at h
    · rename_i cs hm
      split at h <;> (try (cases h; done))
      rename_i cs' S' h1 h2
      simp only [Option.some.injEq] at h
      exact step _ S' h2 ⟨_, hm, fun c e => by cases e; exact ⟨_, h1⟩, by rw [hm]; simp [h1]⟩ h.symm
    · rename_i y hne hm
      split at h <;> (try (cases h; done))
      rename_i S' h2
      simp only [Option.some.injEq] at h
      refine step y S' h2 ⟨y, hm, fun c e => (hne c e).elim, ?_⟩ h.symm
      rw [hm]
      cases y with
      | obj c => exact (hne c rfl).elim
      | row _ _ _ => rfl
      | imm _ _ _ => rfl
    · cases h
theorem nodupB_iff : ∀ {l : List Nat}, nodupB l = true → l.Nodup
  | [], _ => List.nodup_nil
  | k :: ks, h => by
    unfold nodupB at h
    split at h <;> (try (cases h; done))
    rename_i h1
    refine List.nodup_cons.2 ⟨fun hk => ?_, nodupB_iff h⟩
    rw [(nmem_iff _ _).2 hk] at h1
    cases h1
theorem disj_iff : ∀ {k l : List Nat}, disj k l = true → ∀ x ∈ k, x ∉ l
  | [], _, _, _, h => by cases h
  | k :: ks, l, h, x, hx => by
    unfold disj at h
    split at h <;> (try (cases h; done))
    rename_i h1
    rcases List.mem_cons.1 hx with rfl | hx
    · intro hl
      rw [(nmem_iff _ _).2 hl] at h1
      cases h1
    · exact disj_iff h x hx
/-- updates under other names -/
theorem mapply_ren {f : Nat → Nat} {n : Nat} (hf : ∀ i j, i < n → j < n → f i = f j → i = j) : ∀ (us : List (Nat × Option MObj)) (N S : MS), kltU n us = true → ∀ j,
    (j < n → ((∃ u, (j, u) ∈ us) → mget (mapply N (renUpd f us)) (f j) = (mget (mapply S us) j).map (renO f)) ∧ ((¬ ∃ u, (j, u) ∈ us) → mget (mapply N (renUpd f us)) (f j) = mget N (f j) ∧ mget (mapply S us) j = mget S j)) ∧
    ((∀ i, i < n → f i ≠ j) → mget (mapply N (renUpd f us)) j = mget N j)
  | [], N, S, _, j => ⟨fun _ => ⟨fun ⟨_, hu⟩ => (by cases hu), fun _ => ⟨rfl, rfl⟩⟩, fun _ => rfl⟩
  | (k, x) :: us, N, S, h, j => by
    unfold kltU at h
    split at h <;> (try (cases h; done))
    rename_i hk _
    have hk : k < n := by rw [Nat.blt] at hk; exact Nat.le_of_ble_eq_true hk
    obtain ⟨N', S', e1, e2, e3⟩ : ∃ N' S', mapply N (renUpd f ((k, x) :: us)) = mapply N' (renUpd f us) ∧ mapply S ((k, x) :: us) = mapply S' us ∧
        (∀ i, mget N' i = if f k = i then x.map (renO f) else mget N i) ∧ (∀ i, mget S' i = if k = i then x else mget S i) := by
      cases x with
      | none => exact ⟨mdel N (f k), mdel S k, rfl, rfl, fun i => by rw [mget_mdel]; rfl, fun i => mget_mdel _ _ _⟩
      | some y => exact ⟨mset N (f k) (renO f y), mset S k y, rfl, rfl, fun i => by rw [mget_mset]; rfl, fun i => mget_mset _ _ _ _⟩
    obtain ⟨ih1, ih2⟩ := mapply_ren hf us N' S' h j
    rw [e1, e2]
    refine ⟨fun hj => ?_, fun hne => ?_⟩
    · obtain ⟨a1, a2⟩ := ih1 hj
      by_cases hu : ∃ u, (j, u) ∈ us
      · refine ⟨fun _ => a1 hu, fun hn => ?_⟩
        obtain ⟨u, hu⟩ := hu
        exact (hn ⟨u, List.mem_cons_of_mem _ hu⟩).elim
      · obtain ⟨b1, b2⟩ := a2 hu
        rw [b1, b2, e3.1, e3.2]
        by_cases hkj : k = j
        · subst hkj
          refine ⟨fun _ => by rw [if_pos rfl, if_pos rfl], fun hn => (hn ⟨x, List.mem_cons_self⟩).elim⟩
        · have hfk : f k ≠ f j := fun e => hkj (hf k j hk hj e)
          rw [if_neg hfk, if_neg hkj]
          refine ⟨fun ⟨u, hu'⟩ => ?_, fun _ => ⟨rfl, rfl⟩⟩
          rcases List.mem_cons.1 hu' with e | e
          · cases e; exact (hkj rfl).elim
          · exact (hu ⟨u, e⟩).elim
    · rw [ih2 hne, e3.1, if_neg (hne k hk)]
theorem back_lt {ks : List Nat} {base j k : Nat} (h : ks[j]? = some k) : back ks ks.length base j = k := by
  have hlt := (List.getElem?_eq_some_iff.1 h).1
  unfold back
  have hb : Nat.blt j ks.length = true := by rw [Nat.blt]; exact Nat.ble_eq_true_of_le hlt
  rw [hb]
  simp [List.getD, h]
theorem back_ge {ks : List Nat} {base j : Nat} (h : ks.length ≤ j) : back ks ks.length base j = base + (j - ks.length) := by
  unfold back
  have hb : Nat.blt j ks.length = false := by
    rw [← Bool.not_eq_true]; intro h'; rw [Nat.blt] at h'; have := Nat.le_of_ble_eq_true h'; omega
  rw [hb]
mutual
theorem kltV_renC {ks : List Nat} : ∀ {x y : AV}, renC ks x = some y → kltV (ks.length + 8) y = true
  | .ms n lo len, y, h => by
    unfold renC at h
    split at h <;> (try (cases h; done))
    rename_i i hi
    simp only [Option.some.injEq] at h
    subst h
    have := (List.getElem?_eq_some_iff.1 (kidx_ok ks n 0 i hi).2).1
    simp only [kltV, Nat.blt]; exact Nat.ble_eq_true_of_le (by omega)
  | .mp n off, y, h => by
    unfold renC at h
    split at h <;> (try (cases h; done))
    rename_i i hi
    simp only [Option.some.injEq] at h
    subst h
    have := (List.getElem?_eq_some_iff.1 (kidx_ok ks n 0 i hi).2).1
    simp only [kltV, Nat.blt]; exact Nat.ble_eq_true_of_le (by omega)
  | .me n ix off, y, h => by
    unfold renC at h
    split at h <;> (try (cases h; done))
    rename_i i hi
    simp only [Option.some.injEq] at h
    subst h
    have := (List.getElem?_eq_some_iff.1 (kidx_ok ks n 0 i hi).2).1
    simp only [kltV, Nat.blt]; exact Nat.ble_eq_true_of_le (by omega)
  | .ax n off c ix, y, h => by
    unfold renC at h
    split at h <;> (try (cases h; done))
    rename_i i hi
    simp only [Option.some.injEq] at h
    subst h
    have := (List.getElem?_eq_some_iff.1 (kidx_ok ks n 0 i hi).2).1
    simp only [kltV, Nat.blt]; exact Nat.ble_eq_true_of_le (by omega)
  | .agg cs, y, h => by
    unfold renC at h
    split at h <;> (try (cases h; done))
    rename_i cs' h1
    simp only [Option.some.injEq] at h
    subst h
    exact kltVs_renCs h1
  | .tup cs, y, h => by
    unfold renC at h
    split at h <;> (try (cases h; done))
    rename_i cs' h1
    simp only [Option.some.injEq] at h
    subst h
    exact kltVs_renCs h1
  | .fn f cs, y, h => by
    unfold renC at h
    split at h <;> (try (cases h; done))
    rename_i cs' h1
    simp only [Option.some.injEq] at h
    subst h
    exact kltVs_renCs h1
  | .pt cs, y, h => by
    unfold renC at h
    split at h <;> (try (cases h; done))
    rename_i cs' h1
    simp only [Option.some.injEq] at h
    subst h
    exact kltVs_renCs h1
  | .un, y, h => by simp only [renC, Option.some.injEq] at h; subst h; rfl
  | .udf, y, h => by simp only [renC, Option.some.injEq] at h; subst h; rfl
  | .int .., y, h => by simp only [renC, Option.some.injEq] at h; subst h; rfl
  | .bool _, y, h => by simp only [renC, Option.some.injEq] at h; subst h; rfl
  | .str _, y, h => by simp only [renC, Option.some.injEq] at h; subst h; rfl
  | .nils, y, h => by simp only [renC, Option.some.injEq] at h; subst h; rfl
  | .nilp, y, h => by simp only [renC, Option.some.injEq] at h; subst h; rfl
  | .nilf, y, h => by simp only [renC, Option.some.injEq] at h; subst h; rfl
  | .sl .., y, h => by simp only [renC, Option.some.injEq] at h; subst h; rfl
theorem kltVs_renCs {ks : List Nat} : ∀ {xs ys : List AV}, renCs ks xs = some ys → kltVs (ks.length + 8) ys = true
  | [], ys, h => by simp only [renCs, Option.some.injEq] at h; subst h; rfl
  | x :: xs, ys, h => by
    unfold renCs at h
    split at h <;> (try (cases h; done))
    rename_i y ys' h1 h2
    simp only [Option.some.injEq] at h
    subst h
    simp only [kltVs, kltV_renC h1, kltVs_renCs h2]
end
theorem kltU_mem {n : Nat} : ∀ {us : List (Nat × Option MObj)}, kltU n us = true → ∀ k x, (k, x) ∈ us → k < n ∧ ∀ cs, x = some (.obj cs) → kltVs n cs = true
  | [], _, _, _, h => by cases h
  | (k', y) :: us, h, k, x, hm => by
    unfold kltU at h
    split at h <;> (try (cases h; done))
    rename_i h1 h2
    rcases List.mem_cons.1 hm with e | e
    · cases e
      refine ⟨by rw [Nat.blt] at h1; exact Nat.le_of_ble_eq_true h1, fun cs e => ?_⟩
      subst e
      exact h2
    · exact kltU_mem h k x e
theorem mapply_val {S : MS} : ∀ {us : List (Nat × Option MObj)} {j : Nat} {y : MObj}, (∃ u, (j, u) ∈ us) → mget (mapply S us) j = some y → (j, some y) ∈ us
  | [], _, _, ⟨_, h⟩, _ => by cases h
  | (k, x) :: us, j, y, h, hy => by
    obtain ⟨S', e2, e4⟩ : ∃ S', mapply S ((k, x) :: us) = mapply S' us ∧ (∀ i, mget S' i = if k = i then x else mget S i) := by
      cases x with
      | none => exact ⟨mdel S k, rfl, fun i => mget_mdel _ _ _⟩
      | some y => exact ⟨mset S k y, rfl, fun i => mget_mset _ _ _ _⟩
    rw [e2] at hy
    by_cases hu : ∃ u, (j, u) ∈ us
    · exact List.mem_cons_of_mem _ (mapply_val hu hy)
    · obtain ⟨u, hu'⟩ := h
      rcases List.mem_cons.1 hu' with e | e
      · simp only [Prod.mk.injEq] at e
        obtain ⟨rfl, rfl⟩ := e
        have : ∀ (us : List (Nat × Option MObj)) (S : MS), (¬ ∃ u, (j, u) ∈ us) → mget (mapply S us) j = mget S j := by
          intro us
          induction us with
          | nil => intros; rfl
          | cons p us ih =>
            intro S hn
            obtain ⟨k', x'⟩ := p
            have hne : k' ≠ j := by rintro rfl; exact hn ⟨_, List.mem_cons_self⟩
            have hn' : ¬ ∃ u, (j, u) ∈ us := fun ⟨u, h⟩ => hn ⟨u, List.mem_cons_of_mem _ h⟩
            cases x' with
            | none => simp only [mapply]; rw [ih _ hn', mget_mdel, if_neg hne]
            | some y' => simp only [mapply]; rw [ih _ hn', mget_mset, if_neg hne]
        rw [this us S' hu, e4, if_pos rfl] at hy
        subst hy
        exact List.mem_cons_self
      · exact (hu ⟨u, e⟩).elim
theorem call_gen (hok : Ok w I σ M) (hfree : ∀ k, key ≤ k → k < key + 8 → σ k = none) {f : FuncId} {modes : List Mode} {args : List AV} {vs : List Value} {args1 : List AV} {lent : List Nat} {vc0 : List (Unit → Prop)}
    (hmode : modeArgs M modes args = some (args1, lent, vc0)) (hvc0 : ∀ p ∈ vc0, p ()) {cargs : List AV} {cM : MS} (hca : renCs (reach M 40 0 (keysOfs args1 [])) args1 = some cargs) (hcM : subM M (reach M 40 0 (keysOfs args1 [])) (reach M 40 0 (keysOfs args1 [])) 0 = some cM)
    (hnd : nodupB (reach M 40 0 (keysOfs args1 [])) = true) (hdj : disj lent (reach M 40 0 (keysOfs args1 [])) = true) (hv : VRs w I σ args vs) {R : AV → List (Nat × Option MObj) → Prop} (hC : NTri P f cargs cM cM.length R) :
    Invokes P f vs w fun v w' => ∃ val objs, R val objs ∧ (∀ e, callRes M key (reach M 40 0 (keysOfs args1 [])) lent cM val objs = some e → Post w I σ M key e.val (mapply M e.upd) v w') := by
  generalize hks : reach M 40 0 (keysOfs args1 []) = ks at *
  have hnd := nodupB_iff hnd
  have hdj := disj_iff hdj
  obtain ⟨hv1, hlent⟩ := modeArgs_ok hok _ _ _ _ _ _ hmode hvc0 hv
  obtain ⟨hSlen, hS⟩ := subM_ok ks 0 cM hcM
  obtain ⟨hokF, hextF, hownF⟩ := hok.freeze hlent
  -- the objects that are handed over
  have hlive : ∀ k ∈ ks, ∃ x, mget M k = some x := fun k hk => by
    obtain ⟨j, hj⟩ := List.mem_iff_getElem?.1 hk
    obtain ⟨x, hx, _⟩ := (hS j).2 k (by simpa using hj) (Nat.zero_le _)
    exact ⟨x, hx⟩
  have hcget : ∀ j y, mget cM j = some y → ∃ k x, ks[j]? = some k ∧ mget M k = some x ∧ (match x with | .obj cs => ∃ cs', renCs ks cs = some cs' ∧ y = .obj cs' | x => y = x) := fun j y hj => by
    rw [(hS j).1, if_pos (Nat.zero_le _), Nat.sub_zero] at hj
    split at hj <;> (try (cases hj; done))
    rename_i k hk
    cases hm : mget M k with
    | none => rw [hm] at hj; cases hj
    | some x =>
      rw [hm] at hj
      refine ⟨k, x, hk, hm, ?_⟩
      cases x with
      | obj cs =>
        simp only [Option.map_eq_some_iff] at hj
        obtain ⟨cs', h1, h2⟩ := hj
        exact ⟨cs', h1, h2.symm⟩
      | row _ _ _ => simpa using hj.symm
      | imm _ _ _ => simpa using hj.symm
  have hcan : ∀ j k, ks[j]? = some k → canon σ ks j = σ k := fun j k hk => by unfold canon; rw [hk]
  have howns : ∀ {x y : MObj}, (match x with | .obj cs => ∃ cs', renCs ks cs = some cs' ∧ y = .obj cs' | x => y = x) → (owns y ↔ owns x) := by
    intro x y hxy
    cases x with
    | obj cs => obtain ⟨cs', _, rfl⟩ := hxy; exact Iff.rfl
    | row _ _ _ => simp only at hxy; subst hxy; exact Iff.rfl
    | imm _ _ _ => simp only at hxy; subst hxy; exact Iff.rfl
  have hOC : ∀ b, Owned (canon σ ks) cM b → ∃ k x p, k ∈ ks ∧ mget M k = some x ∧ owns x ∧ σ k = some (some p) ∧ p.b = b := by
    rintro b ⟨j, y, p, hj, hy, hs, rfl⟩
    obtain ⟨k, x, hk, hm, hxy⟩ := hcget j y hj
    exact ⟨k, x, p, List.mem_of_getElem? hk, hm, (howns hxy).1 hy, by rw [← hcan j k hk]; exact hs, rfl⟩
  have hOM : ∀ b, Owned (canon σ ks) cM b → Owned σ M b := fun b hb => by
    obtain ⟨k, x, p, _, r⟩ := hOC b hb
    exact ⟨k, x, p, r⟩
  have hlentI : ∀ b, Lent σ lent b → I b ∨ Owned σ M b := by
    rintro b ⟨k, hk, p, hp, rfl⟩
    obtain ⟨nn, e, xs, h | h⟩ := hlent k hk
    · exact .inr ⟨k, _, p, h, trivial, hp, rfl⟩
    · obtain ⟨q, hq, ho⟩ := hok.obj k _ h
      rw [hp] at hq; cases hq
      exact .inl ho.2
  have hok1 : Ok w (Also I (Lent σ lent)) (canon σ ks) cM := by
    refine ⟨hokF.lt, fun j y hj => ?_, fun b hb hi => ?_, fun j j' y y' p p' h1 h2 o1 o2 s1 s2 e => ?_⟩
    · obtain ⟨k, x, hk, hm, hxy⟩ := hcget j y hj
      obtain ⟨p, hp, ho⟩ := hok.obj k x hm
      refine ⟨p, by rw [hcan j k hk]; exact hp, ?_⟩
      have ho' := OR.keep (Keep.also (w := w) (I := I) (σ := σ) (Lent σ lent)) (fun _ _ => rfl) ho
      cases x with
      | obj cs =>
        obtain ⟨cs', h1, rfl⟩ := hxy
        cases p with
        | none => exact ho'
        | some q =>
          obtain ⟨us, t, fz, hh, hf, hvs⟩ := ho'
          exact ⟨us, t, fz, hh, hf, renCs_ok h1 hvs⟩
      | row _ _ _ => simp only at hxy; subst hxy; cases p <;> exact ho'
      | imm _ _ _ => simp only at hxy; subst hxy; cases p <;> exact ho'
    · obtain ⟨k, x, p, hk, hm, hx, hs, rfl⟩ := hOC b hb
      rcases hi with hi | ⟨k', hk', p', hp', e⟩
      · exact hok.sep _ ⟨k, x, p, hm, hx, hs, rfl⟩ hi
      · obtain ⟨nn, e2, xs, h | h⟩ := hlent k' hk'
        · have := hok.inj k k' x _ p p' hm h hx trivial hs hp' e.symm
          subst this
          exact hdj k hk' hk
        · obtain ⟨q, hq, ho⟩ := hok.obj k' _ h
          rw [hp'] at hq; cases hq
          exact hok.sep _ ⟨k, x, p, hm, hx, hs, rfl⟩ (e ▸ ho.2)
    · obtain ⟨k, x, hk, hm, hxy⟩ := hcget j y h1
      obtain ⟨k', x', hk', hm', hxy'⟩ := hcget j' y' h2
      rw [hcan j k hk] at s1
      rw [hcan j' k' hk'] at s2
      have := hok.inj k k' x x' p p' hm hm' ((howns hxy).1 o1) ((howns hxy').1 o2) s1 s2 e
      subst this
      have hj := (List.getElem?_eq_some_iff.1 hk).1
      exact (List.getElem?_inj hj hnd).1 (hk.trans hk'.symm)
  have hunset : ∀ k, cM.length ≤ k → canon σ ks k = none := fun k hk => by
    unfold canon
    rw [List.getElem?_eq_none (by omega)]
  have hcv := renCs_ok hca hv1
  refine (hC w _ _ vs hok1 hunset hcv).mono fun v w' hp => ?_
  obtain ⟨val, objs, hR, I', τ, hval, hok', hext⟩ := hp
  refine ⟨val, objs, hR, fun e he => ?_⟩
  unfold callRes at he
  split at he <;> (try (cases he; done))
  rename_i hkl1 hkl2
  simp only [Option.some.injEq] at he
  subst he
  -- behind the call
  let F := back ks ks.length key
  let σ2 : Sig := fun k => if key ≤ k ∧ k < key + 8 then τ (ks.length + (k - key)) else σ k
  have hkset : ∀ k ∈ ks, ∃ p, σ k = some p := fun k hk => by
    obtain ⟨x, hx⟩ := hlive k hk
    obtain ⟨p, hp, _⟩ := hok.obj k x hx
    exact ⟨p, hp⟩
  have hkout : ∀ k p, σ k = some p → ¬ (key ≤ k ∧ k < key + 8) := fun k p hp hh => by rw [hfree k hh.1 hh.2] at hp; cases hp
  have hσ2 : ∀ k p, σ k = some p → σ2 k = some p := fun k p hp => by
    show (if _ then _ else _) = _
    rw [if_neg (hkout k p hp)]; exact hp
  have hA : ∀ j, j < ks.length + 8 → ∀ p, τ j = some p → σ2 (F j) = some p := fun j hj p hp => by
    by_cases hjl : j < ks.length
    · have hk : ks[j]? = some ks[j] := List.getElem?_eq_getElem hjl
      obtain ⟨q, hq⟩ := hkset ks[j] (List.getElem_mem hjl)
      have h1 := hext.sig j q (by rw [hcan j _ hk]; exact hq)
      rw [hp] at h1
      cases h1
      show σ2 (back ks ks.length key j) = _
      rw [back_lt hk]
      exact hσ2 _ _ hq
    · show σ2 (back ks ks.length key j) = _
      rw [back_ge (by omega)]
      show (if _ then _ else _) = _
      rw [if_pos (by omega), show ks.length + (key + (j - ks.length) - key) = j by omega]
      exact hp
  have hFinj : ∀ i j, i < ks.length + 8 → j < ks.length + 8 → F i = F j → i = j := by
    intro i j hi hj e
    change back ks ks.length key i = back ks ks.length key j at e
    by_cases h1 : i < ks.length <;> by_cases h2 : j < ks.length
    · rw [back_lt (List.getElem?_eq_getElem h1), back_lt (List.getElem?_eq_getElem h2)] at e
      exact (List.getElem?_inj h1 hnd).1 (by rw [List.getElem?_eq_getElem h1, List.getElem?_eq_getElem h2, e])
    · rw [back_lt (List.getElem?_eq_getElem h1), back_ge (by omega)] at e
      obtain ⟨q, hq⟩ := hkset ks[i] (List.getElem_mem h1)
      exact (hkout _ q hq ⟨by omega, by omega⟩).elim
    · rw [back_lt (List.getElem?_eq_getElem h2), back_ge (by omega)] at e
      obtain ⟨q, hq⟩ := hkset ks[j] (List.getElem_mem h2)
      exact (hkout _ q hq ⟨by omega, by omega⟩).elim
    · rw [back_ge (by omega), back_ge (by omega)] at e
      omega
  have hren := mapply_ren hFinj objs
  have hIsub : ∀ b, I b → I' b := fun b hb => hext.mono b (.inl hb)
  have hlt : ∀ b, I b → w'.heap[b]? = w.heap[b]? := fun b hb => hext.blk b (hok.lt b hb) fun ho => hok.sep _ (hOM b ho) hb
  have hblkM : ∀ k x p, k ∉ ks → mget M k = some x → σ k = some (some p) → w'.heap[p.b]? = w.heap[p.b]? := by
    intro k x p hk hm hp
    obtain ⟨q, hq, ho⟩ := hok.obj k x hm
    rw [hp] at hq; cases hq
    cases hx : x with
    | imm nn e xs => subst hx; exact hlt _ ho.2
    | row nn e xs =>
      subst hx
      refine hext.blk _ (hok.blk_lt ⟨k, _, p, hm, trivial, hp, rfl⟩) fun hb => ?_
      obtain ⟨k', x', p', hk', hm', hx', hs', e⟩ := hOC _ hb
      exact hk (hok.inj k k' _ x' p p' hm hm' trivial hx' hp hs' e.symm ▸ hk')
    | obj cs =>
      subst hx
      refine hext.blk _ (hok.blk_lt ⟨k, _, p, hm, trivial, hp, rfl⟩) fun hb => ?_
      obtain ⟨k', x', p', hk', hm', hx', hs', e⟩ := hOC _ hb
      exact hk (hok.inj k k' _ x' p p' hm hm' trivial hx' hp hs' e.symm ▸ hk')
  -- what holds in both ways: J: what is immutable behind the call; N: the objects ahead of the updates
  have main : ∀ (J : Nat → Prop) (N : MS), (∀ b, I b → J b) → (∀ b, J b → I' b) → (∀ k, k ∈ ks → mget N k = mget M k) →
      (∀ k x, k ∉ ks → mget N k = some x → ∃ y, mget M k = some y ∧ (x = y ∨ ∃ nn e xs, y = .row nn e xs ∧ x = .imm nn e xs ∧ k ∈ lent ∧ ∀ b, Lent σ lent b → J b)) →
      (∀ k x p, k ∉ ks → mget N k = some x → owns x → σ k = some (some p) → ¬ J p.b) →
      (VR w' J τ val v) → (∀ j x p, mget (mapply cM objs) j = some x → OR w' I' τ p x → OR w' J τ p x) →
      Post w I σ M key (ren F val) (mapply N (renUpd F objs)) v w' := by
    intro J N j1 j2 n1 n2 n3 hvJ hoJ
    have K : Keep w I σ w' J σ2 := ⟨hlt, j1, hσ2⟩
    -- each object behind the call
    have back : ∀ k x, mget (mapply N (renUpd F objs)) k = some x →
        (∃ j y p, j < ks.length + 8 ∧ F j = k ∧ mget (mapply cM objs) j = some y ∧ τ j = some p ∧ σ2 k = some p ∧ OR w' J σ2 p x ∧ (owns x ↔ owns y)) ∨
        (k ∉ ks ∧ mget N k = some x ∧ (∃ p, σ k = some p ∧ σ2 k = some p ∧ OR w' J σ2 p x)) := by
      intro k x hx
      by_cases hj : ∃ j, j < ks.length + 8 ∧ F j = k
      · obtain ⟨j, hj, rfl⟩ := hj
        by_cases hu : ∃ u, (j, u) ∈ objs
        · left
          have := ((hren N cM hkl2 j).1 hj).1 hu
          rw [hx] at this
          obtain ⟨y, hy, hyx⟩ := Option.map_eq_some_iff.1 this.symm
          obtain ⟨p, hp, ho⟩ := hok'.obj j y hy
          have ho := hoJ j y p hy ho
          refine ⟨j, y, p, hj, rfl, hy, hp, hA j hj p hp, ?_, ?_⟩
          · rw [← hyx]
            cases y with
            | row _ _ _ => cases p <;> exact ho
            | imm _ _ _ => cases p <;> exact ho
            | obj cs =>
              cases p with
              | none => exact ho
              | some q =>
                obtain ⟨us, t, fz, hh, hf, hvs⟩ := ho
                exact ⟨us, t, fz, hh, hf, rens_ok hA ((kltU_mem hkl2 j _ (mapply_val hu hy)).2 cs rfl) hvs⟩
          · rw [← hyx]; cases y <;> exact Iff.rfl
        · obtain ⟨h1, h2⟩ := ((hren N cM hkl2 j).1 hj).2 hu
          rw [h1] at hx
          by_cases hjl : j < ks.length
          · left
            have hkj : ks[j]? = some ks[j] := List.getElem?_eq_getElem hjl
            have hFj : F j = ks[j] := back_lt hkj
            rw [hFj, n1 _ (List.getElem_mem hjl)] at hx
            obtain ⟨y, hy⟩ : ∃ y, mget cM j = some y := by
              rw [(hS j).1, if_pos (Nat.zero_le _), Nat.sub_zero, hkj]
              simp only [hx]
              obtain ⟨x', hx', hc'⟩ := (hS j).2 ks[j] (by simpa using hkj) (Nat.zero_le _)
              rw [hx] at hx'; cases hx'
              cases x with
              | obj cs => obtain ⟨cs', e⟩ := hc' cs rfl; exact ⟨.obj cs', by simp [e]⟩
              | row _ _ _ => exact ⟨_, rfl⟩
              | imm _ _ _ => exact ⟨_, rfl⟩
            obtain ⟨k, x2, hk2, hm2, hxy⟩ := hcget j y hy
            rw [hkj] at hk2; cases hk2
            rw [hx] at hm2; cases hm2
            obtain ⟨p, hp, ho⟩ := hok'.obj j y (by rw [h2]; exact hy)
            have ho := hoJ j y p (by rw [h2]; exact hy) ho
            refine ⟨j, y, p, hj, rfl, by rw [h2]; exact hy, hp, hA j hj p hp, ?_, (howns hxy).symm⟩
            cases x with
            | obj cs =>
              obtain ⟨cs', h3, rfl⟩ := hxy
              cases p with
              | none => exact ho
              | some q =>
                obtain ⟨us, t, fz, hh, hf, hvs⟩ := ho
                refine ⟨us, t, fz, hh, hf, ?_⟩
                have hkl : kltVs (ks.length + 8) cs' = true := kltVs_renCs h3
                have := rens_ok hA hkl hvs
                have e4 := rens_renCs (base := key) h3
                rw [show rens F cs' = cs from e4] at this
                exact this
            | row _ _ _ => simp only at hxy; subst hxy; cases p <;> exact ho
            | imm _ _ _ => simp only at hxy; subst hxy; cases p <;> exact ho
          · exfalso
            have hFj : F j = key + (j - ks.length) := back_ge (by omega)
            rw [hFj] at hx
            have hnk : key + (j - ks.length) ∉ ks := fun hk => by
              obtain ⟨p, hp⟩ := hkset _ hk
              exact hkout _ p hp ⟨by omega, by omega⟩
            obtain ⟨y, hy, _⟩ := n2 _ _ hnk hx
            obtain ⟨p, hp, _⟩ := hok.obj _ y hy
            exact hkout _ p hp ⟨by omega, by omega⟩
      · right
        have hne : ∀ i, i < ks.length + 8 → F i ≠ k := fun i hi e => hj ⟨i, hi, e⟩
        rw [(hren N cM hkl2 k).2 hne] at hx
        have hnk : k ∉ ks := fun hk => by
          obtain ⟨j, hj'⟩ := List.mem_iff_getElem?.1 hk
          exact hne j (by have := (List.getElem?_eq_some_iff.1 hj').1; omega) (back_lt hj')
        refine ⟨hnk, hx, ?_⟩
        obtain ⟨y, hy, hxy⟩ := n2 k x hnk hx
        obtain ⟨p, hp, ho⟩ := hok.obj k y hy
        refine ⟨p, hp, hσ2 k p hp, ?_⟩
        have ho2 := OR.keep K (fun q hq => by subst hq; exact hblkM k y q hnk hy hp) ho
        rcases hxy with rfl | ⟨nn, e, xs, rfl, rfl, hkl, hLJ⟩
        · exact ho2
        · cases p with
          | none => exact ho2
          | some q => exact ⟨ho2, hLJ _ ⟨k, hkl, q, hp, rfl⟩⟩
    have hown : ∀ b, Owned σ2 (mapply N (renUpd F objs)) b → Owned τ (mapply cM objs) b ∨ ∃ k x p, k ∉ ks ∧ mget N k = some x ∧ owns x ∧ σ k = some (some p) ∧ p.b = b := by
      rintro b ⟨k, x, p, hk, hx, hs, rfl⟩
      rcases back k x hk with ⟨j, y, q, _, _, hy, hq, hq2, _, how⟩ | ⟨hnk, hN, q, hq, hq2, _⟩
      · rw [hs] at hq2; cases hq2
        exact .inl ⟨j, y, p, hy, how.1 hx, hq, rfl⟩
      · rw [hs] at hq2; cases hq2
        exact .inr ⟨k, x, p, hnk, hN, hx, hq, rfl⟩
    have hNM : ∀ k x p, k ∉ ks → mget N k = some x → owns x → σ k = some (some p) → Owned σ M p.b := fun k x p hnk hN hx hp => by
      obtain ⟨y, hy, hxy⟩ := n2 k x hnk hN
      rcases hxy with rfl | ⟨nn, e, xs, rfl, rfl, _⟩
      · exact ⟨k, x, p, hy, hx, hp, rfl⟩
      · exact hx.elim
    have hnotC : ∀ k x p, k ∉ ks → mget N k = some x → owns x → σ k = some (some p) → ¬ Owned τ (mapply cM objs) p.b := fun k x p hnk hN hx hp hb => by
      rcases hext.own _ hb with h1 | h1
      · obtain ⟨k', x', p', hk', hm', hx', hs', e⟩ := hOC _ h1
        obtain ⟨y, hy, hxy⟩ := n2 k x hnk hN
        rcases hxy with rfl | ⟨nn, e2, xs, rfl, rfl, _⟩
        · exact hnk (hok.inj k k' x x' p p' hy hm' hx hx' hp hs' e.symm ▸ hk')
        · exact hx.elim
      · have := hok.blk_lt (hNM k x p hnk hN hx hp)
        omega
    refine ⟨J, σ2, ren_ok hA hkl1 hvJ, ⟨fun b hb => hok'.lt b (j2 b hb), fun k x hk => ?_, fun b hb hJ => ?_, fun k k' x x' p p' h1 h2 o1 o2 s1 s2 e => ?_⟩,
      ⟨hext.os, hext.tape, hext.output, hext.size, fun b hb hn => hext.blk b hb fun ho => hn (hOM b ho), j1, fun b hb => ?_, fun b hb => ?_, hσ2⟩, fun k => ?_⟩
    · rcases back k x hk with ⟨j, y, p, _, _, _, _, hp2, ho, _⟩ | ⟨_, _, p, _, hp2, ho⟩ <;> exact ⟨p, hp2, ho⟩
    · rcases hown b hb with h1 | ⟨k, x, p, hnk, hN, hx, hp, rfl⟩
      · exact hok'.sep b h1 (j2 b hJ)
      · exact n3 k x p hnk hN hx hp hJ
    · rcases back k x h1 with ⟨j, y, q, hj, e1, hy, hq, hq2, _, how⟩ | ⟨hnk, hN, q, hq, hq2, _⟩ <;> rcases back k' x' h2 with ⟨j', y', q', hj', e1', hy', hq', hq2', _, how'⟩ | ⟨hnk', hN', q', hq', hq2', _⟩ <;> rw [s1] at hq2 <;> rw [s2] at hq2' <;> cases hq2 <;> cases hq2'
      · have := hok'.inj j j' y y' p p' hy hy' (how.1 o1) (how'.1 o2) hq hq' e
        rw [← e1, ← e1', this]
      · exact (hnotC k' x' p' hnk' hN' o2 hq' ⟨j, y, p, hy, how.1 o1, hq, e⟩).elim
      · exact (hnotC k x p hnk hN o1 hq ⟨j', y', p', hy', how'.1 o2, hq', e.symm⟩).elim
      · obtain ⟨z, hz, hxz⟩ := n2 k x hnk hN
        obtain ⟨z', hz', hxz'⟩ := n2 k' x' hnk' hN'
        rcases hxz with rfl | ⟨nn, e2, xs, rfl, rfl, _⟩
        · rcases hxz' with rfl | ⟨nn, e2, xs, rfl, rfl, _⟩
          · exact hok.inj k k' x x' p p' hz hz' o1 o2 hq hq' e
          · exact o2.elim
        · exact o1.elim
    · rcases hext.fresh b (j2 b hb) with (h1 | h1) | h1 | h1
      · exact .inl h1
      · rcases hlentI b h1 with h2 | h2
        · exact .inl h2
        · exact .inr (.inl h2)
      · exact .inr (.inl (hOM b h1))
      · exact .inr (.inr h1)
    · rcases hown b hb with h1 | ⟨k, x, p, hnk, hN, hx, hp, rfl⟩
      · rcases hext.own b h1 with h2 | h2
        · exact .inl (hOM b h2)
        · exact .inr h2
      · exact .inl (hNM k x p hnk hN hx hp)
    · by_cases h : key ≤ k ∧ k < key + 8
      · exact .inr h
      · left
        show (if _ then _ else _) = _
        rw [if_neg h]
  cases hfl : noLent lent val (mapply cM objs) with
  | true =>
    simp only [List.nil_append]
    unfold noLent at hfl
    split at hfl
    · -- nothing was lent
      refine main I' M hIsub (fun _ h => h) (fun _ _ => rfl) (fun k x _ hx => ⟨x, hx, .inl rfl⟩) (fun k x p hnk hx ho hp hb => ?_) hval (fun _ _ _ _ h => h)
      rcases hext.fresh _ hb with (h1 | ⟨k', hk', _⟩) | h1 | h1
      · exact hok.sep _ ⟨k, x, p, hx, ho, hp, rfl⟩ h1
      · cases hk'
      · obtain ⟨k', x', p', hk', hm', hx', hs', e⟩ := hOC _ h1
        exact hnk (hok.inj k k' x x' p p' hx hm' ho hx' hp hs' e.symm ▸ hk')
      · have := hok.blk_lt ⟨k, x, p, hx, ho, hp, rfl⟩
        omega
    · split at hfl <;> (try (cases hfl; done))
      rename_i hfv
      exact main I M (fun _ h => h) hIsub (fun _ _ => rfl) (fun k x _ hx => ⟨x, hx, .inl rfl⟩) (fun k x p _ hx ho hp => hok.sep _ ⟨k, x, p, hx, ho, hp, rfl⟩) (flatV_ok hfv hval) (fun j x p hj ho => flatO_ok (flatM_ok hfl hj) ho)
  | false =>
    rw [mapply_append]
    refine main I' (mapply M (freeze M lent)) hIsub (fun _ h => h) (fun k hk => ?_) (fun k x hnk hx => ?_) (fun k x p hnk hx ho hp hb => ?_) hval (fun _ _ _ _ h => h)
    · rw [mget_freeze, if_neg (fun hl => hdj k hl hk)]
    · rw [mget_freeze] at hx
      split at hx
      · rename_i hkl
        split at hx
        · rename_i nn e xs hm
          cases hx
          exact ⟨_, hm, .inr ⟨nn, e, xs, rfl, rfl, hkl, fun b hb => hext.mono b (.inr hb)⟩⟩
        · exact ⟨x, hx, .inl rfl⟩
      · exact ⟨x, hx, .inl rfl⟩
    · have hoF : Owned σ (mapply M (freeze M lent)) p.b := ⟨k, x, p, hx, ho, hp, rfl⟩
      rcases hext.fresh _ hb with h1 | h1 | h1
      · exact hokF.sep _ hoF h1
      · obtain ⟨k', x', p', hk', hm', hx', hs', e⟩ := hOC _ h1
        have hxM : mget M k = some x := by
          rw [mget_freeze] at hx
          split at hx
          · split at hx
            · cases hx; exact ho.elim
            · exact hx
          · exact hx
        exact hnk (hok.inj k k' x x' p p' hxM hm' ho hx' hp hs' e.symm ▸ hk')
      · have := hok.blk_lt (hownF _ hoF)
        omega
theorem call_ok (hok : Ok w I σ M) (hfree : ∀ k, key ≤ k → k < key + 8 → σ k = none) {f : FuncId} {C : Contract} (hC : CSound P f C) {args : List AV} {vs : List Value} {e : Eff} (h : callAv M key C args = some e) (hvc : ∀ p ∈ e.vc, p ()) (hv : VRs w I σ args vs) :
    Invokes P f vs w (Post w I σ M key e.val (mapply M e.upd)) := by
  unfold callAv at h
  split at h <;> (try (cases h; done))
  rename_i args1 lent vc0 hmode
  dsimp only at h
  split at h <;> (try (cases h; done))
  rename_i cargs cM hca hcM hnd hdj
  split at h <;> (try (cases h; done))
  rename_i r hr
  split at h <;> (try (cases h; done))
  rename_i hkl1 hkl2
  simp only [Option.some.injEq] at h
  subst h
  have hvc2 : ∀ p ∈ r.vc, p () := fun p hp => hvc p (List.mem_append_right _ hp)
  refine (call_gen (R := fun val upd => val = r.val ∧ upd = r.objs) hok hfree hmode (fun p hp => hvc p (List.mem_append_left _ hp)) hca hcM hnd hdj hv fun w I σ vs h1 h2 h3 => (hC.det cargs cM r hr hvc2 w I σ vs h1 h2 h3).mono fun v w' h => ⟨r.val, r.objs, ⟨rfl, rfl⟩, h⟩).mono fun v w' hp => ?_
  obtain ⟨val, objs, ⟨rfl, rfl⟩, hp⟩ := hp
  refine hp ⟨[], _, lent ++ reach M 40 0 (keysOfs args1 []), _⟩ ?_
  simp only [callRes, hkl1, hkl2]
theorem callN_ok (hok : Ok w I σ M) (hfree : ∀ k, key ≤ k → k < key + 8 → σ k = none) {f : FuncId} {C : Contract} (hC : CSound P f C) {args : List AV} {vs : List Value} {n : NEff} (h : callNv M key C args = some n) (hvc : ∀ p ∈ n.pre, p ()) (hv : VRs w I σ args vs) :
    Invokes P f vs w fun v w' => ∃ d, n.ok d ∧ ∀ e, n.eff d = some e → Post w I σ M key e.val (mapply M e.upd) v w' := by
  unfold callNv at h
  split at h <;> (try (cases h; done))
  rename_i args1 lent vc0 hmode
  dsimp only at h
  split at h <;> (try (cases h; done))
  rename_i cargs cM hca hcM hnd hdj
  split at h <;> (try (cases h; done))
  rename_i r hr
  simp only [Option.some.injEq] at h
  subst h
  have hvc2 : ∀ p ∈ r.pre, p () := fun p hp => hvc p (List.mem_append_right _ hp)
  refine (call_gen hok hfree hmode (fun p hp => hvc p (List.mem_append_left _ hp)) hca hcM hnd hdj hv (hC.nd cargs cM r hr hvc2)).mono fun v w' hp => ?_
  obtain ⟨val, objs, ⟨d, hd, hres⟩, hp⟩ := hp
  refine ⟨d, hd, fun e he => hp e ?_⟩
  simp only [hres] at he
  exact he
end
end Go.Am
