/- One operation: reading memory, places, aggregates. -/
import Derived.Test.YtckgeadidjmpcaaAmOps3
namespace Go.Am
set_option linter.all false
set_option linter.deprecated false
section
variable {P : Program} {o : Oper} {a : Act} {w : World} {I : Nat → Prop} {σ : Sig} {M : MS} {key : Nat} {env : List AV} {T : TT}

theorem VRat.cells : ∀ {cs : List AV} {b off : Nat}, VRat w I σ cs b off → ∃ us : List Value, VRs w I σ cs us ∧ ∀ j u, us[j]? = some u → w.cell? ⟨b, off + j, none⟩ = some u
  | [], _, _, _ => ⟨[], by simp [VRs], by simp⟩
  | c :: cs, b, off, h => by
    simp only [VRat] at h
    obtain ⟨⟨_, u, hu, hv⟩, h⟩ := h
    obtain ⟨us, h1, h2⟩ := VRat.cells h
    refine ⟨u :: us, by simp only [VRs]; exact ⟨u, us, rfl, hv, h1⟩, fun j x hx => ?_⟩
    cases j with
    | zero => simp at hx; subst hx; simpa using hu
    | succ j =>
      have := h2 j x (by simpa using hx)
      rwa [show off + 1 + j = off + (j + 1) by omega] at this
theorem VRat.drop : ∀ {cs : List AV} {b off : Nat} (n : Nat), VRat w I σ cs b off → VRat w I σ (cs.drop n) b (off + n)
  | cs, b, off, 0, h => by simpa using h
  | [], b, off, n + 1, h => by simp [VRat]
  | c :: cs, b, off, n + 1, h => by
    simp only [VRat] at h
    have := VRat.drop n h.2
    rw [show off + 1 + n = off + (n + 1) by omega] at this
    simpa using this
/-- loading what a type takes up, where its cells read -/
theorem run_loadVar_of {t : TypeId} {i : TI} (hi : TIok P t i) {b off : Nat} {cs : List AV} {us : List Value} (h : VRs w I σ cs us) (hc : ∀ j u, us[j]? = some u → w.cell? ⟨b, off + j, none⟩ = some u)
    (hsz : i.size ≤ cs.length) (h1 : 1 ≤ i.size) : ∃ v, (loadVar t ⟨b, off, none⟩).run P w = .ok v w ∧ VR w I σ (loadAv i cs) v := by
  obtain ⟨d, hu, _, ha⟩ := hi.under
  obtain ⟨inf, z, hinf, hs, _⟩ := hi.info
  have hl := VRs.length h
  simp only [loadVar, Sem.run_bind, run_isAgg_of hu, Result.andThen_ok]
  unfold loadAv
  rw [ha]
  cases hd : isAggD d with
  | true =>
    simp only [if_true, Sem.run_bind, run_sizeOf_of hinf, Result.andThen_ok, hs]
    have := run_loadCells_list (P := P) (w := w) ⟨b, off, none⟩ (us.take i.size) (fun j v hv => by
      rw [List.getElem?_take] at hv
      split at hv
      · rw [Addr.add_lit]; exact hc j v hv
      · cases hv)
    rw [List.length_take, Nat.min_eq_left (by omega)] at this
    rw [this]
    refine ⟨_, rfl, ?_⟩
    simp only [VR]
    refine ⟨_, rfl, ?_⟩
    rw [ltake_eq]
    simpa using h.take i.size
  | false =>
    simp only [Bool.false_eq_true, if_false]
    obtain ⟨u, hu, hv⟩ := lget_ok cs us 0 h (by omega)
    refine ⟨u, ?_, hv⟩
    have := hc 0 u hu
    simp only [Nat.add_zero] at this
    simp [this]
theorem Dat.av : ∀ (s : Sh) (d : Unit → D) (v : Value), Dat w I s (d ()) v → VR w I σ (Am.av s d) v
  | .int k, d, v, h => by simpa only [Am.av, VR, Dat] using h
  | .bool, d, v, h => by simpa only [Am.av, VR, Dat] using h
  | .str, d, v, h => by simpa only [Am.av, VR, Dat] using h
  | .slice e, d, v, h => by
    simp only [Am.av, VR]
    refine ⟨?_, by simp⟩
    simp only [Dat, D.toList] at h ⊢
    exact h
  | .ptr e, d, v, h => by simp [Dat] at h
  | .other, d, v, h => by simp [Dat] at h
theorem DatC.go {b : Nat} (hI : I b) : ∀ (e : List Sh) (j : Nat) (ds : Unit → List D) (o : Nat), DatC w I e j (ds ()) b o → VRat w I σ (Am.avs.go ds e j) b (o + j)
  | [], _, _, _, _ => by simp [Am.avs.go, VRat]
  | s :: ss, j, ds, o, h => by
    simp only [DatC] at h
    obtain ⟨⟨u, hu, hd⟩, h⟩ := h
    simp only [Am.avs.go, VRat]
    refine ⟨⟨hI, u, hu, Dat.av s (fun _ => lk (ds ()) j) u hd⟩, ?_⟩
    have := DatC.go hI ss (j + 1) ds o h
    rwa [show o + (j + 1) = o + j + 1 by omega] at this
/-- the cells of a datum, of a block that need not be immutable -/
theorem DatC.cells {b : Nat} : ∀ (e : List Sh) (j : Nat) (ds : Unit → List D) (o : Nat), DatC w I e j (ds ()) b o → ∃ us, VRs w I σ (Am.avs.go ds e j) us ∧ us.length = e.length ∧ ∀ i u, us[i]? = some u → w.cell? ⟨b, o + j + i, none⟩ = some u
  | [], _, _, _, _ => ⟨[], by simp [Am.avs.go, VRs], rfl, by simp⟩
  | s :: ss, j, ds, o, h => by
    simp only [DatC] at h
    obtain ⟨⟨u, hu, hd⟩, h⟩ := h
    obtain ⟨us, h1, h2, h3⟩ := DatC.cells ss (j + 1) ds o h
    refine ⟨u :: us, by simp only [Am.avs.go, VRs]; exact ⟨u, us, rfl, Dat.av s (fun _ => lk (ds ()) j) u hd, h1⟩, by simp [h2], fun i x hx => ?_⟩
    cases i with
    | zero => simp at hx; subst hx; exact hu
    | succ i =>
      have := h3 i x (by simpa using hx)
      rwa [show o + (j + 1) + i = o + j + (i + 1) by omega] at this
theorem avs_length (e : List Sh) (ds : Unit → List D) : (avs e ds).length = e.length := by
  have : ∀ (e : List Sh) (j : Nat), (avs.go ds e j).length = e.length := by
    intro e
    induction e with
    | nil => intro j; rfl
    | cons s ss ih => intro j; simp [avs.go, ih]
  exact this e 0

theorem ints_ok : ∀ {cs : List AV} {us : List Value} {k : IntKind} {fs : List (Unit → Int)}, ints cs = some (k, fs) → VRs w I σ cs us →
    fs.length = us.length ∧ ∀ i, i < fs.length → us[i]? = some (.int k (lk (fs.map fun f => f ()) i)) ∧ wfB k (lk (fs.map fun f => f ()) i) = true
  | [], us, k, fs, h, _ => by simp [ints] at h
  | [c], us, k, fs, h, hr => by
    unfold ints at h
    split at h <;> (try (cases h; done))
    · rename_i k' f heq
      simp only [List.cons.injEq, and_true] at heq
      subst heq
      simp only [Option.some.injEq, Prod.mk.injEq] at h
      obtain ⟨rfl, rfl⟩ := h
      simp only [VRs, VR] at hr
      obtain ⟨u, us', rfl, ⟨rfl, hw⟩, rfl⟩ := hr
      refine ⟨rfl, fun i hi => ?_⟩
      obtain rfl : i = 0 := by simpa using hi
      exact ⟨rfl, hw⟩
    · rename_i k' f vs hne heq
      simp only [List.cons.injEq] at heq
      obtain ⟨rfl, rfl⟩ := heq
      exact (hne rfl).elim
  | c :: c' :: cs, us, k, fs, h, hr => by
    unfold ints at h
    split at h <;> (try (cases h; done))
    · rename_i heq; simp at heq
    · rename_i k' f vs hne heq
      simp only [List.cons.injEq] at heq
      obtain ⟨rfl, rfl⟩ := heq
      split at h
      · rename_i k2 fs2 h2
        split at h
        · rename_i hk
          simp only [decide_eq_true_eq] at hk
          subst hk
          simp only [Option.some.injEq, Prod.mk.injEq] at h
          obtain ⟨rfl, rfl⟩ := h
          rw [VRs] at hr
          obtain ⟨u, us', rfl, hu, hr⟩ := hr
          simp only [VR] at hu
          obtain ⟨rfl, hw⟩ := hu
          obtain ⟨g1, g2⟩ := ints_ok h2 hr
          refine ⟨by simp [g1], fun i hi => ?_⟩
          cases i with
          | zero => exact ⟨rfl, hw⟩
          | succ i =>
            have := g2 i (by simpa using hi)
            simpa [lk] using this
        · cases h
      · cases h
theorem load1_ok (hok : Ok w I σ M) {t : TypeId} {i : TI} (hi : TIok P t i) (x : AV) (u : Value) (e : Eff) (h : load1 M i x = some e) (hvc : ∀ p ∈ e.vc, p ()) (hx : VR w I σ x u) :
    ∃ r, (Instr.loadAt t u).run P w = .ok r w ∧ VR w I σ e.val r ∧ e.upd = [] := by
  unfold load1 at h
  split at h
  · split at h
    · rename_i cs h1 h2
      simp only [Eff.pure, Option.some.injEq] at h
      subst h
      rw [llen_eq] at h1
      simp only [VR] at hx
      obtain ⟨b, off, rfl, hx⟩ := hx
      obtain ⟨us, h3, h4⟩ := VRat.cells hx
      obtain ⟨v, h5, h6⟩ := run_loadVar_of hi h3 h4 (Nat.le_of_ble_eq_true h1) (Nat.le_of_ble_eq_true h2)
      exact ⟨v, by simpa [Instr.loadAt, Instr.sureAddr] using h5, h6, rfl⟩
    · cases h
  · rename_i n off
    split at h
    · rename_i cs hm
      split at h
      · rename_i h1 h2
        simp only [Option.some.injEq] at h
        subst h
        rw [llen_eq] at h1
        have h1 := Nat.le_of_ble_eq_true h1
        simp only [VR] at hx
        obtain ⟨p, hp, ho⟩ := hok.obj n _ hm
        rw [hp] at hx
        cases p with
        | none => exact hx.elim
        | some p =>
          simp only [PtR] at hx
          subst hx
          obtain ⟨us, tt, fz, hh, _, hv⟩ := ho
          obtain ⟨v, h5, h6⟩ := run_loadVar_of (P := P) (t := t) (b := p.b) (off := off) hi (hv.drop off) (fun j u hu => by
            rw [List.getElem?_drop] at hu
            rw [cell_of_row w p.b (off + j) us tt fz hh]
            simpa using hu) (by rw [List.length_drop]; omega) (Nat.le_of_ble_eq_true h2)
          exact ⟨v, by simpa [Instr.loadAt, Instr.sureAddr] using h5, by rw [ldrop_eq]; exact h6, rfl⟩
      · cases h
    · cases h
  · rename_i n i' off
    have key : ∀ (e' : List Sh) (xs : Unit → List (List D)), (∃ p, σ n = some (some p) ∧ RowR w I p e' (xs ())) ∨ (σ n = some none) →
        (match Nat.ble (off + i.size) e'.length, Nat.ble 1 i.size with
          | true, true => some ⟨[fun _ => i' () < (xs ()).length], loadAv i (ldrop (avs e' (fun _ => lk (xs ()) (i' ()))) off), [n], []⟩ | _, _ => none) = some e →
        ∃ r, (Instr.loadAt t u).run P w = .ok r w ∧ VR w I σ e.val r ∧ e.upd = [] := by
      intro e' xs hr h
      split at h
      · rename_i h1 h2
        have h1 := Nat.le_of_ble_eq_true h1
        simp only [Option.some.injEq] at h
        subst h
        have hlt : i' () < (xs ()).length := hvc (fun _ => i' () < (xs ()).length) (List.mem_singleton.2 rfl)
        simp only [VR] at hx
        rcases hr with ⟨p, hp, hr⟩ | hr
        · rw [hp] at hx
          simp only [PtR] at hx
          subst hx
          obtain ⟨cs, tt, fz, hh, _, _, _, _, _, _, hd⟩ := hr
          obtain ⟨us, g1, g2, g3⟩ := DatC.cells (σ := σ) e' 0 (fun _ => lk (xs ()) (i' ())) _ (hd _ hlt)
          obtain ⟨v, h5, h6⟩ := run_loadVar_of (P := P) (t := t) (b := p.b) (off := i' () * p.sz + off) hi (g1.drop off) (fun j u hu => by
            rw [List.getElem?_drop] at hu
            have := g3 _ _ hu
            rwa [show i' () * p.sz + 0 + (off + j) = i' () * p.sz + off + j by omega] at this) (by
              have := avs_length e' (fun _ => lk (xs ()) (i' ()))
              unfold avs at this
              rw [List.length_drop, this]; omega) (Nat.le_of_ble_eq_true h2)
          exact ⟨v, by simpa [Instr.loadAt, Instr.sureAddr] using h5, by rw [ldrop_eq]; exact h6, rfl⟩
        · rw [hr] at hx
          exact hx.elim
      · cases h
    split at h
    · rename_i nn e' xs hm
      obtain ⟨p, hp, ho⟩ := hok.obj n _ hm
      cases p with
      | none => exact key e' xs (.inr hp) h
      | some p => exact key e' xs (.inl ⟨p, hp, ho⟩) h
    · rename_i nn e' xs hm
      obtain ⟨p, hp, ho⟩ := hok.obj n _ hm
      cases p with
      | none => exact key e' xs (.inr hp) h
      | some p => exact key e' xs (.inl ⟨p, hp, ho.1⟩) h
    · cases h
  · rename_i n off cnt i'
    split at h
    · rename_i cs hm h1 h2
      split at h
      · rename_i k fs h3 h4
        simp only [Option.some.injEq] at h
        subst h
        rw [llen_eq] at h3
        have h3 := Nat.le_of_ble_eq_true h3
        have h1 := Nat.eq_of_beq_eq_true h1
        have hlt : i' () < cnt := hvc (fun _ => i' () < cnt) (List.mem_singleton.2 rfl)
        simp only [VR] at hx
        obtain ⟨p, hp, ho⟩ := hok.obj n _ hm
        rw [hp] at hx
        cases p with
        | none => exact hx.elim
        | some p =>
          simp only [PtR] at hx
          subst hx
          obtain ⟨us, tt, fz, hh, _, hv⟩ := ho
          rw [ltake_eq, ldrop_eq] at h4
          obtain ⟨g1, g2⟩ := ints_ok h4 ((hv.drop off).take cnt)
          have hl := VRs.length hv
          have hlen : (((us.toList).drop off).take cnt).length = cnt := by rw [List.length_take, List.length_drop]; omega
          rw [hlen] at g1
          obtain ⟨g3, g4⟩ := g2 (i' ()) (by omega)
          rw [List.getElem?_take, if_pos hlt, List.getElem?_drop] at g3
          refine ⟨.int k (lk (fs.map fun f => f ()) (i' ())), ?_, ?_, rfl⟩
          rotate_left
          · simp only [VR, true_and]; exact g4
          · obtain ⟨d, hu, _, ha⟩ := hi.under
            simp only [Instr.loadAt, Instr.sureAddr, loadVar, Sem.run_bind, Sem.run_pure, Result.andThen_ok, run_isAgg_of hu, ← ha, h2, Bool.false_eq_true, if_false]
            have hc : w.cell? ⟨p.b, off + i' (), none⟩ = some (.int k (lk (fs.map fun f => f ()) (i' ()))) := by
              rw [cell_of_row w p.b (off + i' ()) us tt fz hh]
              simpa using g3
            simp [hc]
      · cases h
    · cases h
  · cases h
/-! ### places -/
theorem fieldAddrAv_ok (hT : ∀ t i, T t = some i → TIok P t i) {s : Nat} {ti : TI} (hs : tget T s = some ti) {fs : List (Nat × Nat × Nat)} {c : Bool} (htd : ti.td = .struct fs c) {f off ft sz : Nat} (hf : fget fs f = some (off, ft, sz)) (h1 : 1 ≤ sz)
    {x y : AV} {u : Value} (h : fieldAddrAv off x = some y) (hx : VR w I σ x u) : ∃ r, (Instr.fieldAt s u f).run P w = .ok r w ∧ VR w I σ y r := by
  obtain ⟨d, hu, hd, _⟩ := under_of hT hs
  rw [htd] at hd
  obtain ⟨fields, rfl, hfs, _⟩ := hd
  obtain ⟨g, hg, e1, e2, inf, hinf, hsz⟩ := hfs.get hf
  have hg' : fields[f]? = some g := by simpa using hg
  have run : ∀ ad : Addr, (Instr.fieldAt s (.pointer (some ad)) f).run P w = .ok (.pointer (some (ad.add off))) w := by
    intro ad
    have hinf' : P.info? g.type = some inf := by rw [e2]; exact hinf
    simp [Instr.fieldAt, run_under hu, hg', Instr.sureAddr, fieldPlace, run_sizeOf_of hinf', e1]
    intro h0
    omega
  unfold fieldAddrAv at h
  split at h <;> (try (cases h; done)) <;> simp only [Option.some.injEq] at h <;> subst h <;> simp only [VR] at hx
  · obtain ⟨b, o, rfl, hx⟩ := hx
    refine ⟨_, run _, ?_⟩
    rw [Addr.add_lit, ldrop_eq]
    simp only [VR]
    exact ⟨b, _, rfl, hx.drop off⟩
  · unfold PtR at hx
    split at hx
    · subst hx
      refine ⟨_, run _, ?_⟩
      rw [Addr.add_lit]
      simp only [VR, PtR, *]
    · exact hx.elim
  · unfold PtR at hx
    split at hx
    · subst hx
      refine ⟨_, run _, ?_⟩
      rw [Addr.add_lit]
      simp only [VR, PtR, *, Nat.add_assoc]
    · exact hx.elim
end
end Go.Am
