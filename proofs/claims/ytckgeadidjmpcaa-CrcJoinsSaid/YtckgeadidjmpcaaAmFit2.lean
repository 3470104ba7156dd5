/- One symbolic state fits into another: the objects, and the whole. -/
import Derived.Test.YtckgeadidjmpcaaAmFit
namespace Go.Am
set_option linter.all false
set_option linter.deprecated false
section
variable {w w0 : World} {I J I0 : Nat → Prop} {σ τ σ0 : Sig} {M M' M0 : MS}

theorem LentOk.app {l l' : List Nat} (h : LentOk M l) (h' : LentOk M l') : LentOk M (l ++ l') := fun k hk => (List.mem_append.1 hk).elim (h k) (h' k)
theorem bindKey_froz {f f' : Fs} {want : Nat} {x : Option Nat} (h : f.bindKey want x = some f') : f'.froz = f.froz := by
  unfold Fs.bindKey at h
  split at h
  · simp only [Option.some.injEq] at h; subst h; rfl
  · split at h <;> (try (cases h; done))
    · split at h <;> (try (cases h; done))
      simp only [Option.some.injEq] at h; subst h; rfl
    · simp only [Option.some.injEq] at h; subst h; rfl
mutual
theorem fitV_lent : ∀ (v v' : AV) (f f' : Fs), fitV M v v' f = some f' → LentOk M f.froz → LentOk M f'.froz := by
  intro v v' f f' h hl
  unfold fitV at h
  split at h
  · cases h; exact hl
  · cases h; exact hl
  · split at h <;> (try (cases h; done))
    cases h; exact hl
  · cases h; exact hl
  · cases h; exact hl
  · cases h; exact hl
  · cases h; exact hl
  · cases h; exact hl
  · cases h; exact hl
  · split at h <;> (try (cases h; done))
    cases h; exact hl
  · exact fitVs_lent _ _ f f' h hl
  · split at h <;> (try (cases h; done))
    rename_i hb
    have e := bindKey_froz hb
    cases h
    show LentOk M _
    simp only [Fs.add]
    rw [e]; exact hl
  · split at h <;> (try (cases h; done))
    rename_i hb
    have e := bindKey_froz hb
    cases h
    show LentOk M _
    simp only [Fs.add]
    rw [e]; exact hl
  · split at h <;> (try (cases h; done))
    · rename_i nn e xs hm
      split at h <;> (try (cases h; done))
      cases h
      exact hl.app fun k hk => by rw [List.mem_singleton.1 hk]; exact ⟨nn, e, xs, .inl hm⟩
    · rename_i nn e xs hm
      split at h <;> (try (cases h; done))
      cases h
      exact hl.app fun k hk => by rw [List.mem_singleton.1 hk]; exact ⟨nn, e, xs, .inr hm⟩
  · split at h <;> (try (cases h; done))
    rw [bindKey_froz h]; exact hl
  · exact fitVs_lent _ _ f f' h hl
  · exact fitVs_lent _ _ f f' h hl
  · split at h <;> (try (cases h; done))
    exact fitVs_lent _ _ f f' h hl
  · cases h
theorem fitVs_lent : ∀ (vs vs' : List AV) (f f' : Fs), fitVs M vs vs' f = some f' → LentOk M f.froz → LentOk M f'.froz
  | [], [], f, f', h, hl => by simp only [fitVs, Option.some.injEq] at h; subst h; exact hl
  | [], _ :: _, _, _, h, _ => by simp [fitVs] at h
  | _ :: _, [], _, _, h, _ => by simp [fitVs] at h
  | v :: vs, v' :: vs', f, f', h, hl => by
    simp only [fitVs] at h
    split at h <;> (try (cases h; done))
    rename_i f1 hf1
    exact fitVs_lent vs vs' f1 f' h (fitV_lent v v' f f1 hf1 hl)
end
theorem fitVs_get (hok : Ok w I σ M) (hIJ : ∀ b, I b → J b) : ∀ (vs vs' : List AV) (f f' : Fs), fitVs M vs vs' f = some f' → Good σ τ J f' → vs'.length = vs.length ∧ ∀ t u, VR w I σ (lget vs t) u → VR w J τ (lget vs' t) u
  | [], [], f, f', h, _ => ⟨rfl, fun t u _ => by simp only [lget, VR]⟩
  | [], _ :: _, _, _, h, _ => by simp [fitVs] at h
  | _ :: _, [], _, _, h, _ => by simp [fitVs] at h
  | v :: vs, v' :: vs', f, f', h, g => by
    simp only [fitVs] at h
    split at h <;> (try (cases h; done))
    rename_i f1 hf1
    obtain ⟨a1, a2⟩ := fitV_ok hok hIJ v v' f f1 hf1
    obtain ⟨b1, b2⟩ := fitVs_ok (τ := τ) hok hIJ vs vs' f1 f' h
    obtain ⟨c1, c2⟩ := fitVs_get hok hIJ vs vs' f1 f' h g
    refine ⟨by simp [c1], fun t u hu => ?_⟩
    cases t with
    | zero => exact a2 (g.of b1) u hu
    | succ t => exact c2 t u hu
theorem fitO_ok (hok : Ok w I σ M) (hIJ : ∀ b, I b → J b) (a : Nat) (o o' : MObj) (f f' : Fs) (h : fitO M a o o' f = some f') :
    Mono f f' ∧ (mget M a = some o → LentOk M f.froz → LentOk M f'.froz) ∧ (Good σ τ J f' → (owns o' → owns o) ∧ ∀ p, σ a = some p → OR w I σ p o → OR w J τ p o') := by
  have KJ : Keep w I σ w J σ := ⟨fun _ _ => rfl, hIJ, fun _ _ h => h⟩
  unfold fitO at h
  split at h
  · rename_i nn e xs nn' e' ys
    split at h <;> (try (cases h; done))
    rename_i hn he
    have he := shEqs_ok he
    subst he
    cases h
    refine ⟨.add _ _, fun _ hl => hl, fun g => ⟨fun _ => trivial, fun p _ hp => ?_⟩⟩
    have hx : xs () = ys () := g.add
    cases p with
    | none => 
      simp only [OR] at hp ⊢
      exact ⟨by cases nn' <;> simp_all [leB], by rw [← hx]; exact hp.2.1, hp.2.2⟩
    | some p =>
      simp only [OR] at hp ⊢
      rw [← hx]
      exact RowR.keep KJ.blk KJ.mono rfl hp
  · rename_i nn e xs nn' e' ys
    split at h <;> (try (cases h; done))
    rename_i hn he
    have he := shEqs_ok he
    subst he
    cases h
    refine ⟨.add _ _, fun _ hl => hl, fun g => ⟨fun h => h.elim, fun p _ hp => ?_⟩⟩
    have hx : xs () = ys () := g.add
    cases p with
    | none => 
      simp only [OR] at hp ⊢
      exact ⟨by cases nn' <;> simp_all [leB], by rw [← hx]; exact hp.2.1, hp.2.2⟩
    | some p =>
      simp only [OR] at hp ⊢
      rw [← hx]
      exact ⟨RowR.keep KJ.blk KJ.mono rfl hp.1, hIJ _ hp.2⟩
  · rename_i nn e xs nn' e' ys
    split at h <;> (try (cases h; done))
    rename_i hn he
    have he := shEqs_ok he
    subst he
    cases h
    refine ⟨.frozAdd _ _ _, fun hm hl => hl.app fun k hk => by rw [List.mem_singleton.1 hk]; exact ⟨nn, e, xs, .inl hm⟩, fun g => ⟨fun h => h.elim, fun p hs hp => ?_⟩⟩
    have hx : xs () = ys () := g.vc _ (List.mem_append_right _ (List.mem_singleton.2 rfl))
    cases p with
    | none => 
      simp only [OR] at hp ⊢
      exact ⟨by cases nn' <;> simp_all [leB], by rw [← hx]; exact hp.2.1, hp.2.2⟩
    | some p =>
      simp only [OR] at hp ⊢
      rw [← hx]
      exact ⟨RowR.keep KJ.blk KJ.mono rfl hp, g.froz _ ⟨a, List.mem_append_right _ (List.mem_singleton.2 rfl), p, hs, rfl⟩⟩
  · rename_i cs ds
    obtain ⟨h1, h2⟩ := fitVs_ok (τ := τ) hok hIJ cs ds f f' h
    refine ⟨h1, fun _ => fitVs_lent _ _ _ _ h, fun g => ⟨fun _ => trivial, fun p _ hp => ?_⟩⟩
    cases p with
    | none => exact hp.elim
    | some p =>
      simp only [OR] at hp ⊢
      obtain ⟨us, t, fz, e1, e2, e3⟩ := hp
      exact ⟨us, t, fz, e1, e2, (h2 g).1 _ e3⟩
  · cases h

structure Weak (f f' : Fs) : Prop where
  map : ∀ k x, kget f.map k = some x → kget f'.map k = some x
  froz : ∀ k ∈ f.froz, k ∈ f'.froz
  vc : ∀ p ∈ f.vc, p ∈ f'.vc
theorem Mono.weak {f f' : Fs} (m : Mono f f') : Weak f f' := ⟨m.map, m.froz, m.vc⟩
theorem Weak.trans {f g h : Fs} (a : Weak f g) (b : Weak g h) : Weak f h :=
  ⟨fun k x hk => b.map k x (a.map k x hk), fun k hk => b.froz k (a.froz k hk), fun p hp => b.vc p (a.vc p hp)⟩
theorem Good.of' {f f' : Fs} (h : Good σ τ J f') (m : Weak f f') : Good σ τ J f :=
  ⟨fun k x hk => h.map k x (m.map k x hk), fun b ⟨k, hk, r⟩ => h.froz b ⟨k, m.froz k hk, r⟩, fun p hp => h.vc p (m.vc p hp)⟩
/-- what is known of an object that was fitted -/
def Fine (w : World) (I J : Nat → Prop) (σ τ : Sig) (M M' : MS) (k : Nat) : Option Nat → Prop
  | some a => ∃ o o', mget M a = some o ∧ mget M' k = some o' ∧ (owns o' → owns o) ∧ ∀ p, σ a = some p → OR w I σ p o → OR w J τ p o'
  | none => ∃ s e ys, mget M' k = some (.row false (s :: e) ys) ∧ ys () = []
theorem fitObjs_ok (hok : Ok w I σ M) (hIJ : ∀ b, I b → J b) : ∀ (n : Nat) (f f' : Fs), fitObjs M M' n f = some f' → Weak f f' ∧ (LentOk M f.froz → LentOk M f'.froz) ∧
    (Good σ τ J f' → (∀ k x, kget f.map k = some x → k ∈ f.todo ∨ Fine w I J σ τ M M' k x) → ∀ k x, kget f'.map k = some x → Fine w I J σ τ M M' k x)
  | 0, _, _, h => by simp [fitObjs] at h
  | n + 1, f, f', h => by
    unfold fitObjs at h
    split at h
    · rename_i ht
      cases h
      refine ⟨⟨fun _ _ h => h, fun _ h => h, fun _ h => h⟩, id, fun _ hf k x hk => ?_⟩
      rcases hf k x hk with h | h
      · rw [ht] at h; cases h
      · exact h
    · rename_i k0 ks ht
      split at h
      · rename_i a o' hk0 hm'
        split at h <;> (try (cases h; done))
        rename_i o hm
        split at h <;> (try (cases h; done))
        rename_i f1 hf1
        obtain ⟨m1, m2, m3⟩ := fitO_ok (τ := τ) hok hIJ a o o' _ f1 hf1
        obtain ⟨i1, i2, i3⟩ := fitObjs_ok hok hIJ n f1 f' h
        have mw : Weak f f1 := ⟨m1.map, m1.froz, m1.vc⟩
        refine ⟨mw.trans i1, fun hl => i2 (m2 hm hl), fun g hf => i3 g fun k x hk => ?_⟩
        rcases m1.new k x hk with h1 | h1
        · rcases hf k x h1 with h2 | h2
          · rw [ht] at h2
            rcases List.mem_cons.1 h2 with rfl | h2
            · have h1 : kget f.map k = some x := h1
              rw [hk0] at h1
              cases h1
              obtain ⟨g1, g2⟩ := m3 (g.of' i1)
              exact .inr ⟨o, o', hm, hm', g1, g2⟩
            · exact .inl (m1.todo k h2)
          · exact .inr h2
        · exact .inl h1
      · rename_i s e ys hk0 hm'
        obtain ⟨i1, i2, i3⟩ := fitObjs_ok hok hIJ n _ f' h
        have mw : Weak f ({ f with todo := ks }.add fun _ => ys () = []) := ⟨fun _ _ h => h, fun _ h => h, fun _ h => List.mem_append_left _ h⟩
        refine ⟨mw.trans i1, fun hl => i2 hl, fun g hf => i3 g fun k x hk => ?_⟩
        rcases hf k x hk with h2 | h2
        · rw [ht] at h2
          rcases List.mem_cons.1 h2 with rfl | h2
          · have h1 : kget f.map k = some x := hk
            rw [hk0] at h1
            cases h1
            exact .inr ⟨s, e, ys, hm', (g.of' i1).add⟩
          · exact .inl h2
        · exact .inr h2
      · cases h
theorem pins_ok {m : Nat} : ∀ (N : MS) (f f' : Fs), pins m N f = some f' → Mono f f' ∧ f'.froz = f.froz
  | [], f, f', h => by simp only [pins, Option.some.injEq] at h; subst h; exact ⟨.refl _, rfl⟩
  | (k, o) :: N, f, f', h => by
    unfold pins at h
    split at h
    · split at h <;> (try (cases h; done))
      rename_i f1 hf1
      obtain ⟨i1, i2⟩ := pins_ok N f1 f' h
      exact ⟨(bindKey_ok hf1).1.trans i1, by rw [i2, bindKey_froz hf1]⟩
    · exact pins_ok N f f' h
theorem covers_ok {map : List (Nat × Option Nat)} : ∀ {N : MS}, covers map N = true → ∀ k o, mget N k = some o → ∃ x, kget map k = some x
  | [], _, k, o, h => by simp [mget] at h
  | (k0, o0) :: N, hc, k, o, h => by
    unfold covers at hc
    split at hc <;> (try (cases hc; done))
    rename_i x hx
    simp only [mget] at h
    split at h
    · rename_i hb
      rw [← Nat.eq_of_beq_eq_true hb]
      exact ⟨_, hx⟩
    · exact covers_ok hc k o h
theorem diffKey_ok {a : Nat} : ∀ {l : List (Nat × Option Nat)}, diffKey a l = true → ∀ k, kget l k ≠ some (some a)
  | [], _, k, h => by simp [kget] at h
  | (k0, some b) :: l, hd, k, h => by
    unfold diffKey at hd
    split at hd <;> (try (cases hd; done))
    rename_i hb
    simp only [kget] at h
    split at h
    · simp only [Option.some.injEq] at h
      subst h
      rw [Nat.beq_refl] at hb; cases hb
    · exact diffKey_ok hd k h
  | (k0, none) :: l, hd, k, h => by
    unfold diffKey at hd
    simp only [kget] at h
    split at h
    · cases h
    · exact diffKey_ok hd k h
theorem keysOk_ok {froz : List Nat} {m nx : Nat} : ∀ {l : List (Nat × Option Nat)}, keysOk M' froz m nx l = true →
    (∀ k x, kget l k = some x → k < nx ∧ (k < m → x = some k) ∧ (m ≤ k → ∀ a, x = some a → m ≤ a) ∧ ∀ a, x = some a → a ∈ froz → isImm (mget M' k) = true) ∧
    ∀ k k' a, kget l k = some (some a) → kget l k' = some (some a) → k = k'
  | [], _ => ⟨fun k x h => by simp [kget] at h, fun k k' a h => by simp [kget] at h⟩
  | (k0, none) :: l, hk => by
    unfold keysOk at hk
    split at hk <;> (try (cases hk; done))
    rename_i h1 h2
    have h1 : m ≤ k0 := Nat.le_of_ble_eq_true h1
    have h2 : k0 < nx := by rw [Nat.blt] at h2; exact Nat.le_of_ble_eq_true h2
    obtain ⟨i1, i2⟩ := keysOk_ok hk
    refine ⟨fun k x h => ?_, fun k k' a h h' => ?_⟩
    · simp only [kget] at h
      split at h
      · rename_i hb
        have hb := Nat.eq_of_beq_eq_true hb
        subst hb
        cases h
        exact ⟨h2, fun h => absurd h (by omega), fun _ a h => (by cases h), fun a h => (by cases h)⟩
      · exact i1 k x h
    · simp only [kget] at h h'
      split at h
      · cases h
      · split at h'
        · cases h'
        · exact i2 k k' a h h'
  | (k0, some a0) :: l, hk => by
    unfold keysOk at hk
    split at hk <;> (try (cases hk; done))
    rename_i h1 h2 h3 h4
    have h1 : k0 < nx := by rw [Nat.blt] at h1; exact Nat.le_of_ble_eq_true h1
    have h2 := diffKey_ok h2
    obtain ⟨i1, i2⟩ := keysOk_ok hk
    refine ⟨fun k x h => ?_, fun k k' a h h' => ?_⟩
    · simp only [kget] at h
      split at h
      · rename_i hb
        have hb := Nat.eq_of_beq_eq_true hb
        subst hb
        cases h
        refine ⟨h1, fun h => ?_, fun h a ha => ?_, fun a ha hf => ?_⟩
        · have hb : Nat.blt k0 m = true := by rw [Nat.blt]; exact Nat.ble_eq_true_of_le h
          rw [hb] at h4
          have h4 := Nat.eq_of_beq_eq_true h4
          rw [h4]
        · cases ha
          have hb : Nat.blt k0 m = false := by
            rw [Nat.blt, ← Bool.not_eq_true]
            intro hh
            have := Nat.le_of_ble_eq_true hh
            omega
          rw [hb] at h4
          exact Nat.le_of_ble_eq_true h4
        · cases ha
          rw [(nmem_iff _ _).2 hf] at h3
          exact h3
      · exact i1 k x h
    · simp only [kget] at h h'
      split at h
      · rename_i hb
        have hb := Nat.eq_of_beq_eq_true hb
        subst hb
        split at h'
        · rename_i hb'
          exact Nat.eq_of_beq_eq_true hb'
        · cases h
          exact (h2 k' h').elim
      · split at h'
        · rename_i hb
          have hb := Nat.eq_of_beq_eq_true hb
          subst hb
          cases h'
          exact (h2 k h).elim
        · exact i2 k k' a h h'
theorem holds_iff : ∀ {l : List (Unit → Prop)}, holds l → ∀ p ∈ l, p ()
  | [], _, _, h => by cases h
  | [p], h, q, hq => by rw [List.mem_singleton.1 hq]; exact h.1
  | p :: q :: l, h, r, hr => by
    rcases List.mem_cons.1 hr with rfl | hr
    · exact h.1.1
    · exact holds_iff h.2 r hr

theorem fit_ok {a : Act} {m : Nat} {s s' : AState} (hm : ∀ k, m ≤ k → σ0 k = none) (hs : St w0 I0 σ0 M0 s.env s.M s.nx a w I σ) (h : fit m s s') :
    ∃ J τ, St w0 I0 σ0 M0 s'.env s'.M s'.nx a w J τ := by
  unfold fit at h
  split at h
  · rename_i vc hfe
    have hvc := holds_iff h
    unfold fitEnv at hfe
    split at hfe <;> (try (cases hfe; done))
    rename_i f0 hf0
    split at hfe <;> (try (cases hfe; done))
    rename_i f1 hf1
    split at hfe <;> (try (cases hfe; done))
    rename_i f hf
    split at hfe <;> (try (cases hfe; done))
    rename_i hkeys hcov hmn
    cases hfe
    have hmn : m ≤ s'.nx := Nat.le_of_ble_eq_true hmn
    obtain ⟨hk1, hk2⟩ := keysOk_ok hkeys
    obtain ⟨τ, hτ⟩ : ∃ τ : Sig, τ = fun k => if k < m then σ k else match kget f.map k with | some (some a) => σ a | some none => some none | none => none := ⟨_, rfl⟩
    obtain ⟨J, hJ⟩ : ∃ J, J = Also I (Lent σ f.froz) := ⟨_, rfl⟩
    have hIJ : ∀ b, I b → J b := fun b hb => by rw [hJ]; exact .inl hb
    have hgood : Good σ τ J f := by
      refine ⟨fun k x hk => ?_, fun b hb => by rw [hJ]; exact .inr hb, hvc⟩
      obtain ⟨g1, g2, g3, g4⟩ := hk1 k x hk
      rw [hτ]
      simp only
      by_cases hkm : k < m
      · rw [if_pos hkm, g2 hkm]
      · rw [if_neg hkm, hk]
        cases x <;> rfl
    have p1 := pins_ok _ _ _ hf0
    have p2 := fitVs_ok (τ := τ) (J := J) hs.ok hIJ _ _ _ _ hf1
    obtain ⟨o1, o2, o3⟩ := fitObjs_ok (τ := τ) (J := J) hs.ok hIJ _ _ _ hf
    have hl0 : LentOk s.M f0.froz := by rw [p1.2]; intro k hk; cases hk
    have hlent : LentOk s.M f.froz := o2 (fitVs_lent _ _ _ _ hf1 hl0)
    have hfine := o3 hgood fun k x hk => by
      rcases (p1.1.trans p2.1).new k x hk with h | h
      · simp [kget] at h
      · exact .inl h
    have g1 : Good σ τ J f1 := hgood.of' o1
    obtain ⟨e1, e2⟩ := fitVs_get hs.ok hIJ _ _ _ _ hf1 g1
    -- an owned block of the new state was one of the old
    have hown : ∀ k o' p, mget s'.M k = some o' → owns o' → τ k = some (some p) → ∃ a o, kget f.map k = some (some a) ∧ mget s.M a = some o ∧ owns o ∧ σ a = some (some p) := by
      intro k o' p hk ho ht
      obtain ⟨x, hx⟩ := covers_ok hcov k o' hk
      have hb := hgood.map k x hx
      have hfn := hfine k x hx
      cases x with
      | none => simp only at hb; rw [ht] at hb; cases hb
      | some a =>
        simp only at hb
        simp only [Fine] at hfn
        obtain ⟨o, o'', q1, q2, q3, q4⟩ := hfn
        rw [hk] at q2
        cases q2
        exact ⟨a, o, hx, q1, q3 ho, by rw [← hb]; exact ht⟩
    have hlentI : ∀ b, Lent σ f.froz b → I b ∨ ∃ k nn e xs p, k ∈ f.froz ∧ mget s.M k = some (.row nn e xs) ∧ σ k = some (some p) ∧ p.b = b := by
      rintro b ⟨k, hk, p, hp, rfl⟩
      obtain ⟨nn, e, xs, hr | hr⟩ := hlent k hk
      · exact .inr ⟨k, nn, e, xs, p, hk, hr, hp, rfl⟩
      · obtain ⟨p', hp', hr'⟩ := hs.ok.obj k _ hr
        rw [hp] at hp'
        cases hp'
        exact .inl hr'.2
    refine ⟨J, τ, ?_⟩
    constructor
    · intro t
      exact e2 t _ (hs.envr t)
    · rw [e1]; exact hs.len
    · constructor
      · intro b hb
        rw [hJ] at hb
        rcases hb with hb | hb
        · exact hs.ok.lt b hb
        · rcases hlentI b hb with hb | ⟨k, nn, e, xs, p, _, hr, hp, rfl⟩
          · exact hs.ok.lt b hb
          · exact hs.ok.blk_lt ⟨k, _, p, hr, trivial, hp, rfl⟩
      · intro k o' hk
        obtain ⟨x, hx⟩ := covers_ok hcov k o' hk
        have hb := hgood.map k x hx
        have hfn := hfine k x hx
        cases x with
        | none =>
          simp only [Fine] at hfn
          obtain ⟨sh, e, ys, q1, q2⟩ := hfn
          rw [hk] at q1
          cases q1
          exact ⟨none, hb, ⟨rfl, q2, Nat.succ_pos _⟩⟩
        | some a =>
          simp only [Fine] at hfn
          obtain ⟨o, o'', q1, q2, q3, q4⟩ := hfn
          rw [hk] at q2
          cases q2
          obtain ⟨p, hp, ho⟩ := hs.ok.obj a o q1
          simp only at hb
          exact ⟨p, by rw [hb]; exact hp, q4 p hp ho⟩
      · rintro b ⟨k, o', p, hk, ho, ht, rfl⟩ hb
        obtain ⟨a, o, q1, q2, q3, q4⟩ := hown k o' p hk ho ht
        rw [hJ] at hb
        have nI : ¬ I p.b := hs.ok.sep _ ⟨a, o, p, q2, q3, q4, rfl⟩
        rcases hb with hb | hb
        · exact nI hb
        · rcases hlentI _ hb with hb | ⟨k0, nn, e, xs, p0, h1, h2, h3, h4⟩
          · exact nI hb
          · have := hs.ok.inj k0 a _ o p0 p h2 q2 trivial q3 h3 q4 h4
            subst this
            have hi := (hk1 k _ q1).2.2.2 k0 rfl h1
            rw [hk] at hi
            cases o' with
            | imm nn e xs => exact ho
            | row nn e xs => cases hi
            | obj cs => cases hi
      · intro k k' o o' p p' hk hk' ho ho' ht ht' hb
        obtain ⟨a, x, q1, q2, q3, q4⟩ := hown k o p hk ho ht
        obtain ⟨a', x', q1', q2', q3', q4'⟩ := hown k' o' p' hk' ho' ht'
        have := hs.ok.inj a a' x x' p p' q2 q2' q3 q3' q4 q4' hb
        subst this
        exact hk2 k k' a q1 q1'
    · intro k hk
      rw [hτ]
      simp only
      rw [if_neg (by omega)]
      cases hx : kget f.map k with
      | none => rfl
      | some x =>
        have := (hk1 k x hx).1
        omega
    · have hx := hs.ext
      refine ⟨hx.os, hx.tape, hx.output, hx.size, hx.blk, fun b hb => hIJ b (hx.mono b hb), fun b hb => ?_, fun b hb => ?_, fun k p hk => ?_⟩
      · rw [hJ] at hb
        rcases hb with hb | hb
        · exact hx.fresh b hb
        · rcases hlentI b hb with hb | ⟨k, nn, e, xs, p, _, hr, hp, rfl⟩
          · exact hx.fresh b hb
          · exact .inr (hx.own _ ⟨k, _, p, hr, trivial, hp, rfl⟩)
      · obtain ⟨k, o', p, hk, ho, ht, rfl⟩ := hb
        obtain ⟨a, o, q1, q2, q3, q4⟩ := hown k o' p hk ho ht
        exact hx.own _ ⟨a, o, p, q2, q3, q4, rfl⟩
      · rw [hτ]
        simp only
        by_cases hkm : k < m
        · rw [if_pos hkm]; exact hx.sig k p hk
        · rw [hm k (by omega)] at hk; cases hk
    · exact hs.def0
  · exact h.elim
end
end Go.Am
