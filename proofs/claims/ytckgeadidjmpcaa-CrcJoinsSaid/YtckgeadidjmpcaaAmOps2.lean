/- One operation: comparisons, strings, conversions, lengths. -/
import Derived.Test.YtckgeadidjmpcaaAmOps1
namespace Go.Am
set_option linter.all false
set_option linter.deprecated false
section
variable {P : Program} {o : Oper} {a : Act} {w : World} {I : Nat → Prop} {σ : Sig} {M : MS} {key : Nat} {env : List AV} {T : TT}

theorem under_of (hT : ∀ t i, T t = some i → TIok P t i) {t : Nat} {i : TI} (h : tget T t = some i) : ∃ d, P.underlying t = some d ∧ TDok P i.td d ∧ i.agg = isAggD d := (hT t i h).under
theorem run_under {t : TypeId} {d : TypeDesc} (h : P.underlying t = some d) (w : World) : (underlying t).run P w = .ok d w := run_underlying h w
theorem run_sizeOf_of {t : TypeId} {inf : TypeInfo} (h : P.info? t = some inf) (w : World) : (sizeOf t).run P w = .ok inf.size w := by
  simp [sizeOf, typeInfo, h]
theorem run_isAgg_of {t : TypeId} {d : TypeDesc} (h : P.underlying t = some d) (w : World) : (isAgg t).run P w = .ok (isAggD d) w := by
  simp only [isAgg, Sem.run_bind, run_under h, Result.andThen_ok]
  cases d <;> rfl
/-- a part of an aggregate -/
theorem run_part_of {t : TypeId} {i : TI} (hi : TIok P t i) {xs : List AV} {us : Array Value} {off : Nat} (h : VRs w I σ xs us.toList) (hsz : off + i.size ≤ xs.length) (h1 : 1 ≤ i.size) :
    ∃ v, (part t us off).run P w = .ok v w ∧ VR w I σ (loadAv i (ldrop xs off)) v := by
  obtain ⟨d, hu, _, ha⟩ := hi.under
  obtain ⟨inf, z, hinf, hs, _⟩ := hi.info
  have hl := VRs.length h
  simp only [part, Sem.run_bind, run_isAgg_of hu, Result.andThen_ok]
  unfold loadAv
  rw [ha, ldrop_eq]
  cases hd : isAggD d with
  | true =>
    simp only [if_true, Sem.run_bind, run_sizeOf_of hinf, Result.andThen_ok, hs]
    refine ⟨_, rfl, ?_⟩
    simp only [VR]
    refine ⟨_, rfl, ?_⟩
    rw [ltake_eq]
    have := (h.drop off).take i.size
    simpa [List.extract_eq_take_drop] using this
  | false =>
    simp only [Bool.false_eq_true, if_false]
    obtain ⟨u, hu, hv⟩ := lget_ok (xs.drop off) (us.toList.drop off) 0 (h.drop off) (by simp; omega)
    have hu' : us[off]? = some u := by simpa using hu
    refine ⟨u, ?_, hv⟩
    rw [hu']
    rfl
theorem bytes_eq_iff (a b : ByteArray) : (a == b) = (a.data.toList == b.data.toList) := by
  cases a with | mk a => cases b with | mk b =>
  show (a == b) = (a.toList == b.toList)
  rw [Bool.eq_iff_iff]
  simp only [beq_iff_eq]
  constructor
  · rintro rfl; rfl
  · intro h; exact Array.toList_inj.1 h
mutual
theorem eqAv_ok (hT : ∀ t i, T t = some i → TIok P t i) : ∀ (d D t : Nat) (x y : AV) (u v : Value) (b : Unit → Bool), d ≤ D → eqAv T d t x y = some b → VR w I σ x u → VR w I σ y v →
    (Op.equalIn D t u v).run P w = .ok (b ()) w
  | 0, _, _, _, _, _, _, _, _, h, _, _ => by simp [eqAv] at h
  | d + 1, 0, _, _, _, _, _, _, hD, _, _, _ => by omega
  | d + 1, D + 1, t, x, y, u, v, b, hD, h, hx, hy => by
    unfold eqAv at h
    split at h
    · cases h
    · rename_i ti ht
      obtain ⟨ds, hu, htd, _⟩ := under_of hT ht
      have hst := (hT t ti ht).stood
      simp only [Op.equalIn, Sem.run_bind, run_under hu, Result.andThen_ok]
      split at h
      · rename_i a c htd'
        rw [htd'] at htd
        simp only [TDok] at htd
        simp only [Option.some.injEq] at h
        simp only [VR] at hx hy
        subst h hx hy htd
        rfl
      · rename_i k0 k a k' c htd'
        rw [htd'] at htd
        simp only [TDok] at htd
        split at h
        · rename_i hk
          simp only [Option.some.injEq] at h
          simp only [VR] at hx hy
          obtain ⟨rfl, _⟩ := hx
          obtain ⟨rfl, _⟩ := hy
          subst h htd
          simp only [decide_eq_true_eq] at hk
          simp [hk]
        · cases h
      · rename_i a c htd'
        rw [htd'] at htd
        simp only [TDok] at htd
        simp only [Option.some.injEq] at h
        simp only [VR] at hx hy
        obtain ⟨s, rfl, hs, _⟩ := hx
        obtain ⟨s', rfl, hs', _⟩ := hy
        subst h htd
        simp only [Sem.run_pure, bytes_eq_iff, hs, hs']
      · rename_i fs xs ys htd'
        rw [htd'] at htd hst
        simp only [TDok] at htd
        simp only [VR] at hx hy
        obtain ⟨us, rfl, hx⟩ := hx
        obtain ⟨vs, rfl, hy⟩ := hy
        obtain ⟨fields, rfl, hfs, hc1, hc⟩ := htd
        have hc2 := hc trivial
        simp only [Sem.run_bind, run_program, Result.andThen_ok, (hst rfl).1, Bool.false_eq_true, if_false, ← Array.forIn_toList]
        rw [eqFs_ok hT d D fs fields.toList xs ys us vs b (by omega) hfs (by simpa using hc1) hc2 h hx hy]
        cases b () <;> rfl
      · rename_i td0 x0 y0 _ _ _ _
        split at h
        · rename_i bb hb
          simp only [Option.some.injEq] at h
          subst h
          unfold nilCmp at hb
          split at hb <;> simp only [Option.some.injEq, reduceCtorEq] at hb <;> subst hb <;> rename_i htd'
          all_goals (have htd2 := htd; rw [‹ti.td = _›] at htd2; simp only [TDok] at htd2)
          · simp only [VR] at hx hy
            obtain ⟨rfl, _⟩ := htd2; subst hx hy; rfl
          · simp only [VR] at hx hy
            obtain ⟨a, len, cap, rfl⟩ := hx.2 trivial
            obtain ⟨rfl, _⟩ := htd2; subst hy; rfl
          · simp only [VR] at hx hy
            subst htd2 hx hy; rfl
          · simp only [VR] at hx hy
            obtain ⟨b, off, rfl, _⟩ := hx
            subst htd2 hy; rfl
          · simp only [VR] at hx hy
            unfold PtR at hx
            split at hx
            · subst htd2 hx hy; rfl
            · exact hx.elim
          · simp only [VR] at hx hy
            obtain ⟨_, _, _, rfl⟩ := htd2
            subst hx hy; rfl
          · simp only [VR] at hx hy
            obtain ⟨us, rfl, _⟩ := hx
            obtain ⟨_, _, _, rfl⟩ := htd2
            subst hy; rfl
        · cases h
theorem eqFs_ok (hT : ∀ t i, T t = some i → TIok P t i) : ∀ (d D : Nat) (fs : List (Nat × Nat × Nat)) (gs : List Field) (xs ys : List AV) (us vs : Array Value) (b : Unit → Bool), d ≤ D → FsR P fs gs → fs.length = gs.length → (∀ g ∈ gs, g.name ≠ "_") →
    eqFs T d fs xs ys = some b → VRs w I σ xs us.toList → VRs w I σ ys vs.toList →
    Sem.run P (forIn gs ((none : Option Bool), ()) fun f __s =>
              if f.name ≠ "_" then do
                let __do_lift ← part f.type us f.offset
                let __do_lift_1 ← part f.type vs f.offset
                let __do_lift ← Op.equalIn D f.type __do_lift __do_lift_1
                if (!__do_lift) = true then pure (ForInStep.done (some false, ()))
                  else pure (ForInStep.yield (none, ()))
              else pure (ForInStep.yield (none, ()))) w = .ok (if b () then (none, ()) else (some false, ())) w
  | d, D, [], gs, xs, ys, us, vs, b, hD, hf, hl, hn, h, hx, hy => by
    simp only [eqFs, Option.some.injEq] at h
    subst h
    cases gs with
    | nil => rfl
    | cons g gs => simp at hl
  | d, D, (off, ft, sz) :: fs, [], xs, ys, us, vs, b, hD, hf, hl, hn, h, hx, hy => hf.elim
  | d, D, (off, ft, sz) :: fs, g :: gs, xs, ys, us, vs, b, hD, hf, hl, hn, h, hx, hy => by
    obtain ⟨rfl, rfl, ⟨inf, hinf, hsz⟩, hf⟩ := hf
    simp only [eqFs] at h
    split at h
    · cases h
    · rename_i fi hfi
      split at h
      · rename_i c1 c2 h1 h2 h3 h4 h5
        simp only [Option.some.injEq] at h
        subst h
        have hi := hT _ _ hfi
        obtain ⟨inf', z, hinf', hs', _⟩ := hi.info
        have e : fi.size = sz := by rw [hinf] at hinf'; cases hinf'; rw [← hs', hsz]
        rw [llen_eq] at h1 h2
        have h1 := Nat.le_of_ble_eq_true h1
        have h2 := Nat.le_of_ble_eq_true h2
        have h3 := Nat.le_of_ble_eq_true h3
        obtain ⟨p, hp, hpv⟩ := run_part_of hi hx (off := g.offset) (by omega) (by omega)
        obtain ⟨q, hq, hqv⟩ := run_part_of hi hy (off := g.offset) (by omega) (by omega)
        have h6 := eqAv_ok hT d D g.type _ _ p q c1 hD h4 hpv hqv
        have h7 := eqFs_ok hT d D fs gs xs ys us vs c2 hD hf (by simpa using hl) (fun x hx => hn x (List.mem_cons_of_mem _ hx)) h5 hx hy
        simp only [List.forIn_cons, if_pos (hn g (List.mem_cons_self)), bind_assoc, Sem.run_bind, hp, hq, h6, Result.andThen_ok]
        cases hc : c1 () with
        | false => rfl
        | true =>
          simp only [Bool.not_true, Bool.false_eq_true, if_false, Bool.true_and, Sem.run_pure, Result.andThen_ok]
          exact h7
      · cases h
end
end
end Go.Am
