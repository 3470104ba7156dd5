/- One operation: what is lent, and frozen; new objects. -/
import Derived.Test.YtckgeadidjmpcaaAmOps7
namespace Go.Am
set_option linter.all false
set_option linter.deprecated false
section
variable {P : Program} {o : Oper} {a : Act} {w w' : World} {I : Nat → Prop} {σ : Sig} {M : MS} {key : Nat} {env : List AV} {T : TT}

def Lent (σ : Sig) (l : List Nat) (b : Nat) : Prop := ∃ k ∈ l, ∃ p, σ k = some (some p) ∧ p.b = b
def LentOk (M : MS) (l : List Nat) : Prop := ∀ k ∈ l, ∃ nn e xs, mget M k = some (.row nn e xs) ∨ mget M k = some (.imm nn e xs)
def Also (I J : Nat → Prop) : Nat → Prop := fun b => I b ∨ J b
theorem Keep.also (J : Nat → Prop) : Keep w I σ w (Also I J) σ := ⟨fun _ _ => rfl, fun _ h => .inl h, fun _ _ h => h⟩
theorem Keep.more {J J' : Nat → Prop} (h : ∀ b, J b → J' b) : Keep w (Also I J) σ w (Also I J') σ := ⟨fun _ _ => rfl, fun _ h' => h'.imp id (h _), fun _ _ h => h⟩
/-- a mutable row that reads as a slice -/
theorem row_as_slice {e : List Sh} {xs : List (List D)} {p : Option Pl} {n : Nat} (hs : σ n = some p) (hr : (∃ q, p = some q ∧ RowR w I q e xs) ∨ (p = none ∧ xs = [] ∧ 0 < e.length)) {lo len : Nat} {v : Value} (hv : MsR (σ n) lo len v) (hl : lo + len ≤ xs.length)
    {J : Nat → Prop} (hI : ∀ b, I b → J b) (hJ : ∀ q, p = some q → J q.b) : Dat w J (.slice e) (.list ((xs.drop lo).take len)) v := by
  rw [hs] at hv
  rcases hr with ⟨q, rfl, cs, t, fz, hh, h1, h2, h3, h4, h5, h6, h7⟩ | ⟨rfl, rfl, h0⟩
  · obtain ⟨off, cap, rfl, g1, g2, g3, g4⟩ := hv
    simp only [Dat, D.toList]
    refine ⟨_, _, _, rfl, by simp; omega, g3, by omega, by simp, h4, fun i hi => ⟨q.b, off, rfl, hJ q rfl, ?_⟩⟩
    have g1 : off = lo * q.sz := by rcases g1 with g1 | g1 <;> omega
    have e1 : lk ((xs.drop lo).take len) i = lk xs (lo + i) := by
      simp only [lk, List.getD, List.getElem?_take, List.getElem?_drop]
      rw [if_pos hi]
    have := h7 (lo + i) (by omega)
    rw [e1, g1, ← h3]
    rw [Nat.add_mul] at this
    exact DatC.keep' (fun _ _ => rfl) hI e 0 _ _ _ rfl this
  · obtain ⟨rfl, e1, e2⟩ := hv
    simp only [Dat, D.toList]
    exact ⟨none, 0, 0, rfl, by simp, Nat.le_refl _, Nat.zero_le _, fun _ => rfl, h0, fun i hi => by omega⟩
theorem ok_row (hok : Ok w I σ M) {n : Nat} {nn : Bool} {e : List Sh} {xs : Unit → List (List D)} (h : mget M n = some (.row nn e xs) ∨ mget M n = some (.imm nn e xs)) :
    ∃ p, σ n = some p ∧ ((∃ q, p = some q ∧ RowR w I q e (xs ())) ∨ (p = none ∧ xs () = [] ∧ 0 < e.length)) := by
  rcases h with h | h <;> obtain ⟨p, hp, ho⟩ := hok.obj n _ h <;> refine ⟨p, hp, ?_⟩ <;> cases p with
  | none => exact .inr ⟨rfl, ho.2.1, ho.2.2⟩
  | some q => first | exact .inl ⟨q, rfl, ho⟩ | exact .inl ⟨q, rfl, ho.1⟩
mutual
theorem ro_ok (hok : Ok w I σ M) : ∀ (v v' : AV) (l : List Nat) (vc : List (Unit → Prop)) (u : Value), ro M v = some (v', l, vc) → (∀ p ∈ vc, p ()) → VR w I σ v u → VR w (Also I (Lent σ l)) σ v' u ∧ LentOk M l
  | .ms n lo len, v', l, vc, u, h, hvc, hv => by
    unfold ro at h
    split at h <;> (try (cases h; done)) <;> rename_i hm <;> simp only [Option.some.injEq, Prod.mk.injEq] at h <;> obtain ⟨rfl, rfl, rfl⟩ := h
    · rename_i nn e xs
      refine ⟨?_, fun k hk => by simp only [List.mem_singleton] at hk; subst hk; exact ⟨_, _, _, .inl hm⟩⟩
      obtain ⟨p, hp, hr⟩ := ok_row hok (.inl hm)
      simp only [VR] at hv ⊢
      refine ⟨row_as_slice hp hr hv (hvc _ (List.mem_singleton.2 rfl)) (fun b h => .inl h) (fun q hq => .inr ⟨n, by simp, q, by rw [hp, hq], rfl⟩), by simp⟩
    · rename_i nn e xs
      refine ⟨?_, fun k hk => by simp only [List.mem_singleton] at hk; subst hk; exact ⟨_, _, _, .inr hm⟩⟩
      obtain ⟨p, hp, hr⟩ := ok_row hok (.inr hm)
      simp only [VR] at hv ⊢
      refine ⟨row_as_slice hp hr hv (hvc _ (List.mem_singleton.2 rfl)) (fun b h => .inl h) (fun q hq => .inr ⟨n, by simp, q, by rw [hp, hq], rfl⟩), by simp⟩
  | .agg cs, v', l, vc, u, h, hvc, hv => by
    unfold ro at h
    split at h <;> (try (cases h; done))
    rename_i cs' l' vc' h1
    simp only [Option.some.injEq, Prod.mk.injEq] at h
    obtain ⟨rfl, rfl, rfl⟩ := h
    simp only [VR] at hv ⊢
    obtain ⟨us, rfl, hv⟩ := hv
    obtain ⟨h2, h3⟩ := ros_ok hok cs cs' _ _ us.toList h1 hvc hv
    exact ⟨⟨us, rfl, h2⟩, h3⟩
  | .fn f cs, v', l, vc, u, h, hvc, hv => by
    unfold ro at h
    split at h <;> (try (cases h; done))
    rename_i cs' l' vc' h1
    simp only [Option.some.injEq, Prod.mk.injEq] at h
    obtain ⟨rfl, rfl, rfl⟩ := h
    simp only [VR] at hv ⊢
    obtain ⟨us, rfl, hv⟩ := hv
    obtain ⟨h2, h3⟩ := ros_ok hok cs cs' _ _ us.toList h1 hvc hv
    exact ⟨⟨us, rfl, h2⟩, h3⟩
  | .mp .., _, _, _, _, h, _, _ => by simp [ro] at h
  | .me .., _, _, _, _, h, _, _ => by simp [ro] at h
  | .ax .., _, _, _, _, h, _, _ => by simp [ro] at h
  | .un, _, _, _, _, h, _, _ => by simp [ro] at h
  | .udf, _, _, _, _, h, _, _ => by simp [ro] at h
  | .int k n, v', l, vc, u, h, _, hv => by
    simp only [ro, Option.some.injEq, Prod.mk.injEq] at h; obtain ⟨rfl, rfl, rfl⟩ := h; exact ⟨VR.keep (.also _) _ _ hv, fun _ h => by cases h⟩
  | .bool b, v', l, vc, u, h, _, hv => by
    simp only [ro, Option.some.injEq, Prod.mk.injEq] at h; obtain ⟨rfl, rfl, rfl⟩ := h; exact ⟨VR.keep (.also _) _ _ hv, fun _ h => by cases h⟩
  | .str s, v', l, vc, u, h, _, hv => by
    simp only [ro, Option.some.injEq, Prod.mk.injEq] at h; obtain ⟨rfl, rfl, rfl⟩ := h; exact ⟨VR.keep (.also _) _ _ hv, fun _ h => by cases h⟩
  | .nils, v', l, vc, u, h, _, hv => by
    simp only [ro, Option.some.injEq, Prod.mk.injEq] at h; obtain ⟨rfl, rfl, rfl⟩ := h; exact ⟨VR.keep (.also _) _ _ hv, fun _ h => by cases h⟩
  | .nilp, v', l, vc, u, h, _, hv => by
    simp only [ro, Option.some.injEq, Prod.mk.injEq] at h; obtain ⟨rfl, rfl, rfl⟩ := h; exact ⟨VR.keep (.also _) _ _ hv, fun _ h => by cases h⟩
  | .nilf, v', l, vc, u, h, _, hv => by
    simp only [ro, Option.some.injEq, Prod.mk.injEq] at h; obtain ⟨rfl, rfl, rfl⟩ := h; exact ⟨VR.keep (.also _) _ _ hv, fun _ h => by cases h⟩
  | .sl nn e xs, v', l, vc, u, h, _, hv => by
    simp only [ro, Option.some.injEq, Prod.mk.injEq] at h; obtain ⟨rfl, rfl, rfl⟩ := h; exact ⟨VR.keep (.also _) _ _ hv, fun _ h => by cases h⟩
  | .pt cs, v', l, vc, u, h, _, hv => by
    simp only [ro, Option.some.injEq, Prod.mk.injEq] at h; obtain ⟨rfl, rfl, rfl⟩ := h; exact ⟨VR.keep (.also _) _ _ hv, fun _ h => by cases h⟩
  | .tup cs, v', l, vc, u, h, _, hv => by
    simp only [ro, Option.some.injEq, Prod.mk.injEq] at h; obtain ⟨rfl, rfl, rfl⟩ := h; exact ⟨VR.keep (.also _) _ _ hv, fun _ h => by cases h⟩
theorem ros_ok (hok : Ok w I σ M) : ∀ (vs vs' : List AV) (l : List Nat) (vc : List (Unit → Prop)) (us : List Value), ros M vs = some (vs', l, vc) → (∀ p ∈ vc, p ()) → VRs w I σ vs us → VRs w (Also I (Lent σ l)) σ vs' us ∧ LentOk M l
  | [], vs', l, vc, us, h, _, hv => by
    simp only [ros, Option.some.injEq, Prod.mk.injEq] at h
    obtain ⟨rfl, rfl, rfl⟩ := h
    exact ⟨VRs.keep (.also _) _ _ hv, fun _ h => by cases h⟩
  | v :: vs, vs', l, vc, us, h, hvc, hv => by
    unfold ros at h
    split at h <;> (try (cases h; done))
    rename_i v1 r1 c1 vs1 r2 c2 h1 h2
    simp only [Option.some.injEq, Prod.mk.injEq] at h
    obtain ⟨rfl, rfl, rfl⟩ := h
    simp only [VRs] at hv
    obtain ⟨u, us', rfl, hu, hv⟩ := hv
    obtain ⟨g1, g2⟩ := ro_ok hok v v1 r1 c1 u h1 (fun p hp => hvc p (List.mem_append_left _ hp)) hu
    obtain ⟨g3, g4⟩ := ros_ok hok vs vs1 r2 c2 us' h2 (fun p hp => hvc p (List.mem_append_right _ hp)) hv
    refine ⟨?_, fun k hk => (List.mem_append.1 hk).elim (g2 k) (g4 k)⟩
    simp only [VRs]
    exact ⟨u, us', rfl, VR.keep (.more fun b ⟨k, hk, r⟩ => ⟨k, List.mem_append_left _ hk, r⟩) _ _ g1, VRs.keep (.more fun b ⟨k, hk, r⟩ => ⟨k, List.mem_append_right _ hk, r⟩) _ _ g3⟩
end
/-! ### freezing -/
theorem nmem_iff (l : List Nat) (n : Nat) : nmem l n = true ↔ n ∈ l := by
  induction l with
  | nil => simp [nmem]
  | cons k ks ih =>
    simp only [nmem]
    split
    · rename_i h; have := Nat.eq_of_beq_eq_true h; simp [this]
    · rename_i h; have := Nat.ne_of_beq_eq_false h; rw [ih]; simp only [List.mem_cons]; exact ⟨.inr, fun h => h.resolve_left fun e => this e.symm⟩
theorem mapply_append : ∀ (us vs : List (Nat × Option MObj)) (M : MS), mapply M (us ++ vs) = mapply (mapply M us) vs
  | [], _, _ => rfl
  | (k, some x) :: us, vs, M => by simp only [List.cons_append, mapply]; exact mapply_append us vs _
  | (k, none) :: us, vs, M => by simp only [List.cons_append, mapply]; exact mapply_append us vs _
theorem mget_freeze (M : MS) : ∀ (l : List Nat) (N : MS) (j : Nat), mget (mapply N (freeze M l)) j = if j ∈ l then (match mget M j with | some (.row nn e xs) => some (.imm nn e xs) | _ => mget N j) else mget N j
  | [], N, j => by simp [freeze, mapply]
  | k :: ks, N, j => by
    unfold freeze
    split
    · rename_i nn e xs hm
      simp only [mapply]
      rw [mget_freeze M ks]
      by_cases h1 : j ∈ ks
      · rw [if_pos h1, if_pos (List.mem_cons_of_mem _ h1)]
        split
        · rfl
        · rename_i hne
          rw [mget_mset, if_neg]
          rintro rfl
          exact hne _ _ _ hm
      · rw [if_neg h1, mget_mset]
        by_cases h2 : k = j
        · subst h2
          rw [if_pos rfl, if_pos List.mem_cons_self, hm]
        · rw [if_neg h2, if_neg]
          intro h3
          rcases List.mem_cons.1 h3 with h3 | h3
          · exact h2 h3.symm
          · exact h1 h3
    · rename_i hm
      rw [mget_freeze M ks]
      by_cases h1 : j ∈ ks
      · rw [if_pos h1, if_pos (List.mem_cons_of_mem _ h1)]
      · rw [if_neg h1]
        by_cases h2 : j = k
        · subst h2
          rw [if_pos List.mem_cons_self]
          split
          · rename_i h; exact (hm _ _ _ h).elim
          · rfl
        · rw [if_neg]
          intro h3
          rcases List.mem_cons.1 h3 with h3 | h3
          · exact h2 h3
          · exact h1 h3
theorem Ok.freeze (hok : Ok w I σ M) {l : List Nat} (hl : LentOk M l) : Ok w (Also I (Lent σ l)) σ (mapply M (Am.freeze M l)) ∧ Ext w I σ M w (Also I (Lent σ l)) σ (mapply M (Am.freeze M l)) ∧ ∀ b, Owned σ (mapply M (Am.freeze M l)) b → Owned σ M b := by
  have K : Keep w I σ w (Also I (Lent σ l)) σ := .also _
  have hown : ∀ b, Owned σ (mapply M (Am.freeze M l)) b → ∃ k x p, k ∉ l ∧ mget M k = some x ∧ owns x ∧ σ k = some (some p) ∧ p.b = b := by
    rintro b ⟨k, x, p, hk, hx, hp, rfl⟩
    rw [mget_freeze] at hk
    split at hk
    · rename_i hkl
      split at hk
      · cases hk; exact hx.elim
      · rename_i hne
        obtain ⟨nn, e, xs, h | h⟩ := hl k hkl
        · exact (hne _ _ _ h).elim
        · rw [h] at hk; cases hk; exact hx.elim
    · rename_i hkl
      exact ⟨k, x, p, hkl, hk, hx, hp, rfl⟩
  have hown' : ∀ b, Owned σ (mapply M (Am.freeze M l)) b → Owned σ M b := fun b hb => by
    obtain ⟨k, x, p, _, r⟩ := hown b hb
    exact ⟨k, x, p, r⟩
  have hlent : ∀ b, Lent σ l b → I b ∨ Owned σ M b := by
    rintro b ⟨k, hk, p, hp, rfl⟩
    obtain ⟨nn, e, xs, h | h⟩ := hl k hk
    · exact .inr ⟨k, _, p, h, trivial, hp, rfl⟩
    · obtain ⟨q, hq, ho⟩ := hok.obj k _ h
      rw [hp] at hq; cases hq
      exact .inl ho.2
  refine ⟨⟨fun b hb => ?_, fun k x hk => ?_, fun b hb hi => ?_, ?_⟩, ⟨rfl, rfl, rfl, Nat.le_refl _, fun _ _ _ => rfl, fun _ h => .inl h, fun b hb => ?_, fun b hb => .inl (hown' b hb), fun _ _ h => h⟩, hown'⟩
  · rcases hb with hb | hb
    · exact hok.lt b hb
    · rcases hlent b hb with h | h
      · exact hok.lt b h
      · exact hok.blk_lt h
  · rw [mget_freeze] at hk
    have gen : ∀ y, mget M k = some y → ∃ p, σ k = some p ∧ OR w (Also I (Lent σ l)) σ p y := fun y hy => by
      obtain ⟨p, hp, ho⟩ := hok.obj k y hy
      exact ⟨p, hp, OR.keep K (fun _ _ => rfl) ho⟩
    split at hk
    · rename_i hkl
      split at hk
      · rename_i nn e xs hm
        cases hk
        obtain ⟨p, hp, ho⟩ := gen _ hm
        refine ⟨p, hp, ?_⟩
        cases p with
        | none => exact ho
        | some q => exact ⟨ho, .inr ⟨k, hkl, q, hp, rfl⟩⟩
      · exact gen _ hk
    · exact gen _ hk
  · obtain ⟨k, x, p, hkl, hm, hx, hp, rfl⟩ := hown b hb
    rcases hi with hi | ⟨k', hk', p', hp', e⟩
    · exact hok.sep _ ⟨k, x, p, hm, hx, hp, rfl⟩ hi
    · obtain ⟨nn, e2, xs, h | h⟩ := hl k' hk'
      · have := hok.inj k k' x _ p p' hm h hx trivial hp hp' e.symm
        subst this
        exact hkl hk'
      · obtain ⟨q, hq, ho⟩ := hok.obj k' _ h
        rw [hp'] at hq; cases hq
        exact hok.sep _ ⟨k, x, p, hm, hx, hp, rfl⟩ (e ▸ ho.2)
  · intro k k' x x' p p' h1 h2 o1 o2 s1 s2 e
    have f : ∀ {j : Nat} {y : MObj}, mget (mapply M (Am.freeze M l)) j = some y → owns y → mget M j = some y := fun {j y} hj hy => by
      rw [mget_freeze] at hj
      split at hj
      · split at hj
        · cases hj; exact hy.elim
        · exact hj
      · exact hj
    exact hok.inj k k' x x' p p' (f h1 o1) (f h2 o2) o1 o2 s1 s2 e
  · rcases hb with hb | hb
    · exact .inl hb
    · rcases hlent b hb with h | h
      · exact .inl h
      · exact .inr (.inl h)
/-- two steps -/
theorem Ext.trans {w'' : World} {I' I'' : Nat → Prop} {σ' σ'' : Sig} {M' M'' : MS} (h : Ext w I σ M w' I' σ' M') (k : Ext w' I' σ' M' w'' I'' σ'' M'') : Ext w I σ M w'' I'' σ'' M'' := by
  refine ⟨k.os.trans h.os, k.tape.trans h.tape, k.output.trans h.output, Nat.le_trans h.size k.size, fun b hb hn => ?_, fun b hb => k.mono b (h.mono b hb), fun b hb => ?_, fun b hb => ?_, fun j p hj => k.sig j p (h.sig j p hj)⟩
  · rw [k.blk b (Nat.lt_of_lt_of_le hb h.size) (fun ho => ?_), h.blk b hb hn]
    rcases h.own b ho with h1 | h1
    · exact hn h1
    · omega
  · rcases k.fresh b hb with h1 | h1 | h1
    · exact h.fresh b h1
    · rcases h.own b h1 with h2 | h2
      · exact .inr (.inl h2)
      · exact .inr (.inr h2)
    · have := h.size; exact .inr (.inr (by omega))
  · rcases k.own b hb with h1 | h1
    · exact h.own b h1
    · have := h.size; exact .inr (by omega)
theorem Post.after {I' : Nat → Prop} {M' M'' : MS} (h : Ext w I σ M w I' σ M') {val : AV} {v : Value} (k : Post w I' σ M' key val M'' v w') : Post w I σ M key val M'' v w' := by
  obtain ⟨I2, σ2, h1, h2, h3, h4⟩ := k
  exact ⟨I2, σ2, h1, h2, h.trans h3, h4⟩
end
end Go.Am
