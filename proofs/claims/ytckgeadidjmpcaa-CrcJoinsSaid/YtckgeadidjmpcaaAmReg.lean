/- Regions in the order of the text. -/
import Derived.Test.YtckgeadidjmpcaaAmNop
namespace Go.Am
set_option linter.all false
set_option linter.deprecated false
section
variable {P : Program} {o : Oper} {a : Act} {w w' w0 : World} {I I' I0 : Nat → Prop} {σ σ' τ σ0 : Sig} {M M' M0 : MS} {key nx : Nat} {env : List AV} {T : TT} {G : Ctx} {res : List (Nat × Bool)}

/-- the machine stands where the symbolic state says -/
structure St (w0 : World) (I0 : Nat → Prop) (σ0 : Sig) (M0 : MS) (env : List AV) (M : MS) (nx : Nat) (a : Act) (w : World) (I : Nat → Prop) (σ : Sig) : Prop where
  envr : EnvR w I σ env a.tmps
  len : env.length ≤ a.tmps.size
  ok : Ok w I σ M
  free : ∀ k, nx ≤ k → σ k = none
  ext : Ext w0 I0 σ0 M0 w I σ M
  def0 : a.defers = []
theorem Ext.keep (hok : Ok w I σ M) (h : Ext w I σ M w' I' σ' M') : Keep w I σ w' I' σ' :=
  ⟨fun b hb => h.blk b (hok.lt b hb) fun ho => hok.sep b ho hb, h.mono, h.sig⟩
theorem lset?_get (env : List AV) (d : Option Nat) (v : AV) (t : Nat) : lget (lset? env d v) t = if d = some t ∧ t < env.length then v else lget env t := by
  cases d with
  | none => rw [if_neg (by simp)]; rfl
  | some d =>
    simp only [lset?, lset_eq, lget_eq, List.getD, Option.some.injEq]
    by_cases h : d = t
    · subst h
      by_cases hl : d < env.length
      · rw [if_pos ⟨rfl, hl⟩]; simp [hl]
      · rw [if_neg (by omega)]; simp [hl]
    · rw [if_neg (fun q => h q.1), List.getElem?_set_ne h]
theorem put_get (a : Act) (d : Option Nat) (v : Value) (t : Nat) : (a.put d v).tmps.getD t undef = if d = some t ∧ t < a.tmps.size then v else a.tmps.getD t undef := by
  cases d with
  | none => rw [if_neg (by simp)]; rfl
  | some d =>
    simp only [Act.put, Option.some.injEq]
    simp only [Array.getD_eq_getD_getElem?]
    by_cases h : d = t
    · subst h
      by_cases hl : d < a.tmps.size
      · rw [if_pos ⟨rfl, hl⟩, Array.getElem?_setIfInBounds_self_of_lt hl]; rfl
      · rw [if_neg (by omega), Array.setIfInBounds_eq_of_size_le (by omega)]
    · rw [if_neg (fun q => h q.1), Array.getElem?_setIfInBounds_ne h]
theorem EnvR.put (h : EnvR w I σ env a.tmps) (hl : env.length ≤ a.tmps.size) {d : Option Nat} {x : AV} {v : Value} (hv : VR w I σ x v) : EnvR w I σ (lset? env d x) (a.put d v).tmps := by
  intro t
  rw [lset?_get, put_get]
  by_cases h1 : d = some t ∧ t < env.length
  · rw [if_pos h1, if_pos ⟨h1.1, by omega⟩]; exact hv
  · rw [if_neg h1]
    by_cases h2 : d = some t ∧ t < a.tmps.size
    · have : lget env t = .un := by
        have : ¬ t < env.length := fun h => h1 ⟨h2.1, h⟩
        rw [lget_eq, List.getD, List.getElem?_eq_none (by omega)]
        rfl
      rw [this]
      simp only [VR]
    · rw [if_neg h2]; exact h t
theorem lset?_length (env : List AV) (d : Option Nat) (v : AV) : (lset? env d v).length = env.length := by
  cases d with
  | none => rfl
  | some d => exact lset_length _ _ _
theorem put_size (a : Act) (d : Option Nat) (v : Value) : (a.put d v).tmps.size = a.tmps.size := by
  cases d with
  | none => rfl
  | some d => simp [Act.put]
theorem put_defers (a : Act) (d : Option Nat) (v : Value) : (a.put d v).defers = a.defers := by cases d <;> rfl
def ResOk (res : List (Nat × Bool)) (tmps : Array Value) : Prop := ∀ s b, rget res s = some b → tmps.getD s undef = .bool b
theorem rget_rdel (res : List (Nat × Bool)) (d : Option Nat) (s : Nat) : rget (rdel res d) s = if d = some s then none else rget res s := by
  cases d with
  | none => rw [if_neg (by simp)]; cases res <;> rfl
  | some d =>
    simp only [Option.some.injEq]
    induction res with
    | nil => simp [rdel, rget]
    | cons p res ih =>
      obtain ⟨k, b⟩ := p
      simp only [rdel]
      split
      · rename_i h
        have h := Nat.eq_of_beq_eq_true h
        subst h
        rw [ih]
        by_cases hs : k = s
        · rw [if_pos hs, if_pos hs]
        · rw [if_neg hs, if_neg hs]
          simp only [rget]
          split
          · rename_i h2; exact (hs (Nat.eq_of_beq_eq_true h2)).elim
          · rfl
      · rename_i h
        have h := Nat.ne_of_beq_eq_false h
        simp only [rget]
        split
        · rename_i h2
          have h2 := Nat.eq_of_beq_eq_true h2
          subst h2
          rw [if_neg (fun e => h e.symm)]
        · exact ih
theorem ResOk.put (h : ResOk res a.tmps) (d : Option Nat) (v : Value) : ResOk (rdel res d) (a.put d v).tmps := by
  intro s b hb
  rw [rget_rdel] at hb
  split at hb
  · cases hb
  · rename_i hd
    rw [put_get, if_neg (fun q => hd q.1)]
    exact h s b hb
theorem ResOk.cons (h : ResOk res a.tmps) {d : Nat} {b : Bool} (hd : a.tmps.getD d undef = .bool b) : ResOk ((d, b) :: res) a.tmps := by
  intro s b' hb
  simp only [rget] at hb
  split at hb
  · rename_i h1
    have h1 := Nat.eq_of_beq_eq_true h1
    subst h1
    cases hb
    exact hd
  · exact h s b' hb
/-- what follows one operation -/
theorem St.step {M1 : MS} {val : AV} {v : Value} (h : St w0 I0 σ0 M0 env M key a w I σ) (d : Option Nat) (hp : Post w I σ M key val M1 v w') : ∃ I' σ', St w0 I0 σ0 M0 (lset? env d val) M1 (key + 8) (a.put d v) w' I' σ' := by
  obtain ⟨I', σ', h1, h2, h3, h4⟩ := hp
  have K := h3.keep h.ok
  refine ⟨I', σ', ⟨EnvR.put (fun t => VR.keep K _ _ (h.envr t)) h.len h1, ?_, h2, fun k hk => ?_, h.ext.trans h3, by rw [put_defers]; exact h.def0⟩⟩
  · rw [lset?_length, put_size]; exact h.len
  · rcases h4 k with h5 | h5
    · rw [h5]; exact h.free k (by omega)
    · omega
theorem St.skip (h : St w0 I0 σ0 M0 env M key a w I σ) (d : Option Nat) {n : Nat} (hn : key ≤ n) : St w0 I0 σ0 M0 (lset? env d .udf) M n (a.put d undef) w I σ :=
  ⟨EnvR.put h.envr h.len (by simp only [VR]), by rw [lset?_length, put_size]; exact h.len, h.ok, fun k hk => h.free k (by omega), h.ext, by rw [put_defers]; exact h.def0⟩
theorem vcs_iff : ∀ (l : List (Unit → Prop)) (r : Prop), vcs l r → (∀ p ∈ l, p ()) ∧ r
  | [], r, h => ⟨fun _ h => (by cases h), h⟩
  | p :: ps, r, h => by
    obtain ⟨h1, h2⟩ := vcs_iff ps r h.2
    obtain ⟨h0⟩ := h.1
    refine ⟨fun q hq => ?_, h2⟩
    rcases List.mem_cons.1 hq with rfl | hq
    · exact h0
    · exact h1 q hq
theorem yielded_of {ops : List Oper} {tmps : Array Value} {j d : Nat} {b : Bool} (hd : gslot ops j = some d) (h : tmps.getD d undef = .bool b) : yielded ops.toArray tmps j = some b := by
  unfold gslot at hd
  split at hd <;> (try (cases hd; done))
  rename_i o ho
  have h1 : tmps[d]? = some (.bool b) := by
    rw [Array.getD_eq_getD_getElem?] at h
    cases h2 : tmps[d]? with
    | none => rw [h2] at h; cases h
    | some x => rw [h2] at h; simp at h; rw [h]
  simp [yielded, ho, hd, h1]
theorem yielded_undef {ops : List Oper} {tmps : Array Value} {j d : Nat} (hd : gslot ops j = some d) (h : tmps.getD d undef = undef) : yielded ops.toArray tmps j = none := by
  unfold gslot at hd
  split at hd <;> (try (cases hd; done))
  rename_i o ho
  simp only [yielded, List.getElem?_toArray, ho, Option.bind_some, hd]
  rw [Array.getD_eq_getD_getElem?] at h
  cases h2 : tmps[d]? with
  | none => rfl
  | some x => rw [h2] at h; simp at h; subst h; rfl
theorem beqB_iff (b want : Bool) : beqB b want = (b == want) := by cases b <;> cases want <;> rfl

/-- A region, one operation behind the other: what is shown of the symbolic state holds of the machine. 'R': the region's own loop (in the text's order here). -/
theorem wopsN_seq (hT : ∀ t i, T t = some i → TIok P t i) (hG : ∀ f C, G f = some C → CSound P f C) {all : List Oper} {base : Nat} {Q : Exit → Act → World → Prop} {K : RS → Prop} :
    ∀ (os : List Oper) (i : Nat) (r : RS) (a : Act) (w : World) (I : Nat → Prop) (σ : Sig), wopsN T G all base os i r K → St w0 I0 σ0 M0 r.env r.M (base + 8 * i) a w I σ → ResOk r.res a.tmps →
      (∀ r' a' w' I' σ', K r' → St w0 I0 σ0 M0 r'.env r'.M (base + 8 * (i + os.length)) a' w' I' σ' → Q .normal a' w') → wpList P all.toArray Q os a w
  | [], i, r, a, w, I, σ, h, hs, _, hQ => hQ r a w I σ h (by simpa using hs)
  | o :: os, i, r, a, w, I, σ, h, hs, hres, hQ => by
    have hQ' : ∀ r' a' w' I' σ', K r' → St w0 I0 σ0 M0 r'.env r'.M (base + 8 * (i + 1 + os.length)) a' w' I' σ' → Q .normal a' w' := fun r' a' w' I' σ' hk hst => hQ r' a' w' I' σ' hk (by
      rw [show i + (o :: os).length = i + 1 + os.length by simp; omega]; exact hst)
    have run : ∀ (r : RS), St w0 I0 σ0 M0 r.env r.M (base + 8 * i) a w I σ → ResOk r.res a.tmps → wopN T G i base o r (fun r => wopsN T G all base os (i + 1) r K) → o.wp P a w (wpList P all.toArray Q os) Q := by
      intro r hs hres hw
      unfold wopN at hw
      split at hw
      · rename_i e he
        obtain ⟨hvc, hw⟩ := vcs_iff _ _ hw
        refine aop_ok hT hG hs.ok hs.envr hres (fun k hk _ => hs.free k hk) he hvc _ _ fun v w' hp => ?_
        obtain ⟨I', σ', hs'⟩ := hs.step o.dst hp
        exact wopsN_seq hT hG os (i + 1) _ _ _ I' σ' hw (by rw [show base + 8 * (i + 1) = base + 8 * i + 8 by omega]; exact hs') (hres.put _ _) hQ'
      · split at hw
        · exact hw.elim
        · rename_i n hn
          obtain ⟨hvc, hw⟩ := vcs_iff _ _ hw
          refine nop_ok hT hG hs.ok hs.envr (fun k hk _ => hs.free k hk) hn hvc _ _ fun v w' hp => ?_
          obtain ⟨d, hd, hp⟩ := hp
          have hw := hw d hd
          split at hw
          · exact hw.elim
          · rename_i e he
            obtain ⟨I', σ', hs'⟩ := hs.step o.dst (hp e he)
            exact wopsN_seq hT hG os (i + 1) _ _ _ I' σ' hw (by rw [show base + 8 * (i + 1) = base + 8 * i + 8 by omega]; exact hs') (hres.put _ _) hQ'
    have skip : ∀ (r : RS), St w0 I0 σ0 M0 r.env r.M (base + 8 * i) a w I σ → ResOk r.res a.tmps → wopsN T G all base os (i + 1) (skipR o r) K → wpList P all.toArray Q os (a.put o.dst undef) w := by
      intro r hs hres hw
      exact wopsN_seq hT hG os (i + 1) _ _ _ I σ hw (hs.skip o.dst (by omega)) (hres.put _ _) hQ'
    unfold wopsN at h
    unfold wpList
    split at h
    · rename_i hg
      rw [if_pos (by simp [Region.wanted, hg])]
      exact .inl (run r hs hres h)
    · rename_i j want hg
      split at h
      · exact h.elim
      · rename_i d hd
        have hw : Region.wanted o (yielded all.toArray a.tmps) = (yielded all.toArray a.tmps j == some want) := by simp [Region.wanted, hg]
        rw [hw]
        split at h
        · rename_i b hb
          rw [yielded_of hd (hres d b hb)]
          have e1 : ((some b : Option Bool) == some want) = beqB b want := by rw [beqB_iff]; rfl
          rw [e1]
          split at h
          · rename_i hbb
            rw [if_pos hbb]
            exact .inl (run r hs hres h)
          · rename_i hbb
            rw [if_neg (by simp [hbb])]
            exact skip r hs hres h
        · split at h
          · rename_i f hf
            have hv := hs.envr d
            rw [hf] at hv
            simp only [VR] at hv
            rw [yielded_of hd hv]
            have e1 : ((some (f ()) : Option Bool) == some want) = (f () == want) := rfl
            rw [e1]
            split at h
            · cases hfv : f () with
              | true =>
                rw [if_pos (by simp)]
                exact .inl (run ⟨r.env, r.M, (d, true) :: r.res, []⟩ hs (hres.cons (by rw [hv, hfv])) (h.t hfv))
              | false =>
                rw [if_neg (by simp)]
                exact skip ⟨r.env, r.M, (d, false) :: r.res, []⟩ hs (hres.cons (by rw [hv, hfv])) (h.f hfv)
            · cases hfv : f () with
              | true =>
                rw [if_neg (by simp)]
                exact skip ⟨r.env, r.M, (d, true) :: r.res, []⟩ hs (hres.cons (by rw [hv, hfv])) (h.t hfv)
              | false =>
                rw [if_pos (by simp)]
                exact .inl (run ⟨r.env, r.M, (d, false) :: r.res, []⟩ hs (hres.cons (by rw [hv, hfv])) (h.f hfv))
          · rename_i hf
            have hv := hs.envr d
            rw [hf] at hv
            simp only [VR] at hv
            rw [yielded_undef hd hv, if_neg (by simp)]
            exact skip r hs hres h
          · exact h.elim
end
end Go.Am
