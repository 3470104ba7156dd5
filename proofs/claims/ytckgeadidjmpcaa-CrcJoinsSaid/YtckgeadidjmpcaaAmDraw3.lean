/- A region that draws its order: on the machine. -/
import Derived.Test.YtckgeadidjmpcaaAmDraw2
namespace Go.Am
set_option linter.all false
set_option linter.deprecated false
section
variable {P : Program} {a : Act} {w w' w0 : World} {I I' I0 : Nat → Prop} {σ σ' σ0 : Sig} {M M' M0 : MS} {T : TT} {G : Ctx}

/-- where the machine stands, but for the free numbers -/
structure Sd (w0 : World) (I0 : Nat → Prop) (σ0 : Sig) (M0 : MS) (s : PS) (a : Act) (w : World) (I : Nat → Prop) (σ : Sig) : Prop where
  envr : EnvR w I σ s.1 a.tmps
  len : s.1.length ≤ a.tmps.size
  ok : Ok w I σ s.2
  ext : Ext w0 I0 σ0 M0 w I σ s.2
  def0 : a.defers = []
theorem Owned.congr {N : MS} (h : ∀ k, mget N k = mget M k) {b : Nat} : Owned σ N b ↔ Owned σ M b :=
  ⟨fun ⟨k, o, p, q, r⟩ => ⟨k, o, p, by rw [← h]; exact q, r⟩, fun ⟨k, o, p, q, r⟩ => ⟨k, o, p, by rw [h]; exact q, r⟩⟩
theorem Ext.congr {N : MS} (h : ∀ k, mget N k = mget M k) (e : Ext w0 I0 σ0 M0 w I σ M) : Ext w0 I0 σ0 M0 w I σ N :=
  ⟨e.os, e.tape, e.output, e.size, e.blk, e.mono, e.fresh, fun b hb => e.own b ((Owned.congr h).1 hb), e.sig⟩
theorem Sd.congr {s s' : PS} (h : Sd w0 I0 σ0 M0 s a w I σ) (hl : s'.1.length = s.1.length) (h1 : ∀ t, lget s'.1 t = lget s.1 t) (h2 : ∀ k, mget s'.2 k = mget s.2 k) : Sd w0 I0 σ0 M0 s' a w I σ :=
  ⟨fun t => by rw [h1]; exact h.envr t, by rw [hl]; exact h.len, h.ok.sub fun k x hk => by rw [← h2]; exact hk, h.ext.congr h2, h.def0⟩
theorem Sd.step {x : Ent} {s : PS} {key : Nat} {v : Value} (h : Sd w0 I0 σ0 M0 s a w I σ) (hp : Post w I σ s.2 key x.val (mapply s.2 x.upd) v w') :
    ∃ I' σ', Sd w0 I0 σ0 M0 (x.app s) (a.put x.dst v) w' I' σ' ∧ ∀ k, σ' k = σ k ∨ (key ≤ k ∧ k < key + 8) := by
  obtain ⟨I', σ', h1, h2, h3, h4⟩ := hp
  have K := h3.keep h.ok
  refine ⟨I', σ', ⟨EnvR.put (fun t => VR.keep K _ _ (h.envr t)) h.len h1, ?_, h2, h.ext.trans h3, by rw [put_defers]; exact h.def0⟩, h4⟩
  show (lset? _ _ _).length ≤ _
  rw [lset?_length, put_size]; exact h.len
theorem Sd.skip {x : Ent} {s : PS} (h : Sd w0 I0 σ0 M0 s a w I σ) (hv : x.val = .udf) (hu : x.upd = []) : Sd w0 I0 σ0 M0 (x.app s) (a.put x.dst undef) w I σ := by
  refine ⟨EnvR.put h.envr h.len (by rw [hv]; simp only [VR]), ?_, by simp only [Ent.app, hu, mapply]; exact h.ok, by simp only [Ent.app, hu, mapply]; exact h.ext, by rw [put_defers]; exact h.def0⟩
  show (lset? _ _ _).length ≤ _
  rw [lset?_length, put_size]; exact h.len
/-- one operation, whenever its turn comes -/
theorem Step.run (hT : ∀ t i, T t = some i → TIok P t i) (hG : ∀ f C, G f = some C → CSound P f C) {all : List Oper} {Q : Exit → Act → World → Prop} {K : Act → World → Prop} {i key : Nat} {o : Oper} {x : Ent} {s : PS}
    (ho : all[i]? = some o) (h : Step T G all key o x s) (hs : Sd w0 I0 σ0 M0 s a w I σ) (hf : ∀ k, key ≤ k → k < key + 8 → σ k = none)
    (hK : ∀ a' w' I' σ', Sd w0 I0 σ0 M0 (x.app s) a' w' I' σ' → a'.tmps.size = a.tmps.size → (∀ k, σ' k = σ k ∨ (key ≤ k ∧ k < key + 8)) → K a' w') : wpOp P all.toArray Q i K a w := by
  have gs : ∀ j want d, o.guard = some (j, want) → gslot all j = some d → Region.wanted o (yielded all.toArray a.tmps) = (yielded all.toArray a.tmps j == some want) := fun j want d q _ => by simp [Region.wanted, q]
  unfold wpOp
  simp only [List.getElem?_toArray, ho]
  obtain ⟨hd, ⟨res, e, hr, hg, ha, hvc, e1, e2, e3⟩ | ⟨⟨j, want, d, q1, q2, q3⟩, e1, e2, e3⟩⟩ := h
  · have hw : Region.wanted o (yielded all.toArray a.tmps) = true := by
      cases hgu : o.guard with
      | none => simp [Region.wanted, hgu]
      | some p =>
        obtain ⟨j, want⟩ := p
        obtain ⟨d, f, q1, q2, q3⟩ := hg j want hgu
        rw [gs j want d hgu q1]
        have hv := hs.envr d
        rw [q2] at hv
        simp only [VR] at hv
        rw [yielded_of q1 hv, q3]
        simp
    rw [if_pos hw]
    refine .inl (aop_ok hT hG hs.ok hs.envr (fun t b hb => ?_) hf ha hvc K Q fun v w' hp => ?_)
    · obtain ⟨f, r1, r2⟩ := hr t b hb
      have hv := hs.envr t
      rw [r1] at hv
      simp only [VR] at hv
      rw [hv, r2]
    · rw [← e1, ← e3] at hp
      obtain ⟨I', σ', g1, g2⟩ := hs.step hp
      rw [← hd]
      exact hK _ _ I' σ' g1 (put_size _ _ _) g2
  · have hw : Region.wanted o (yielded all.toArray a.tmps) = false := by
      rw [gs j want d q1 q2]
      have hv := hs.envr d
      rcases q3 with q3 | ⟨f, q3, q4⟩
      · rw [q3] at hv
        simp only [VR] at hv
        rw [yielded_undef q2 hv]
        rfl
      · rw [q3] at hv
        simp only [VR] at hv
        rw [yielded_of q2 hv]
        simpa using q4
    rw [if_neg (by rw [hw]; simp), ← hd]
    exact hK _ _ I σ (hs.skip e1 e3) (put_size _ _ _) fun _ => .inl rfl

theorem countP_lt {p q : Nat → Bool} : ∀ {l : List Nat}, (∀ x ∈ l, q x = true → p x = true) → (∃ x ∈ l, p x = true ∧ q x = false) → (l.filter q).length < (l.filter p).length
  | [], _, ⟨x, hx, _⟩ => by cases hx
  | y :: l, h, ⟨x, hx, h1, h2⟩ => by
    have hle : ∀ {l : List Nat}, (∀ x ∈ l, q x = true → p x = true) → (l.filter q).length ≤ (l.filter p).length := by
      intro l
      induction l with
      | nil => simp
      | cons z l ih =>
        intro h
        have := ih fun x hx => h x (List.mem_cons_of_mem _ hx)
        have hz := h z List.mem_cons_self
        simp only [List.filter]
        cases hq : q z <;> cases hp : p z <;> simp_all <;> omega
    have hl := fun x hx => h x (List.mem_cons_of_mem _ hx)
    simp only [List.filter]
    rcases List.mem_cons.1 hx with rfl | hx
    · rw [h1, h2]
      have := hle hl
      simp only [List.length_cons]
      omega
    · have := countP_lt hl ⟨x, hx, h1, h2⟩
      have hy := h y List.mem_cons_self
      cases hq : q y <;> cases hp : p y <;> simp_all <;> omega
def dn (listed : Array Bool) (i : Nat) : Bool := listed.getD i false
theorem dn_set {listed : Array Bool} {i : Nat} (hi : i < listed.size) (j : Nat) : dn (listed.setIfInBounds i true) j = (dn listed j || decide (j = i)) := by
  simp only [dn, Array.getD_eq_getD_getElem?]
  by_cases h : i = j
  · subst h
    simp [hi]
  · rw [Array.getElem?_setIfInBounds_ne h]
    have h' : ¬ j = i := fun e => h e.symm
    simp [h']
theorem ready_iff {ops : List Oper} {listed : Array Bool} (hsz : listed.size = ops.length) {i : Nat} : i ∈ Region.ready .any ops.toArray listed ↔ ∃ o, ops[i]? = some o ∧ dn listed i = false ∧ ∀ e ∈ edges o, dn listed e = true := by
  simp only [Region.ready, List.mem_filter, List.mem_range, List.size_toArray, Bool.and_eq_true, Bool.not_eq_true', List.getElem?_toArray]
  constructor
  · rintro ⟨hi, h1, h2⟩
    obtain ⟨o, ho⟩ : ∃ o, ops[i]? = some o := ⟨ops[i], by simp [hi]⟩
    rw [ho] at h2
    simp only [Option.map_some, Option.getD_some, Array.all_eq_true'] at h2
    refine ⟨o, ho, ?_, fun e he => ?_⟩
    · simp only [dn, Array.getD_eq_getD_getElem?] at h1 ⊢
      have : i < listed.size := by omega
      simp [this] at h1 ⊢
      exact h1
    · simp only [edges, List.mem_map, List.mem_filter, Array.mem_toList_iff] at he
      obtain ⟨ed, ⟨hm, hb⟩, rfl⟩ := he
      have := h2 ed hm
      simpa [hb, dn] using this
  · rintro ⟨o, ho, h1, h2⟩
    have hi : i < ops.length := (List.getElem?_eq_some_iff.1 ho).1
    refine ⟨hi, ?_, ?_⟩
    · simp only [dn, Array.getD_eq_getD_getElem?] at h1 ⊢
      have : i < listed.size := by omega
      simp [this] at h1 ⊢
      exact h1
    · rw [ho]
      simp only [Option.map_some, Option.getD_some, Array.all_eq_true']
      intro ed hm
      cases hb : Region.binds .any ed with
      | false => rfl
      | true =>
        have := h2 ed.on (by simp only [edges, List.mem_map, List.mem_filter, Array.mem_toList_iff]; exact ⟨ed, ⟨hm, hb⟩, rfl⟩)
        simpa [dn] using this
theorem clash_of {all : List Oper} {x y : Oper} {d : Nat} (h : x.dst = some d) (h' : d ∈ rslots all y) : clash all x y = true := by
  simp only [clash, h]
  rw [(nmem_iff _ _).2 h']
  rfl
theorem clash_of' {all : List Oper} {x y : Oper} {d : Nat} (h : y.dst = some d) (h' : d ∈ rslots all x) : clash all x y = true := by
  simp only [clash, h]
  rw [(nmem_iff _ _).2 h']
  simp
theorem clash_dst {all : List Oper} {x y : Oper} {d : Nat} (h : x.dst = some d) (h' : y.dst = some d) : clash all x y = true := by
  simp only [clash, h, h', Nat.beq_refl]
  simp

theorem wpAny_plan (hT : ∀ t i, T t = some i → TIok P t i) (hG : ∀ f C, G f = some C → CSound P f C) {ops : List Oper} {base : Nat} {Q : Exit → Act → World → Prop} {xs : List Ent} {s0 : PS}
    (he : edgesOk ops = true) (hsl : slotsOk ops = true) (hlog : okLog ops (logX xs 0 []) = true) (hlen : xs.length = ops.length)
    (hplan : ∀ j o x, ops[j]? = some o → xs[j]? = some x → Step T G ops (base + 8 * j) o x (runS (fun _ => true) (xs.take j) 0 s0))
    (hQ : ∀ a' w' I' σ', Sd w0 I0 σ0 M0 (runS (fun _ => true) xs 0 s0) a' w' I' σ' → (∀ k, base + 8 * ops.length ≤ k → σ' k = none) → Q .normal a' w') :
    ∀ (fuel : Nat) (listed : Array Bool) (a : Act) (w : World) (I : Nat → Prop) (σ : Sig), listed.size = ops.length → ((List.range ops.length).filter fun i => !dn listed i).length ≤ fuel →
      Closed ops (dn listed) → Sd w0 I0 σ0 M0 (runS (dn listed) xs 0 s0) a w I σ → (∀ k, base ≤ k → (∀ i, i < ops.length → dn listed i = true → ¬ (base + 8 * i ≤ k ∧ k < base + 8 * i + 8)) → σ k = none) →
      wpAny P .any ops.toArray Q fuel listed a w := by
  have fin : ∀ (listed : Array Bool) (a : Act) (w : World) (I : Nat → Prop) (σ : Sig), listed.size = ops.length → 
      Sd w0 I0 σ0 M0 (runS (dn listed) xs 0 s0) a w I σ → (∀ k, base ≤ k → (∀ i, i < ops.length → dn listed i = true → ¬ (base + 8 * i ≤ k ∧ k < base + 8 * i + 8)) → σ k = none) → 
      (∀ i, i < ops.length → dn listed i = true) → Q .normal a w := by
    intro listed a w I σ hsz hs hf hall
    rw [runS_all (S' := fun _ => true) xs 0 s0 (fun j hj => by rw [Nat.zero_add]; exact hall j (by omega))] at hs
    exact hQ a w I σ hs fun k hk => hf k (by omega) fun i hi _ => by omega
  have allOf : ∀ (listed : Array Bool), listed.size = ops.length → Region.ready .any ops.toArray listed = [] → ∀ i, i < ops.length → dn listed i = true := by
    intro listed hsz hr i
    induction i using Nat.strongRecOn with
    | _ i ih =>
      intro hi
      cases hd : dn listed i with
      | true => rfl
      | false =>
        have ho : ops[i]? = some ops[i] := by simp [hi]
        have : i ∈ Region.ready .any ops.toArray listed := (ready_iff hsz).2 ⟨_, ho, hd, fun e hm => ih e (edgesOk_iff he ho e hm) (by have := edgesOk_iff he ho e hm; omega)⟩
        rw [hr] at this
        cases this
  intro fuel
  induction fuel with
  | zero =>
    intro listed a w I σ hsz hcnt hcl hs hf
    have hall : ∀ i, i < ops.length → dn listed i = true := by
      intro i hi
      cases hd : dn listed i with
      | true => rfl
      | false =>
        have hm : i ∈ (List.range ops.length).filter fun i => !dn listed i := by simp [hi, hd]
        have := List.length_pos_of_mem hm
        omega
    refine ⟨?_, fin listed a w I σ hsz hs hf hall⟩
    cases hr : Region.ready .any ops.toArray listed with
    | nil => rfl
    | cons i l =>
      have : i ∈ Region.ready .any ops.toArray listed := by rw [hr]; exact List.mem_cons_self
      obtain ⟨o, ho, h1, _⟩ := (ready_iff hsz).1 this
      rw [hall i (List.getElem?_eq_some_iff.1 ho).1] at h1
      cases h1
  | succ fuel ih =>
    intro listed a w I σ hsz hcnt hcl hs hf
    refine ⟨fun hr => fin listed a w I σ hsz hs hf (allOf listed hsz hr), fun i hi => ?_⟩
    obtain ⟨o, ho, hd, hpre⟩ := (ready_iff hsz).1 hi
    have hil : i < ops.length := (List.getElem?_eq_some_iff.1 ho).1
    obtain ⟨x, hx⟩ : ∃ x, xs[i]? = some x := ⟨xs[i], by simp [hlen, hil]⟩
    have dstOf : ∀ (j : Nat) (y : Ent) (o' : Oper), xs[j]? = some y → ops[j]? = some o' → y.dst = o'.dst := fun j y o' h1 h2 => (hplan j o' y h2 h1).1
    have opOf : ∀ (j : Nat) (y : Ent), xs[j]? = some y → ∃ o', ops[j]? = some o' := fun j y h => ⟨ops[j]'(by have := (List.getElem?_eq_some_iff.1 h).1; omega), by simp⟩
    -- what must come ahead of it has come, what must follow has not
    have ahead : ∀ j, nmem (anc ops i) j = true → j = i ∨ dn listed j = true := fun j hj => anc_closed hcl (fun o' ho' e hm => by rw [ho] at ho'; cases ho'; exact hpre e hm) hj
    have behind : ∀ j, dn listed j = true → nmem (anc ops j) i = true → j = i := fun j hj hn => by
      rcases anc_closed (j := j) hcl (fun o' ho' => hcl j o' ho' hj) hn with h | h
      · exact h.symm
      · rw [hd] at h; cases h
    have clashed : ∀ (j : Nat) (y : Ent) (o' : Oper), xs[j]? = some y → ops[j]? = some o' → j ≠ i → (j < i → clash ops o' o = true) → (i < j → clash ops o o' = true) → dn listed j = decide (j < i) := by
      intro j y o' hj ho' hne c1 c2
      by_cases hlt : j < i
      · rcases ahead j (slotsOk_iff hsl ho' ho hlt (c1 hlt)) with h | h
        · exact (hne h).elim
        · rw [h]; simp [hlt]
      · cases hS : dn listed j with
        | false => simp [hlt]
        | true => exact (hne (behind j hS (slotsOk_iff hsl ho ho' (by omega) (c2 (by omega))))).elim
    have keyed : ∀ (j : Nat) (y : Ent), xs[j]? = some y → j ≠ i → ¬ apartL (if j < i then (i, x.rd, ukeys x.upd) else (j, y.rd, ukeys y.upd)) (if j < i then (j, y.rd, ukeys y.upd) else (i, x.rd, ukeys x.upd)) → dn listed j = decide (j < i) := by
      intro j y hj hne hap
      by_cases hlt : j < i
      · rw [if_pos hlt, if_pos hlt] at hap
        have := logX_pair xs 0 [] hlog j i y x hj hx hlt
        simp only [Nat.zero_add] at this
        rcases this with h | h | h
        · exact (hap h).elim
        · have hlow : i ≤ j := by
            obtain ⟨o', ho'⟩ := opOf j y hj
            have hc : Closed ops (fun e => decide (e < j)) := fun i' o2 ho2 h2 e hm => by
              have := edgesOk_iff he ho2 e hm
              simp at h2 ⊢; omega
            rcases anc_closed (j := j) hc (fun o2 ho2 e hm => by have := edgesOk_iff he ho2 e hm; simpa using this) h with h | h
            · omega
            · simp at h; omega
          omega
        · rcases ahead j h with h | h
          · exact (hne h).elim
          · rw [h]; simp [hlt]
      · rw [if_neg hlt, if_neg hlt] at hap
        have := logX_pair xs 0 [] hlog i j x y hx hj (by omega)
        simp only [Nat.zero_add] at this
        cases hS : dn listed j with
        | false => simp [hlt]
        | true =>
          rcases this with h | h | h
          · exact (hap h).elim
          · rcases ahead j h with h | h
            · exact (hne h).elim
            · have hc : Closed ops (fun e => decide (e < i)) := fun i' o2 ho2 h2 e hm => by
                have := edgesOk_iff he ho2 e hm
                simp at h2 ⊢; omega
              rcases anc_closed (j := i) hc (fun o2 ho2 e hm => by have := edgesOk_iff he ho2 e hm; simpa using this) ‹_› with h | h
              · omega
              · simp at h; omega
          · exact (hne (behind j hS h)).elim
    have hst : Step T G ops (base + 8 * i) o x (runS (dn listed) xs 0 s0) := by
      have h0 := hplan i o x ho hx
      rw [runS_take] at h0
      refine h0.move (fun t ht => ?_) fun k hk => ?_
      · refine runS_slot xs 0 _ _ rfl rfl fun j y hj hy => ?_
        rw [Nat.zero_add]
        by_cases hji : j = i
        · subst hji; rw [hd]; simp
        · obtain ⟨o', ho'⟩ := opOf j y hj
          have hdo := dstOf j y o' hj ho'
          rw [hdo] at hy
          exact clashed j y o' hj ho' hji (fun _ => clash_of hy ht) fun _ => clash_of' hy ht
      · refine runS_key xs 0 _ _ rfl fun j y hj hy => ?_
        rw [Nat.zero_add]
        by_cases hji : j = i
        · subst hji; rw [hd]; simp
        · refine keyed j y hj hji fun hap => ?_
          by_cases hlt : j < i
          · rw [if_pos hlt, if_pos hlt] at hap
            exact hap.2 k hy hk
          · rw [if_neg hlt, if_neg hlt] at hap
            exact (hap.1 k hy).1 hk
    refine Step.run hT hG ho hst hs (fun k h1 h2 => ?_) fun a' w' I' σ' hs' hsize hσ => ?_
    · refine hf k (by omega) fun j hj hS hjk => ?_
      have : j = i := by omega
      subst this
      rw [hd] at hS; cases hS
    · obtain ⟨r1, r2⟩ := runS_add (s := s0) hx hd (fun j y hj hij hS t h1 h2 => by
        obtain ⟨o', ho'⟩ := opOf j y hj
        have q1 := dstOf j y o' hj ho'
        have q2 := dstOf i x o hx ho
        rw [q1] at h2
        rw [q2] at h1
        have := behind j hS (slotsOk_iff hsl ho ho' hij (clash_dst h1 h2))
        omega) fun j y hj hij hS k h1 h2 => by
          have := keyed j y hj (by omega) fun hap => by
            rw [if_neg (by omega), if_neg (by omega)] at hap
            exact (hap.1 k h2).2 h1
          rw [hS] at this
          simp at this
          omega
      have hdn : dn (listed.setIfInBounds i true) = fun j => dn listed j || decide (j = i) := funext fun j => dn_set (by omega) j
      have hS' : ∀ j, dn (listed.setIfInBounds i true) j = true ↔ (dn listed j = true ∨ j = i) := fun j => by rw [hdn]; simp
      refine ih (listed.setIfInBounds i true) a' w' I' σ' (by simp [hsz]) ?_ ?_ ?_ ?_
      · have := countP_lt (l := List.range ops.length) (p := fun j => !dn listed j) (q := fun j => !dn (listed.setIfInBounds i true) j) (fun j _ hj => by
          rw [hdn] at hj
          simp at hj ⊢
          exact hj.1) ⟨i, by simp [hil], by simp [hd], by rw [hdn]; simp⟩
        omega
      · intro j o' ho' hj e hm
        rcases (hS' j).1 hj with h | rfl
        · exact (hS' e).2 (.inl (hcl j o' ho' h e hm))
        · rw [ho] at ho'
          cases ho'
          exact (hS' e).2 (.inl (hpre e hm))
      · rw [hdn]
        exact hs'.congr (by rw [runS_len]; simp [Ent.app, lset?_length, runS_len]) r1 r2
      · intro k hk hno
        rcases hσ k with h | h
        · rw [h]
          exact hf k hk fun j hj hjS => hno j hj ((hS' j).2 (.inl hjS))
        · exact (hno i hil ((hS' i).2 (.inr rfl)) h).elim
end
end Go.Am
