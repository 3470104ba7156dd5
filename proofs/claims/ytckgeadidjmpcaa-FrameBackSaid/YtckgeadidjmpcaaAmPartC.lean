/- A region that draws its order: on the machine. -/
import Derived.Test.YtckgeadidjmpcaaAmPartB
import Derived.Deep.LoopGhost
import Derived.Below
import Derived.RowKit
import Derived.WalkKit
import Derived.ProofKit
import Derived.OpenShut
import Derived.ShutString
import Derived.ChangeOld
import Derived.Lib.MakeNoZero
import Derived.Laws.Externs
import Derived.Test.YtckgeadidjmpcaaProg
namespace Go.Am
set_option linter.all false
set_option linter.deprecated false
section
variable {ds : List Deferred} {P : Program} {a : Act} {w w' w0 : World} {I I' I0 : Nat → Prop} {σ σ' σ0 : Sig} {M M' M0 : MS} {T : TT} {G : Ctx}

/-- where the machine stands, but for the free numbers -/
structure Sd (ds : List Deferred) (w0 : World) (I0 : Nat → Prop) (σ0 : Sig) (M0 : MS) (s : PS) (a : Act) (w : World) (I : Nat → Prop) (σ : Sig) : Prop where
  envr : EnvR w I σ s.1 a.tmps
  len : s.1.length ≤ a.tmps.size
  ok : Ok w I σ s.2
  ext : Ext w0 I0 σ0 M0 w I σ s.2
  def0 : a.defers = ds
theorem Owned.congr {N : MS} (h : ∀ k, mget N k = mget M k) {b : Nat} : Owned σ N b ↔ Owned σ M b :=
  ⟨fun ⟨k, o, p, q, r⟩ => ⟨k, o, p, by rw [← h]; exact q, r⟩, fun ⟨k, o, p, q, r⟩ => ⟨k, o, p, by rw [h]; exact q, r⟩⟩
theorem Ext.congr {N : MS} (h : ∀ k, mget N k = mget M k) (e : Ext w0 I0 σ0 M0 w I σ M) : Ext w0 I0 σ0 M0 w I σ N :=
  ⟨e.os, e.tape, e.output, e.size, e.blk, e.mono, e.fresh, fun b hb => e.own b ((Owned.congr h).1 hb), e.sig⟩
theorem Sd.congr {s s' : PS} (h : Sd ds w0 I0 σ0 M0 s a w I σ) (hl : s'.1.length = s.1.length) (h1 : ∀ t, lget s'.1 t = lget s.1 t) (h2 : ∀ k, mget s'.2 k = mget s.2 k) : Sd ds w0 I0 σ0 M0 s' a w I σ :=
  ⟨fun t => by rw [h1]; exact h.envr t, by rw [hl]; exact h.len, h.ok.sub fun k x hk => by rw [← h2]; exact hk, h.ext.congr h2, h.def0⟩
theorem Sd.step {x : Ent} {s : PS} {key : Nat} {v : Value} (h : Sd ds w0 I0 σ0 M0 s a w I σ) (hp : Post w I σ s.2 key x.val (mapply s.2 x.upd) v w') :
    ∃ I' σ', Sd ds w0 I0 σ0 M0 (x.app s) (a.put x.dst v) w' I' σ' ∧ ∀ k, σ' k = σ k ∨ (key ≤ k ∧ k < key + 8) := by
  obtain ⟨I', σ', h1, h2, h3, h4⟩ := hp
  have K := h3.keep h.ok
  refine ⟨I', σ', ⟨EnvR.put (fun t => VR.keep K _ _ (h.envr t)) h.len h1, ?_, h2, h.ext.trans h3, by rw [put_defers]; exact h.def0⟩, h4⟩
  show (lset? _ _ _).length ≤ _
  rw [lset?_length, put_size]; exact h.len
theorem Sd.skip {x : Ent} {s : PS} (h : Sd ds w0 I0 σ0 M0 s a w I σ) (hv : x.val = .udf) (hu : x.upd = []) : Sd ds w0 I0 σ0 M0 (x.app s) (a.put x.dst undef) w I σ := by
  refine ⟨EnvR.put h.envr h.len (by rw [hv]; simp only [VR]), ?_, by simp only [Ent.app, hu, mapply]; exact h.ok, by simp only [Ent.app, hu, mapply]; exact h.ext, by rw [put_defers]; exact h.def0⟩
  show (lset? _ _ _).length ≤ _
  rw [lset?_length, put_size]; exact h.len
/-- one operation, whenever its turn comes -/
theorem Step.run (hT : ∀ t i, T t = some i → TIok P t i) (hG : ∀ f C, G f = some C → CSound P f C) {all : List Oper} {Q : Exit → Act → World → Prop} {K : Act → World → Prop} {i key : Nat} {o : Oper} {x : Ent} {s : PS}
    (ho : all[i]? = some o) (h : Step T G all key o x s) (hs : Sd ds w0 I0 σ0 M0 s a w I σ) (hf : ∀ k, key ≤ k → k < key + 8 → σ k = none)
    (hK : ∀ a' w' I' σ', Sd ds w0 I0 σ0 M0 (x.app s) a' w' I' σ' → a'.tmps.size = a.tmps.size → (∀ k, σ' k = σ k ∨ (key ≤ k ∧ k < key + 8)) → K a' w') : wpOp P all.toArray Q i K a w := by
  have gs : ∀ j want d, o.guard = some (j, want) → gslot all j = some d → Region.wanted o (yielded all.toArray a.tmps) = (yielded all.toArray a.tmps j == some want) := fun j want d q _ => by simp [Region.wanted, q]
  unfold wpOp
  simp only [List.getElem?_toArray, ho]
  obtain ⟨hd, ⟨res, e, hr, hg, ha, hvc, e1, e2, e3⟩ | ⟨⟨j, want, d, q1, q2, q3⟩, e1, e2, e3⟩⟩ := h
  · have hw : Region.wanted o (yielded all.toArray a.tmps) = true := by
      cases hgu : o.guard with
      | none => simp [Region.wanted, hgu]
      | some p =>
        obtain ⟨j, want⟩ := p
        obtain ⟨d, f, q1, q2, q3⟩ := hg j want hgu
        rw [gs j want d hgu q1]
        have hv := hs.envr d
        rw [q2] at hv
        simp only [VR] at hv
        rw [yielded_of q1 hv, q3]
        simp
    rw [if_pos hw]
    refine .inl (aop_ok hT hG hs.ok hs.envr (fun t b hb => ?_) hf ha hvc K Q fun v w' hp => ?_)
    · obtain ⟨f, r1, r2⟩ := hr t b hb
      have hv := hs.envr t
      rw [r1] at hv
      simp only [VR] at hv
      rw [hv, r2]
    · rw [← e1, ← e3] at hp
      obtain ⟨I', σ', g1, g2⟩ := hs.step hp
      rw [← hd]
      exact hK _ _ I' σ' g1 (put_size _ _ _) g2
  · have hw : Region.wanted o (yielded all.toArray a.tmps) = false := by
      rw [gs j want d q1 q2]
      have hv := hs.envr d
      rcases q3 with q3 | ⟨f, q3, q4⟩
      · rw [q3] at hv
        simp only [VR] at hv
        rw [yielded_undef q2 hv]
        rfl
      · rw [q3] at hv
        simp only [VR] at hv
        rw [yielded_of q2 hv]
        simpa using q4
    rw [if_neg (by rw [hw]; simp), ← hd]
    exact hK _ _ I σ (hs.skip e1 e3) (put_size _ _ _) fun _ => .inl rfl

theorem countP_lt {p q : Nat → Bool} : ∀ {l : List Nat}, (∀ x ∈ l, q x = true → p x = true) → (∃ x ∈ l, p x = true ∧ q x = false) → (l.filter q).length < (l.filter p).length
  | [], _, ⟨x, hx, _⟩ => by cases hx
  | y :: l, h, ⟨x, hx, h1, h2⟩ => by
    have hle : ∀ {l : List Nat}, (∀ x ∈ l, q x = true → p x = true) → (l.filter q).length ≤ (l.filter p).length := by
      intro l
      induction l with
      | nil => simp
      | cons z l ih =>
        intro h
        have := ih fun x hx => h x (List.mem_cons_of_mem _ hx)
        have hz := h z List.mem_cons_self
        simp only [List.filter]
        cases hq : q z <;> cases hp : p z <;> simp_all <;> omega
    have hl := fun x hx => h x (List.mem_cons_of_mem _ hx)
    simp only [List.filter]
    rcases List.mem_cons.1 hx with rfl | hx
    · rw [h1, h2]
      have := hle hl
      simp only [List.length_cons]
      omega
    · have := countP_lt hl ⟨x, hx, h1, h2⟩
      have hy := h y List.mem_cons_self
      cases hq : q y <;> cases hp : p y <;> simp_all <;> omega
def dn (listed : Array Bool) (i : Nat) : Bool := listed.getD i false
theorem dn_set {listed : Array Bool} {i : Nat} (hi : i < listed.size) (j : Nat) : dn (listed.setIfInBounds i true) j = (dn listed j || decide (j = i)) := by
  simp only [dn, Array.getD_eq_getD_getElem?]
  by_cases h : i = j
  · subst h
    simp [hi]
  · rw [Array.getElem?_setIfInBounds_ne h]
    have h' : ¬ j = i := fun e => h e.symm
    simp [h']
theorem ready_iff {ops : List Oper} {listed : Array Bool} (hsz : listed.size = ops.length) {i : Nat} : i ∈ Region.ready .any ops.toArray listed ↔ ∃ o, ops[i]? = some o ∧ dn listed i = false ∧ ∀ e ∈ edges o, dn listed e = true := by
  simp only [Region.ready, List.mem_filter, List.mem_range, List.size_toArray, Bool.and_eq_true, Bool.not_eq_true', List.getElem?_toArray]
  constructor
  · rintro ⟨hi, h1, h2⟩
    obtain ⟨o, ho⟩ : ∃ o, ops[i]? = some o := ⟨ops[i], by simp [hi]⟩
    rw [ho] at h2
    simp only [Option.map_some, Option.getD_some, Array.all_eq_true'] at h2
    refine ⟨o, ho, ?_, fun e he => ?_⟩
    · simp only [dn, Array.getD_eq_getD_getElem?] at h1 ⊢
      have : i < listed.size := by omega
      simp [this] at h1 ⊢
      exact h1
    · simp only [edges, List.mem_map, List.mem_filter, Array.mem_toList_iff] at he
      obtain ⟨ed, ⟨hm, hb⟩, rfl⟩ := he
      have := h2 ed hm
      simpa [hb, dn] using this
  · rintro ⟨o, ho, h1, h2⟩
    have hi : i < ops.length := (List.getElem?_eq_some_iff.1 ho).1
    refine ⟨hi, ?_, ?_⟩
    · simp only [dn, Array.getD_eq_getD_getElem?] at h1 ⊢
      have : i < listed.size := by omega
      simp [this] at h1 ⊢
      exact h1
    · rw [ho]
      simp only [Option.map_some, Option.getD_some, Array.all_eq_true']
      intro ed hm
      cases hb : Region.binds .any ed with
      | false => rfl
      | true =>
        have := h2 ed.on (by simp only [edges, List.mem_map, List.mem_filter, Array.mem_toList_iff]; exact ⟨ed, ⟨hm, hb⟩, rfl⟩)
        simpa [dn] using this
theorem clash_of {all : List Oper} {x y : Oper} {d : Nat} (h : x.dst = some d) (h' : d ∈ rslots all y) : clash all x y = true := by
  simp only [clash, h]
  rw [(nmem_iff _ _).2 h']
  rfl
theorem clash_of' {all : List Oper} {x y : Oper} {d : Nat} (h : y.dst = some d) (h' : d ∈ rslots all x) : clash all x y = true := by
  simp only [clash, h]
  rw [(nmem_iff _ _).2 h']
  simp
theorem clash_dst {all : List Oper} {x y : Oper} {d : Nat} (h : x.dst = some d) (h' : y.dst = some d) : clash all x y = true := by
  simp only [clash, h, h', Nat.beq_refl]
  simp

theorem wpAny_plan (hT : ∀ t i, T t = some i → TIok P t i) (hG : ∀ f C, G f = some C → CSound P f C) {ops : List Oper} {base : Nat} {Q : Exit → Act → World → Prop} {xs : List Ent} {s0 : PS}
    (he : edgesOk ops = true) (hsl : slotsOk ops = true) (hlog : okLog ops (logX xs 0 []) = true) (hlen : xs.length = ops.length)
    (hplan : ∀ j o x, ops[j]? = some o → xs[j]? = some x → Step T G ops (base + 8 * j) o x (runS (fun _ => true) (xs.take j) 0 s0))
    (hQ : ∀ a' w' I' σ', Sd ds w0 I0 σ0 M0 (runS (fun _ => true) xs 0 s0) a' w' I' σ' → (∀ k, base + 8 * ops.length ≤ k → σ' k = none) → Q .normal a' w') :
    ∀ (fuel : Nat) (listed : Array Bool) (a : Act) (w : World) (I : Nat → Prop) (σ : Sig), listed.size = ops.length → ((List.range ops.length).filter fun i => !dn listed i).length ≤ fuel →
      Closed ops (dn listed) → Sd ds w0 I0 σ0 M0 (runS (dn listed) xs 0 s0) a w I σ → (∀ k, base ≤ k → (∀ i, i < ops.length → dn listed i = true → ¬ (base + 8 * i ≤ k ∧ k < base + 8 * i + 8)) → σ k = none) →
      wpAny P .any ops.toArray Q fuel listed a w := by
  have fin : ∀ (listed : Array Bool) (a : Act) (w : World) (I : Nat → Prop) (σ : Sig), listed.size = ops.length → 
      Sd ds w0 I0 σ0 M0 (runS (dn listed) xs 0 s0) a w I σ → (∀ k, base ≤ k → (∀ i, i < ops.length → dn listed i = true → ¬ (base + 8 * i ≤ k ∧ k < base + 8 * i + 8)) → σ k = none) → 
      (∀ i, i < ops.length → dn listed i = true) → Q .normal a w := by
    intro listed a w I σ hsz hs hf hall
    rw [runS_all (S' := fun _ => true) xs 0 s0 (fun j hj => by rw [Nat.zero_add]; exact hall j (by omega))] at hs
    exact hQ a w I σ hs fun k hk => hf k (by omega) fun i hi _ => by omega
  have allOf : ∀ (listed : Array Bool), listed.size = ops.length → Region.ready .any ops.toArray listed = [] → ∀ i, i < ops.length → dn listed i = true := by
    intro listed hsz hr i
    induction i using Nat.strongRecOn with
    | _ i ih =>
      intro hi
      cases hd : dn listed i with
      | true => rfl
      | false =>
        have ho : ops[i]? = some ops[i] := by simp [hi]
        have : i ∈ Region.ready .any ops.toArray listed := (ready_iff hsz).2 ⟨_, ho, hd, fun e hm => ih e (edgesOk_iff he ho e hm) (by have := edgesOk_iff he ho e hm; omega)⟩
        rw [hr] at this
        cases this
  intro fuel
  induction fuel with
  | zero =>
    intro listed a w I σ hsz hcnt hcl hs hf
    have hall : ∀ i, i < ops.length → dn listed i = true := by
      intro i hi
      cases hd : dn listed i with
      | true => rfl
      | false =>
        have hm : i ∈ (List.range ops.length).filter fun i => !dn listed i := by simp [hi, hd]
        have := List.length_pos_of_mem hm
        omega
    refine ⟨?_, fin listed a w I σ hsz hs hf hall⟩
    cases hr : Region.ready .any ops.toArray listed with
    | nil => rfl
    | cons i l =>
      have : i ∈ Region.ready .any ops.toArray listed := by rw [hr]; exact List.mem_cons_self
      obtain ⟨o, ho, h1, _⟩ := (ready_iff hsz).1 this
      rw [hall i (List.getElem?_eq_some_iff.1 ho).1] at h1
      cases h1
  | succ fuel ih =>
    intro listed a w I σ hsz hcnt hcl hs hf
    refine ⟨fun hr => fin listed a w I σ hsz hs hf (allOf listed hsz hr), fun i hi => ?_⟩
    obtain ⟨o, ho, hd, hpre⟩ := (ready_iff hsz).1 hi
    have hil : i < ops.length := (List.getElem?_eq_some_iff.1 ho).1
    obtain ⟨x, hx⟩ : ∃ x, xs[i]? = some x := ⟨xs[i], by simp [hlen, hil]⟩
    have dstOf : ∀ (j : Nat) (y : Ent) (o' : Oper), xs[j]? = some y → ops[j]? = some o' → y.dst = o'.dst := fun j y o' h1 h2 => (hplan j o' y h2 h1).1
    have opOf : ∀ (j : Nat) (y : Ent), xs[j]? = some y → ∃ o', ops[j]? = some o' := fun j y h => ⟨ops[j]'(by have := (List.getElem?_eq_some_iff.1 h).1; omega), by simp⟩
    -- what must come ahead of it has come, what must follow has not
    have ahead : ∀ j, nmem (anc ops i) j = true → j = i ∨ dn listed j = true := fun j hj => anc_closed hcl (fun o' ho' e hm => by rw [ho] at ho'; cases ho'; exact hpre e hm) hj
    have behind : ∀ j, dn listed j = true → nmem (anc ops j) i = true → j = i := fun j hj hn => by
      rcases anc_closed (j := j) hcl (fun o' ho' => hcl j o' ho' hj) hn with h | h
      · exact h.symm
      · rw [hd] at h; cases h
    have clashed : ∀ (j : Nat) (y : Ent) (o' : Oper), xs[j]? = some y → ops[j]? = some o' → j ≠ i → (j < i → clash ops o' o = true) → (i < j → clash ops o o' = true) → dn listed j = decide (j < i) := by
      intro j y o' hj ho' hne c1 c2
      by_cases hlt : j < i
      · rcases ahead j (slotsOk_iff hsl ho' ho hlt (c1 hlt)) with h | h
        · exact (hne h).elim
        · rw [h]; simp [hlt]
      · cases hS : dn listed j with
        | false => simp [hlt]
        | true => exact (hne (behind j hS (slotsOk_iff hsl ho ho' (by omega) (c2 (by omega))))).elim
    have keyed : ∀ (j : Nat) (y : Ent), xs[j]? = some y → j ≠ i → ¬ apartL (if j < i then (i, x.rd, ukeys x.upd) else (j, y.rd, ukeys y.upd)) (if j < i then (j, y.rd, ukeys y.upd) else (i, x.rd, ukeys x.upd)) → dn listed j = decide (j < i) := by
      intro j y hj hne hap
      by_cases hlt : j < i
      · rw [if_pos hlt, if_pos hlt] at hap
        have := logX_pair xs 0 [] hlog j i y x hj hx hlt
        simp only [Nat.zero_add] at this
        rcases this with h | h | h
        · exact (hap h).elim
        · have hlow : i ≤ j := by
            obtain ⟨o', ho'⟩ := opOf j y hj
            have hc : Closed ops (fun e => decide (e < j)) := fun i' o2 ho2 h2 e hm => by
              have := edgesOk_iff he ho2 e hm
              simp at h2 ⊢; omega
            rcases anc_closed (j := j) hc (fun o2 ho2 e hm => by have := edgesOk_iff he ho2 e hm; simpa using this) h with h | h
            · omega
            · simp at h; omega
          omega
        · rcases ahead j h with h | h
          · exact (hne h).elim
          · rw [h]; simp [hlt]
      · rw [if_neg hlt, if_neg hlt] at hap
        have := logX_pair xs 0 [] hlog i j x y hx hj (by omega)
        simp only [Nat.zero_add] at this
        cases hS : dn listed j with
        | false => simp [hlt]
        | true =>
          rcases this with h | h | h
          · exact (hap h).elim
          · rcases ahead j h with h | h
            · exact (hne h).elim
            · have hc : Closed ops (fun e => decide (e < i)) := fun i' o2 ho2 h2 e hm => by
                have := edgesOk_iff he ho2 e hm
                simp at h2 ⊢; omega
              rcases anc_closed (j := i) hc (fun o2 ho2 e hm => by have := edgesOk_iff he ho2 e hm; simpa using this) ‹_› with h | h
              · omega
              · simp at h; omega
          · exact (hne (behind j hS h)).elim
    have hst : Step T G ops (base + 8 * i) o x (runS (dn listed) xs 0 s0) := by
      have h0 := hplan i o x ho hx
      rw [runS_take] at h0
      refine h0.move (fun t ht => ?_) fun k hk => ?_
      · refine runS_slot xs 0 _ _ rfl rfl fun j y hj hy => ?_
        rw [Nat.zero_add]
        by_cases hji : j = i
        · subst hji; rw [hd]; simp
        · obtain ⟨o', ho'⟩ := opOf j y hj
          have hdo := dstOf j y o' hj ho'
          rw [hdo] at hy
          exact clashed j y o' hj ho' hji (fun _ => clash_of hy ht) fun _ => clash_of' hy ht
      · refine runS_key xs 0 _ _ rfl fun j y hj hy => ?_
        rw [Nat.zero_add]
        by_cases hji : j = i
        · subst hji; rw [hd]; simp
        · refine keyed j y hj hji fun hap => ?_
          by_cases hlt : j < i
          · rw [if_pos hlt, if_pos hlt] at hap
            exact hap.2 k hy hk
          · rw [if_neg hlt, if_neg hlt] at hap
            exact (hap.1 k hy).1 hk
    refine Step.run hT hG ho hst hs (fun k h1 h2 => ?_) fun a' w' I' σ' hs' hsize hσ => ?_
    · refine hf k (by omega) fun j hj hS hjk => ?_
      have : j = i := by omega
      subst this
      rw [hd] at hS; cases hS
    · obtain ⟨r1, r2⟩ := runS_add (s := s0) hx hd (fun j y hj hij hS t h1 h2 => by
        obtain ⟨o', ho'⟩ := opOf j y hj
        have q1 := dstOf j y o' hj ho'
        have q2 := dstOf i x o hx ho
        rw [q1] at h2
        rw [q2] at h1
        have := behind j hS (slotsOk_iff hsl ho ho' hij (clash_dst h1 h2))
        omega) fun j y hj hij hS k h1 h2 => by
          have := keyed j y hj (by omega) fun hap => by
            rw [if_neg (by omega), if_neg (by omega)] at hap
            exact (hap.1 k h2).2 h1
          rw [hS] at this
          simp at this
          omega
      have hdn : dn (listed.setIfInBounds i true) = fun j => dn listed j || decide (j = i) := funext fun j => dn_set (by omega) j
      have hS' : ∀ j, dn (listed.setIfInBounds i true) j = true ↔ (dn listed j = true ∨ j = i) := fun j => by rw [hdn]; simp
      refine ih (listed.setIfInBounds i true) a' w' I' σ' (by simp [hsz]) ?_ ?_ ?_ ?_
      · have := countP_lt (l := List.range ops.length) (p := fun j => !dn listed j) (q := fun j => !dn (listed.setIfInBounds i true) j) (fun j _ hj => by
          rw [hdn] at hj
          simp at hj ⊢
          exact hj.1) ⟨i, by simp [hil], by simp [hd], by rw [hdn]; simp⟩
        omega
      · intro j o' ho' hj e hm
        rcases (hS' j).1 hj with h | rfl
        · exact (hS' e).2 (.inl (hcl j o' ho' h e hm))
        · rw [ho] at ho'
          cases ho'
          exact (hS' e).2 (.inl (hpre e hm))
      · rw [hdn]
        exact hs'.congr (by rw [runS_len]; simp [Ent.app, lset?_length, runS_len]) r1 r2
      · intro k hk hno
        rcases hσ k with h | h
        · rw [h]
          exact hf k hk fun j hj hjS => hno j hj ((hS' j).2 (.inl hjS))
        · exact (hno i hil ((hS' i).2 (.inr rfl)) h).elim
end
end Go.Am
/- Code: what is shown of the symbolic state holds of the machine. -/
namespace Go.Am
set_option linter.all false
set_option linter.deprecated false
section
variable {ds : List Deferred} {P : Program} {a : Act} {w w' w0 : World} {I I' I0 : Nat → Prop} {σ σ' σ0 : Sig} {M M' M0 : MS} {T : TT} {G : Ctx}

theorem Sd.heap {s : PS} (h : Sd ds w0 I0 σ0 M0 s a w I σ) (hh : w'.heap = w.heap) (ho : w'.os = w.os) (ht : w'.tape = w.tape) (hu : w'.output = w.output) : Sd ds w0 I0 σ0 M0 s a w' I σ := by
  have K : Keep w I σ w' I σ := ⟨fun _ _ => by rw [hh], fun _ h => h, fun _ _ h => h⟩
  refine ⟨fun t => VR.keep K _ _ (h.envr t), h.len, ⟨fun b hb => by rw [hh]; exact h.ok.lt b hb, fun k o hk => ?_, h.ok.sep, h.ok.inj⟩, ?_, h.def0⟩
  · obtain ⟨p, hp, ho⟩ := h.ok.obj k o hk
    exact ⟨p, hp, OR.keep K (fun _ _ => by rw [hh]) ho⟩
  · have e := h.ext
    exact ⟨ho.trans e.os, ht.trans e.tape, hu.trans e.output, by rw [hh]; exact e.size, fun b h1 h2 => by rw [hh]; exact e.blk b h1 h2, e.mono, e.fresh, e.own, e.sig⟩
def AExit.to : AExit → Exit
  | .normal => .normal
  | .exit id => .exit id
  | .ret => .ret
/-- of the regions that draw: their orders are apart where they must -/
def codeOk : Code → Bool
  | .region _ ops true => edgesOk ops.toList && slotsOk ops.toList
  | .seq a b => codeOk a && codeOk b
  | .cond _ a b => codeOk a && codeOk b
  | .block _ c => codeOk c
  | .loop c => codeOk c
  | _ => true
theorem region_ok (hp : P.follows .mixedOrders = true) (hT : ∀ t i, T t = some i → TIok P t i) (hG : ∀ f C, G f = some C → CSound P f C) {ops : Array Oper} {id nx : Nat} {draw : Bool} {env : List AV} {Qm : Exit → Act → World → Prop} {K : AState → Prop}
    (hc : codeOk (.region id ops draw) = true)
    (h : match draw with
      | false => wopsN T G ops.toList nx ops.toList 0 ⟨env, M, [], []⟩ (fun r => K ⟨r.env, r.M, nx + 8 * ops.toList.length⟩)
      | true => wops T G ops.toList nx ops.toList 0 ⟨env, M, [], []⟩ (fun r => match okLog ops.toList r.log with
        | true => K ⟨r.env, r.M, nx + 8 * ops.toList.length⟩
        | false => False)) (hs : St ds w0 I0 σ0 M0 env M nx a w I σ)
    (hQ : ∀ s' a' w' I' σ', K s' → St ds w0 I0 σ0 M0 s'.env s'.M s'.nx a' w' I' σ' → Qm .normal a' w') : (Code.region id ops draw).wp P Qm a w := by
  cases draw with
  | false =>
    refine wp_region_list ?_
    have := wopsN_seq (ds := ds) (w0 := w0) (I0 := I0) (σ0 := σ0) (M0 := M0) (Q := Qm) hT hG ops.toList 0 ⟨env, M, [], []⟩ a w I σ h (by simpa using hs) (fun s b hb => by simp [rget] at hb)
      fun r' a' w' I' σ' hk hst => hQ ⟨r'.env, r'.M, nx + 8 * ops.toList.length⟩ a' w' I' σ' hk (by simpa using hst)
    simpa using this
  | true =>
    simp only [codeOk, Bool.and_eq_true] at hc
    obtain ⟨xs, r', hk, hlen, hrun, hlog, hplan⟩ := wops_plan ops.toList 0 _ h (fun s b hb => by simp [rget] at hb)
    simp only at hk hrun hlog hplan
    split at hk
    · rename_i hok
      refine wp_region_any hp ?_
      rw [hlog] at hok
      have hs1 : Sd ds w0 I0 σ0 M0 (env, M) a w I σ := ⟨hs.envr, hs.len, hs.ok, hs.ext, hs.def0⟩
      have := wpAny_plan (ds := ds) (w0 := w0) (I0 := I0) (σ0 := σ0) (M0 := M0) (Q := Qm) (base := nx) (s0 := (env, M)) hT hG hc.1 hc.2 hok hlen (fun j o x h1 h2 => by
        have := hplan j o x h1 h2
        rwa [Nat.zero_add] at this) (fun a' w' I' σ' hsd hfr => hQ _ a' w' I' σ' hk (by
          rw [← hrun] at hsd
          exact ⟨hsd.envr, hsd.len, hsd.ok, fun k hk => hfr k hk, hsd.ext, hsd.def0⟩))
        ops.size (Array.replicate ops.size false) a { w with drawn := w.drawn + 1 } I σ (by simp) (by
          refine Nat.le_trans (List.length_filter_le _ _) (by simp)) (fun i o _ h => by simp [dn, Array.getD_eq_getD_getElem?, Array.getElem?_replicate] at h; split at h <;> simp_all)
        (by rw [runS_none _ _ _ fun j hj => by simp [dn, Array.getD_eq_getD_getElem?, Array.getElem?_replicate]; split <;> rfl]; exact hs1.heap rfl rfl rfl rfl)
        (fun k hk _ => hs.free k hk)
      simpa using this
    · exact hk.elim
theorem awp_ok {m : Nat} (hm : ∀ k, m ≤ k → σ0 k = none) (hp : P.follows .mixedOrders = true) (hT : ∀ t i, T t = some i → TIok P t i) (hG : ∀ f C, G f = some C → CSound P f C) :
    ∀ (c : Code), codeOk c = true → ∀ (Qa : AExit → AState → Prop) (Qm : Exit → Act → World → Prop) (s : AState) (a : Act) (w : World) (I : Nat → Prop) (σ : Sig),
      awp T G m c Qa s → St ds w0 I0 σ0 M0 s.env s.M s.nx a w I σ → (∀ e s' a' w' I' σ', Qa e s' → St ds w0 I0 σ0 M0 s'.env s'.M s'.nx a' w' I' σ' → Qm e.to a' w') → c.wp P Qm a w := by
  intro c
  induction c with
  | skip => intro _ Qa Qm s a w I σ h hs hQ; exact wp_skip (hQ .normal s a w I σ h hs)
  | ret => intro _ Qa Qm s a w I σ h hs hQ; exact wp_ret (hQ .ret s a w I σ h hs)
  | exit id => intro _ Qa Qm s a w I σ h hs hQ; exact wp_exit (hQ (.exit id) s a w I σ h hs)
  | region id ops draw =>
    intro hc Qa Qm s a w I σ h hs hQ
    refine region_ok (draw := draw) (K := fun s => Qa .normal s) hp hT hG hc (by simp only [awp] at h; cases draw <;> exact h) hs fun s' a' w' I' σ' hk hst => hQ .normal s' a' w' I' σ' hk hst
  | seq x y ihx ihy =>
    intro hc Qa Qm s a w I σ h hs hQ
    simp only [codeOk, Bool.and_eq_true] at hc
    refine wp_seq (ihx hc.1 _ _ s a w I σ h hs fun e s' a' w' I' σ' hq hst => ?_)
    cases e with
    | normal => exact ihy hc.2 Qa Qm s' a' w' I' σ' hq hst hQ
    | exit id => exact hQ _ s' a' w' I' σ' hq hst
    | ret => exact hQ _ s' a' w' I' σ' hq hst
  | cond c x y ihx ihy =>
    intro hc Qa Qm s a w I σ h hs hQ
    simp only [codeOk, Bool.and_eq_true] at hc
    simp only [awp] at h
    split at h
    · rename_i b hb
      have hv := opv_ok hs.envr c
      rw [hb] at hv
      simp only [VR] at hv
      exact wp_cond_split hv (fun ht => ihx hc.1 Qa Qm s a w I σ (h.t ht) hs hQ) fun hf => ihy hc.2 Qa Qm s a w I σ (h.f hf) hs hQ
    · exact h.elim
  | block id c ih =>
    intro hc Qa Qm s a w I σ h hs hQ
    simp only [codeOk] at hc
    refine wp_block (ih hc _ _ s a w I σ h hs fun e s' a' w' I' σ' hq hst => ?_)
    cases e with
    | normal => exact hQ .normal s' a' w' I' σ' hq hst
    | exit i =>
      simp only at hq
      simp only [AExit.to, Exit.inBlock]
      split at hq
      · rename_i hb
        rw [if_pos (Nat.eq_of_beq_eq_true hb)]
        exact hQ .normal s' a' w' I' σ' hq hst
      · rename_i hb
        rw [if_neg (Nat.ne_of_beq_eq_false hb)]
        exact hQ (.exit i) s' a' w' I' σ' hq hst
    | ret => exact hQ .ret s' a' w' I' σ' hq hst
  | loop c ih =>
    intro hc Qa Qm s a w I σ h hs hQ
    simp only [codeOk] at hc
    obtain ⟨ι, inv, μ, x, start, round⟩ := h
    refine wp_loop_ghost (fun n a w => ∃ x, μ x = n ∧ ∃ I σ, St ds w0 I0 σ0 M0 (inv x).env (inv x).M (inv x).nx a w I σ) (μ x) ⟨x, rfl, fit_ok hm hs start⟩ ?_
    rintro n a w ⟨y, rfl, I, σ, hst⟩
    refine ih hc _ _ (inv y) a w I σ (round y) hst fun e s' a' w' I' σ' hq hst' => ?_
    cases e with
    | normal =>
      obtain ⟨z, hz, hf⟩ := hq
      exact ⟨μ z, hz, z, rfl, fit_ok hm hst' hf⟩
    | exit id => exact hQ (.exit id) s' a' w' I' σ' hq hst'
    | ret => exact hQ .ret s' a' w' I' σ' hq hst'
  | rangeFunc f ps asg b _ _ => intro _ Qa Qm s a w I σ h; exact h.elim
  | scope b _ => intro _ Qa Qm s a w I σ h; exact h.elim
  | label l => intro _ Qa Qm s a w I σ h; exact h.elim
  | goto l => intro _ Qa Qm s a w I σ h; exact h.elim
  | refuse y => intro _ Qa Qm s a w I σ h; exact h.elim
end
end Go.Am
/- A function by its body: its contract is kept. -/
namespace Go.Am
set_option linter.all false
set_option linter.deprecated false
section
variable {ds : List Deferred} {P : Program} {a : Act} {w w' w0 : World} {I I' I0 : Nat → Prop} {σ σ' σ0 : Sig} {M M' M0 : MS} {T : TT} {G : Ctx} {env : List AV}

def uns : Nat → List AV
  | 0 => []
  | n + 1 => .un :: uns n
def resV (T : TT) (M : MS) (env : List AV) : ResultVar → Option AV
  | .tmp t => some (lget env t)
  | .cell a t => match tget T t, lget env a with
    | some ti, .mp n off => match load1 M ti (.mp n off) with
      | some ⟨[], v, _, _⟩ => some v
      | _ => none
    | _, _ => none
def resVs (T : TT) (M : MS) (env : List AV) : List ResultVar → Option (List AV)
  | [] => some []
  | r :: rs => match resV T M env r, resVs T M env rs with
    | some v, some vs => some (v :: vs)
    | _, _ => none
def oneOr : List AV → AV
  | [v] => v
  | vs => .tup vs
def fend (T : TT) (m : Nat) (rs : List ResultVar) (val : AV) (M' : MS) : AExit → AState → Prop
  | .exit _, _ => False
  | _, s => match resVs T s.M s.env rs with
    | none => False
    | some vs => fit m ⟨[oneOr vs], s.M, s.nx⟩ ⟨[val], M', m + 8⟩
def finit (n : Nat) (args : List AV) : List AV := lapp args (uns (n - llen args))

theorem resVs_ok (hT : ∀ t i, T t = some i → TIok P t i) (hok : Ok w I σ M) (henv : EnvR w I σ env a.tmps) : ∀ (rs : List ResultVar) (vs : List AV), resVs T M env rs = some vs →
    ∃ us, VRs w I σ vs us ∧ ∀ g : ResultVar → Sem Value, (∀ t, g (.tmp t) = pure (a.tmps.getD t undef)) → (∀ b t, g (.cell b t) = do loadVar t (← asAddr (a.tmps.getD b undef))) → (rs.mapM g).run P w = .ok us w
  | [], vs, h => by
    simp only [resVs, Option.some.injEq] at h
    subst h
    exact ⟨[], by simp only [VRs], fun _ _ _ => rfl⟩
  | r :: rs, vs, h => by
    unfold resVs at h
    split at h <;> (try (cases h; done))
    rename_i v vs' h1 h2
    cases h
    obtain ⟨us, e2, e1⟩ := resVs_ok hT hok henv rs vs' h2
    have one : ∃ u, VR w I σ v u ∧ ∀ g : ResultVar → Sem Value, (∀ t, g (.tmp t) = pure (a.tmps.getD t undef)) → (∀ b t, g (.cell b t) = do loadVar t (← asAddr (a.tmps.getD b undef))) → (g r).run P w = .ok u w := by
      unfold resV at h1
      split at h1
      · rename_i t
        cases h1
        exact ⟨_, henv t, fun g q _ => by rw [q]; rfl⟩
      · rename_i b t
        split at h1 <;> (try (cases h1; done))
        rename_i ti n off ht hb
        split at h1 <;> (try (cases h1; done))
        rename_i v' _ _ hl
        cases h1
        have hv := henv b
        rw [hb] at hv
        obtain ⟨u, g1, g2, _⟩ := load1_ok (P := P) hok (hT _ _ ht) _ _ _ hl (by simp) hv
        refine ⟨u, g2, fun g _ q => ?_⟩
        simp only [VR] at hv
        rw [q]
        cases hs : σ n with
        | none => rw [hs] at hv; exact hv.elim
        | some q =>
          cases q with
          | none => rw [hs] at hv; exact hv.elim
          | some q =>
            rw [hs] at hv
            simp only [PtR] at hv
            rw [hv] at g1 ⊢
            simpa [Instr.loadAt, Instr.sureAddr, asAddr] using g1
    obtain ⟨u, g2, g1⟩ := one
    refine ⟨u :: us, ?_, fun g q1 q2 => ?_⟩
    · simp only [VRs]
      exact ⟨u, us, rfl, g2, e2⟩
    · simp only [List.mapM_cons, Sem.run_bind, g1 g q1 q2, Result.andThen_ok, e1 g q1 q2, Sem.run_pure]
theorem VRs.get : ∀ {vs : List AV} {us : List Value}, VRs w I σ vs us → ∀ (t : Nat), t < vs.length → VR w I σ (lget vs t) (us.getD t undef)
  | [], us, _, t, h => by simp at h
  | v :: vs, us, h, t, ht => by
    simp only [VRs] at h
    obtain ⟨u, us', rfl, h1, h⟩ := h
    cases t with
    | zero => exact h1
    | succ t => 
      have := VRs.get h t (by simpa using ht)
      simpa [lget] using this
theorem uns_get : ∀ (n t : Nat), lget (uns n) t = .un
  | 0, _ => rfl
  | n + 1, 0 => rfl
  | n + 1, t + 1 => uns_get n t
theorem uns_len : ∀ (n : Nat), (uns n).length = n
  | 0 => rfl
  | n + 1 => by simp [uns, uns_len n]
theorem lapp_get : ∀ (xs ys : List AV) (t : Nat), lget (lapp xs ys) t = if t < xs.length then lget xs t else lget ys (t - xs.length)
  | [], ys, t => by simp [lapp]
  | x :: xs, ys, 0 => by simp [lapp, lget]
  | x :: xs, ys, t + 1 => by
    simp only [lapp, lget, lapp_get xs ys t, List.length_cons, Nat.add_lt_add_iff_right, Nat.add_sub_add_right]
theorem fsound {f : FuncId} {fn : Func} {c : Code} {C : Contract} (hp : P.follows .mixedOrders = true) (hT : ∀ t i, T t = some i → TIok P t i) (hG : ∀ f C, G f = some C → CSound P f C)
    (hf : P.funcs[f]? = some fn) (hb : fn.body = some c) (hc : codeOk c = true) (hn : (fn.name == "runtime.NumGoroutine") = false)
    (h : ∀ args M r, C.fn args M = some r → (∀ p ∈ r.vc, p ()) → awp T G M.length c (fun e s => fend T M.length fn.results.toList r.val (mapply M r.objs) e s) ⟨finit fn.ntmps args, M, M.length⟩) (hn0 : ∀ args M, C.nfn args M = none := by intros; rfl) : CSound P f C := by
  refine ⟨fun args M r hr hvc => ?_, fun args M r hr => by rw [hn0] at hr; cases hr⟩
  intro w I σ vs hok hfree hargs o a K Q hK
  have hlen := hargs.length
  have hrun : (callFunc f vs.toArray).run P w = .ok (.enter f vs.toArray) w := by
    simp only [callFunc, Sem.run_bind, run_program, Result.andThen_ok, hf, hn, hb, Option.isNone_some, Bool.false_eq_true, if_false, Sem.run_pure]
  rw [hrun]
  refine calls_of_wp hf hb ?_
  have hst : St [] w I σ M (finit fn.ntmps args) M M.length { tmps := vs.toArray ++ Array.replicate (fn.ntmps - vs.toArray.size) undef, defers := [] } w I σ := by
    refine ⟨fun t => ?_, ?_, hok, hfree, Ext.refl hok, rfl⟩
    · simp only [finit, lapp_get]
      by_cases ht : t < args.length
      · rw [if_pos ht]
        have := hargs.get t ht
        simp only [Array.getD_eq_getD_getElem?, List.getD] at this ⊢
        rw [Array.getElem?_append_left (by simp; omega)]
        simpa using this
      · rw [if_neg ht, uns_get]
        simp only [VR]
    · have e1 : (lapp args (uns (fn.ntmps - llen args))).length = args.length + (fn.ntmps - llen args) := by
        have : ∀ (xs ys : List AV), (lapp xs ys).length = xs.length + ys.length := by
          intro xs
          induction xs with
          | nil => simp [lapp]
          | cons x xs ih => intro ys; simp [lapp, ih]; omega
        rw [this, uns_len]
      have e2 := llen_eq args
      rw [finit, e1, Array.size_append, Array.size_replicate, List.size_toArray]
      omega
  refine awp_ok hfree hp hT hG c hc _ _ _ _ _ I σ (h args M r hr hvc) hst fun e s' a' w' I' σ' hq hst' => ?_
  have done : (match resVs T s'.M s'.env fn.results.toList with
    | none => False
    | some vs => fit M.length ⟨[oneOr vs], s'.M, s'.nx⟩ ⟨[r.val], mapply M r.objs, M.length + 8⟩) → a'.defers = [] ∧ ∃ v, (results fn a'.tmps).run P w' = .ok v w' ∧ K (a.put o.dst v) w' := by
    intro hq
    refine ⟨hst'.def0, ?_⟩
    split at hq
    · exact hq.elim
    · rename_i vs' hvs
      obtain ⟨us, g2, g1⟩ := resVs_ok (P := P) (a := a') hT hst'.ok hst'.envr _ _ hvs
      have hus := g2.length
      obtain ⟨v, g3, g4⟩ : ∃ v, (results fn a'.tmps).run P w' = .ok v w' ∧ VR w' I' σ' (oneOr vs') v := by
        refine ⟨if h : us.toArray.size = 1 then us.toArray[0] else .tuple us.toArray, ?_, ?_⟩
        · simp only [results, Sem.run_bind, Array.mapM_eq_mapM_toList, Sem.run_map]
          rw [g1 _ (fun _ => rfl) (fun _ _ => rfl)]
          rfl
        · cases vs' with
          | nil =>
            cases us with
            | nil => simp only [oneOr, VR]; exact ⟨#[], by simp, by simp only [VRs]⟩
            | cons u us => simp at hus
          | cons v vs' =>
            cases vs' with
            | nil =>
              simp only [VRs] at g2
              obtain ⟨u, us', rfl, h1, rfl⟩ := g2
              simpa [oneOr] using h1
            | cons v2 vs' =>
              have hne : ¬ us.toArray.size = 1 := by simp; simp at hus; omega
              rw [dif_neg hne]
              simp only [oneOr, VR]
              exact ⟨us.toArray, rfl, g2⟩
      refine ⟨v, g3, ?_⟩
      have hst2 : St [] w I σ M [oneOr vs'] s'.M s'.nx { tmps := #[v], defers := [] } w' I' σ' := by
        refine ⟨fun t => ?_, by simp, hst'.ok, hst'.free, hst'.ext, rfl⟩
        cases t with
        | zero => exact g4
        | succ t => simp only [lget, VR]
      obtain ⟨J, τ, hf3⟩ := fit_ok (s := ⟨[oneOr vs'], s'.M, s'.nx⟩) hfree hst2 hq
      exact hK v w' ⟨J, τ, hf3.envr 0, hf3.ok, hf3.ext⟩
  cases e with
  | normal => exact done hq
  | ret => exact done hq
  | exit id => exact hq.elim
end
end Go.Am
/- What holds of every value that comes in: integers lie in their kinds, lengths are bounded. -/
namespace Go.Am
set_option linter.all false
set_option linter.deprecated false
section
variable {P : Program} {w : World} {I : Nat → Prop} {σ : Sig} {M : MS} {T : TT} {G : Ctx}
mutual
def WfD : Sh → D → Prop
  | .int k, d => wfB k d.toInt = true
  | .str, d => d.toStr.length ≤ 9223372036854775807
  | .slice e, d => d.toList.length ≤ 9223372036854775807 ∧ ∀ i, i < d.toList.length → WfDs e 0 (lk d.toList i)
  | _, _ => True
def WfDs : List Sh → Nat → List D → Prop
  | [], _, _ => True
  | s :: ss, j, ds => WfD s (lk ds j) ∧ WfDs ss (j + 1) ds
end
def WfR (e : List Sh) (xs : List (List D)) : Prop := xs.length ≤ 9223372036854775807 ∧ ∀ i, i < xs.length → WfDs e 0 (lk xs i)
mutual
def WfV : AV → Prop
  | .int k n => wfB k (n ()) = true
  | .str s => (s ()).length ≤ 9223372036854775807
  | .sl _ e xs => WfR e (xs ())
  | .ms _ lo len => lo () + len () ≤ 9223372036854775807
  | .agg cs | .tup cs | .pt cs | .fn _ cs => WfVs cs
  | _ => True
def WfVs : List AV → Prop
  | [] => True
  | v :: vs => WfV v ∧ WfVs vs
end
def WfO : MObj → Prop
  | .row _ e xs | .imm _ e xs => WfR e (xs ())
  | .obj cs => WfVs cs
def WfM : MS → Prop
  | [] => True
  | (_, o) :: M => WfO o ∧ WfM M
theorem maxLen_eq : maxLen = 9223372036854775807 := by decide
mutual
theorem Dat.wf : ∀ (s : Sh) (d : D) (v : Value), Dat w I s d v → WfD s d
  | .int k, d, v, h => by simp only [Dat] at h; simp only [WfD]; exact h.2
  | .bool, _, _, _ => by simp only [WfD]
  | .str, d, v, h => by
    simp only [Dat] at h
    obtain ⟨s, rfl, h1, h2⟩ := h
    simp only [WfD]
    rw [← h1, ← maxLen_eq]
    simpa using h2
  | .slice e, d, v, h => by
    simp only [Dat] at h
    obtain ⟨a, len, cap, _, e2, e3, e4, _, _, h⟩ := h
    simp only [WfD]
    rw [← maxLen_eq]
    refine ⟨by omega, fun i hi => ?_⟩
    obtain ⟨b, off, _, _, hd⟩ := h i (by omega)
    exact DatC.wf e 0 _ b _ hd
  | .ptr _, _, _, _ => by simp only [WfD]
  | .other, _, _, _ => by simp only [WfD]
theorem DatC.wf : ∀ (e : List Sh) (j : Nat) (ds : List D) (b o : Nat), DatC w I e j ds b o → WfDs e j ds
  | [], _, _, _, _, _ => by simp only [WfDs]
  | s :: ss, j, ds, b, o, h => by
    simp only [DatC] at h
    simp only [WfDs]
    obtain ⟨⟨u, _, hd⟩, h⟩ := h
    exact ⟨Dat.wf s _ u hd, DatC.wf ss (j + 1) ds b o h⟩
end
mutual
theorem VR.wf : ∀ (v : AV) (u : Value), VR w I σ v u → WfV v
  | .int k n, u, h => by simp only [VR] at h; simp only [WfV]; exact h.2
  | .str s, u, h => by
    simp only [VR] at h
    obtain ⟨t, rfl, h1, h2⟩ := h
    simp only [WfV]
    rw [← h1, ← maxLen_eq]
    simpa using h2
  | .sl nn e xs, u, h => by
    simp only [VR] at h
    have := Dat.wf _ _ _ h.1
    simp only [WfD] at this
    simp only [WfV, WfR]
    exact this
  | .ms n lo len, u, h => by
    simp only [VR, MsR] at h
    simp only [WfV]
    split at h
    · exact h.elim
    · omega
    · obtain ⟨off, cap, _, _, h1, h2, h3⟩ := h
      rw [maxLen_eq] at h3
      omega
  | .agg cs, u, h => by simp only [VR] at h; obtain ⟨us, _, h⟩ := h; simp only [WfV]; exact VRs.wf cs _ h
  | .tup cs, u, h => by simp only [VR] at h; obtain ⟨us, _, h⟩ := h; simp only [WfV]; exact VRs.wf cs _ h
  | .fn f cs, u, h => by simp only [VR] at h; obtain ⟨us, _, h⟩ := h; simp only [WfV]; exact VRs.wf cs _ h
  | .pt cs, u, h => by simp only [VR] at h; obtain ⟨b, off, _, h⟩ := h; simp only [WfV]; exact VRat.wf cs b off h
  | .un, _, _ => by simp only [WfV]
  | .udf, _, _ => by simp only [WfV]
  | .bool _, _, _ => by simp only [WfV]
  | .nils, _, _ => by simp only [WfV]
  | .nilp, _, _ => by simp only [WfV]
  | .nilf, _, _ => by simp only [WfV]
  | .yl _, _, _ => by simp only [WfV]
  | .mp .., _, _ => by simp only [WfV]
  | .me .., _, _ => by simp only [WfV]
  | .ax .., _, _ => by simp only [WfV]
theorem VRs.wf : ∀ (vs : List AV) (us : List Value), VRs w I σ vs us → WfVs vs
  | [], _, _ => by simp only [WfVs]
  | v :: vs, us, h => by
    simp only [VRs] at h
    obtain ⟨u, us', rfl, h1, h⟩ := h
    simp only [WfVs]
    exact ⟨VR.wf v u h1, VRs.wf vs us' h⟩
theorem VRat.wf : ∀ (vs : List AV) (b off : Nat), VRat w I σ vs b off → WfVs vs
  | [], _, _, _ => by simp only [WfVs]
  | v :: vs, b, off, h => by
    simp only [VRat] at h
    obtain ⟨⟨_, u, _, h1⟩, h⟩ := h
    simp only [WfVs]
    exact ⟨VR.wf v u h1, VRat.wf vs b (off + 1) h⟩
end
theorem OR.wf {p : Option Pl} {o : MObj} (h : OR w I σ p o) : WfO o := by
  have row : ∀ (p : Pl) e xs, RowR w I p e xs → WfR e xs := fun p e xs h => by
    obtain ⟨cs, t, fz, _, _, _, _, _, h1, h2, h3⟩ := h
    rw [maxLen_eq] at h2
    exact ⟨by omega, fun i hi => DatC.wf e 0 _ _ _ (h3 i hi)⟩
  have nil : ∀ (e : List Sh) (xs : List (List D)), xs = [] → WfR e xs := fun e xs h => by subst h; exact ⟨by simp, fun i hi => by simp at hi⟩
  cases p with
  | none =>
    cases o with
    | row nn e xs => exact nil _ _ h.2.1
    | imm nn e xs => exact nil _ _ h.2.1
    | obj cs => exact h.elim
  | some p =>
    cases o with
    | row nn e xs => exact row p _ _ h
    | imm nn e xs => exact row p _ _ h.1
    | obj cs =>
      obtain ⟨us, t, fz, _, _, hv⟩ := h
      exact VRs.wf cs _ hv
def nodupK : MS → Prop
  | [] => True
  | (k, _) :: M => mget M k = none ∧ nodupK M
theorem Ok.wfM (h : Ok w I σ M) : ∀ (N : MS), (∀ k o, mget N k = some o → mget M k = some o) → nodupK N → WfM N
  | [], _, _ => by simp only [WfM]
  | (k, o) :: N, hN, hd => by
    simp only [WfM]
    obtain ⟨p, _, ho⟩ := h.obj k o (hN k o (by simp [mget, Nat.beq_refl]))
    refine ⟨ho.wf, h.wfM N (fun k' o' hk => hN k' o' ?_) hd.2⟩
    simp only [mget]
    split
    · rename_i hb
      have := Nat.eq_of_beq_eq_true hb
      subst this
      rw [hd.1] at hk
      cases hk
    · exact hk
/-- A function by its body: with what is known of all that comes in. -/
theorem fsound' {f : FuncId} {fn : Func} {c : Code} {C : Contract} (hp : P.follows .mixedOrders = true) (hT : ∀ t i, T t = some i → TIok P t i) (hG : ∀ f C, G f = some C → CSound P f C)
    (hf : P.funcs[f]? = some fn) (hb : fn.body = some c) (hc : codeOk c = true) (hn : (fn.name == "runtime.NumGoroutine") = false)
    (h : ∀ args M r, C.fn args M = some r → (∀ p ∈ r.vc, p ()) → WfVs args → (nodupK M → WfM M) →
      awp T G M.length c (fun e s => fend T M.length fn.results.toList r.val (mapply M r.objs) e s) ⟨finit fn.ntmps args, M, M.length⟩) (hn0 : ∀ args M, C.nfn args M = none := by intros; rfl) : CSound P f C := by
  refine ⟨fun args M r hr hvc => ?_, fun args M r hr => by rw [hn0] at hr; cases hr⟩
  intro w I σ vs hok hfree hargs
  -- the bare law, for this call alone: a contract that answers here only
  have h2 : CSound P f { modes := C.modes, fn := fun args' M' => open Classical in if args' = args ∧ M' = M then some r else none } := by
    refine fsound hp hT hG hf hb hc hn fun args' M' r' hr' hvc' => ?_
    simp only at hr'
    split at hr'
    · rename_i he
      obtain ⟨rfl, rfl⟩ := he
      cases hr'
      exact h args' M' r hr hvc (hargs.wf) (fun hd => hok.wfM M' (fun _ _ h => h) hd)
    · cases hr'
  exact h2.det args M r (by simp) hvc w I σ vs hok hfree hargs
end
end Go.Am
/- Small helps for the contracts' proofs. -/
namespace Go.Am
set_option linter.all false
set_option linter.deprecated false
def codeOf (f : Func) : Code := match f.body with | some c => c | none => .skip
/-- bytes as a row's data, and back -/
def rowB (bs : List Nat) : List (List D) := bs.map fun (b : Nat) => [D.int (b : Int)]
def bn (xs : List (List D)) : List Nat := xs.map fun c => (lk c 0).toInt.toNat
abbrev U8 : List Sh := [.int .u8]
theorem wfB_iff (k : IntKind) (n : Int) : wfB k n = true ↔ k.min ≤ n ∧ n ≤ k.max := by simp [wfB]
theorem u8_iff (n : Int) : wfB .u8 n = true ↔ 0 ≤ n ∧ n < 256 := by rw [wfB_iff]; simp [IntKind.min, IntKind.max, IntKind.signed, IntKind.bits]; omega
theorem u32_iff (n : Int) : wfB .u32 n = true ↔ 0 ≤ n ∧ n < 4294967296 := by rw [wfB_iff]; simp [IntKind.min, IntKind.max, IntKind.signed, IntKind.bits]; omega
theorem u64_iff (n : Int) : wfB .u64 n = true ↔ 0 ≤ n ∧ n < 18446744073709551616 := by rw [wfB_iff]; simp [IntKind.min, IntKind.max, IntKind.signed, IntKind.bits]; omega
theorem i64_iff (n : Int) : wfB .i64 n = true ↔ -9223372036854775808 ≤ n ∧ n < 9223372036854775808 := by rw [wfB_iff]; simp [IntKind.min, IntKind.max, IntKind.signed, IntKind.bits]; omega
theorem wrap_of {k : IntKind} {n : Int} (h : wfB k n = true) : k.wrap n = n := by
  rw [wfB_iff] at h
  cases k <;> simp [IntKind.wrap, IntKind.min, IntKind.max, IntKind.signed, IntKind.bits] at h ⊢ <;> omega
theorem wrap_i64 {n : Int} (h : -9223372036854775808 ≤ n ∧ n < 9223372036854775808) : IntKind.i64.wrap n = n := wrap_of ((i64_iff n).2 h)
theorem wrap_u64 {n : Int} (h : 0 ≤ n ∧ n < 18446744073709551616) : IntKind.u64.wrap n = n := wrap_of ((u64_iff n).2 h)
theorem wrap_u64_mod (n : Int) : IntKind.u64.wrap n = n % 18446744073709551616 := by simp [IntKind.wrap, IntKind.signed, IntKind.bits]
theorem wrap_u32_mod (n : Int) : IntKind.u32.wrap n = n % 4294967296 := by simp [IntKind.wrap, IntKind.signed, IntKind.bits]
theorem wrap_u8_mod (n : Int) : IntKind.u8.wrap n = n % 256 := by simp [IntKind.wrap, IntKind.signed, IntKind.bits]
@[simp] theorem bn_len (xs : List (List D)) : (bn xs).length = xs.length := by simp [bn]
@[simp] theorem rowB_len (bs : List Nat) : (rowB bs).length = bs.length := by simp [rowB]
@[simp] theorem bn_rowB (bs : List Nat) : bn (rowB bs) = bs := by
  simp only [bn, rowB, List.map_map]
  conv => rhs; rw [← List.map_id bs]
  exact List.map_congr_left fun b _ => by simp [lk, D.toInt]
theorem bn_append (xs ys : List (List D)) : bn (xs ++ ys) = bn xs ++ bn ys := by simp [bn]
theorem bn_take (xs : List (List D)) (n : Nat) : bn (xs.take n) = (bn xs).take n := by simp [bn, List.map_take]
theorem bn_drop (xs : List (List D)) (n : Nat) : bn (xs.drop n) = (bn xs).drop n := by simp [bn, List.map_drop]
theorem rowB_append (a b : List Nat) : rowB (a ++ b) = rowB a ++ rowB b := by simp [rowB]
theorem bn_lt {xs : List (List D)} (h : WfR U8 xs) : ∀ b ∈ bn xs, b < 256 := by
  intro b hb
  obtain ⟨i, hi, rfl⟩ := List.getElem_of_mem hb
  have := h.2 i (by simpa using hi)
  simp only [WfDs, WfD, and_true] at this
  rw [u8_iff] at this
  have e : lk xs i = xs[i]'(by simpa using hi) := by simp [lk, List.getD, List.getElem?_eq_getElem (show i < xs.length by simpa using hi)]
  rw [e] at this
  simp only [bn, List.getElem_map]
  omega
theorem bn_at {xs : List (List D)} (h : WfR U8 xs) {i : Nat} (hi : i < xs.length) : (lk (lk xs i) 0).toInt = (((bn xs).getD i 0 : Nat) : Int) := by
  have := h.2 i hi
  simp only [WfDs, WfD, and_true] at this
  rw [u8_iff] at this
  have e : (bn xs).getD i 0 = (lk (lk xs i) 0).toInt.toNat := by simp [bn, lk, List.getD, List.getElem?_eq_getElem hi]
  rw [e]
  omega
theorem WfR.take {e : List Sh} {xs : List (List D)} (h : WfR e xs) (n : Nat) : WfR e (xs.take n) :=
  ⟨by simp; have := h.1; omega, fun i hi => by
    rw [List.length_take] at hi
    have h1 : i < n := by omega
    have := h.2 i (by omega)
    simpa [lk, List.getD, List.getElem?_take, h1] using this⟩
theorem WfR.drop {e : List Sh} {xs : List (List D)} (h : WfR e xs) (n : Nat) : WfR e (xs.drop n) :=
  ⟨by simp; have := h.1; omega, fun i hi => by
    simp at hi
    have := h.2 (n + i) (by omega)
    simpa [lk, List.getD, List.getElem?_drop] using this⟩
@[simp] theorem dall_one (f : Unit → D) : dall [f] = [f ()] := rfl
theorem Hold.iff {p : Unit → Prop} : Hold p ↔ p () := ⟨fun h => h.1, .mk⟩
@[simp] theorem take_rowB (bs : List Nat) : (rowB bs).take bs.length = rowB bs := List.take_of_length_le (by simp)
theorem rowB_one (b : Nat) : rowB [b] = [[D.int (b : Int)]] := rfl
/-- casts as the evaluator leaves them, and back: two steps -/
theorem zc1 (n : Nat) : @NatCast.natCast Int instNatCastInt n = Int.ofNat n := rfl
theorem zc2 (n : Nat) : Int.ofNat n = (n : Int) := rfl
theorem ne_t {a b : Int} (h : (a != b) = true) : a ≠ b := by simpa using h
theorem ne_f {a b : Int} (h : (a != b) = false) : a = b := by simpa using h
theorem eq_t {a b : Int} (h : (a == b) = true) : a = b := by simpa using h
theorem eq_f {a b : Int} (h : (a == b) = false) : a ≠ b := by simpa using h
theorem Split.yes {X Y : Unit → Prop} (h : X ()) : Split (fun _ => true) X Y := ⟨fun _ => h, fun h => by cases h⟩
theorem Split.no {X Y : Unit → Prop} (h : Y ()) : Split (fun _ => false) X Y := ⟨fun h => (by cases h), fun _ => h⟩
theorem Split.ofT {b : Unit → Bool} {X Y : Unit → Prop} (hb : b () = true) (h : X ()) : Split b X Y := ⟨fun _ => h, fun e => by rw [hb] at e; cases e⟩
theorem Split.ofF {b : Unit → Bool} {X Y : Unit → Prop} (hb : b () = false) (h : Y ()) : Split b X Y := ⟨fun e => (by rw [hb] at e; cases e), fun _ => h⟩
/-- an environment by its slots -/
def ev1 : List (Nat × AV) → Nat → AV
  | [], _ => .un
  | (k, v) :: l, i => match Nat.beq k i with | true => v | false => ev1 l i
def evs : Nat → Nat → List (Nat × AV) → List AV
  | 0, _, _ => []
  | n + 1, i, l => ev1 l i :: evs n (i + 1) l
def ev (n : Nat) (l : List (Nat × AV)) : List AV := evs n 0 l
theorem csound_weak {P : Program} {f : FuncId} {C C' : Contract} (h : CSound P f C') (hh : ∀ args M r, C.fn args M = some r → (∀ p ∈ r.vc, p ()) → WfVs args → ∃ args' r', C'.fn args' M = some r' ∧ (∀ p ∈ r'.vc, p ()) ∧ r'.val = r.val ∧ r'.objs = r.objs ∧ ∀ w I σ vs, VRs w I σ args vs → VRs w I σ args' vs) (hn0 : ∀ args M, C.nfn args M = none := by intros; rfl) : CSound P f C := by
  refine ⟨fun args M r hr hvc => ?_, fun args M r hr => by rw [hn0] at hr; cases hr⟩
  intro w I σ vs hok hfree hargs
  obtain ⟨args', r', h1, h2, h3, h4, h5⟩ := hh args M r hr hvc hargs.wf
  have := h.det args' M r' h1 h2 w I σ vs hok hfree (h5 w I σ vs hargs)
  rw [h3, h4] at this
  exact this
theorem csound_of {P : Program} {f : FuncId} {C C' : Contract} (h : CSound P f C') (hh : ∀ args M r, C.fn args M = some r → (∀ p ∈ r.vc, p ()) → WfVs args → ∃ r', C'.fn args M = some r' ∧ (∀ p ∈ r'.vc, p ()) ∧ r'.val = r.val ∧ r'.objs = r.objs) (hn0 : ∀ args M, C.nfn args M = none := by intros; rfl) : CSound P f C :=
  csound_weak h (fun args M r hr hvc hw => by
    obtain ⟨r', h1, h2, h3, h4⟩ := hh args M r hr hvc hw
    exact ⟨args, r', h1, h2, h3, h4, fun _ _ _ _ h => h⟩) hn0
theorem nils_sl {w : World} {I : Nat → Prop} {σ : Sig} {e : List Sh} (he : 0 < e.length) {v : Value} (h : VR w I σ .nils v) : VR w I σ (.sl false e fun _ => []) v := by
  simp only [VR] at h ⊢
  subst h
  refine ⟨?_, fun h => by cases h⟩
  simp only [Dat, D.toList]
  exact ⟨none, 0, 0, rfl, rfl, Nat.le_refl _, Nat.zero_le _, fun _ => rfl, he, fun i hi => by simp at hi⟩
theorem Split.d {p : Prop} [Decidable p] {X Y : Unit → Prop} (f : p → X ()) (g : ¬ p → Y ()) : Split (fun _ => decide p) X Y := ⟨fun h => f (of_decide_eq_true h), fun h => g (of_decide_eq_false h)⟩
/-- contracts by number -/
def gget : List (Nat × Contract) → Nat → Option Contract
  | [], _ => none
  | (k, c) :: L, n => match Nat.beq k n with | true => some c | false => gget L n
theorem gget_nil (P : Program) : ∀ f C, gget [] f = some C → CSound P f C := fun _ _ h => by simp [gget] at h
theorem gget_cons {P : Program} {L : List (Nat × Contract)} {k : Nat} {c : Contract} (h : CSound P k c) (hL : ∀ f C, gget L f = some C → CSound P f C) : ∀ f C, gget ((k, c) :: L) f = some C → CSound P f C := by
  intro f C hf
  simp only [gget] at hf
  split at hf
  · rename_i hb
    have hb := Nat.eq_of_beq_eq_true hb
    subst hb
    cases hf
    exact h
  · exact hL f C hf
end Go.Am
/- A law's function, called with arguments that came in: it returns true and writes nothing that was there. -/
namespace Go.Am
set_option linter.all false
set_option linter.deprecated false
open Go.RowKit Go.RowKit
/-- all blocks that are there -/
def allB (w : World) : Nat → Prop := fun b => b < w.heap.size
def noS : Sig := fun _ => none
theorem ok_nil (w : World) : Ok w (allB w) noS [] :=
  ⟨fun _ h => h, fun k o h => by simp [mget] at h, fun b ⟨k, o, p, h, _⟩ => by simp [mget] at h, fun k k' o o' p p' h => by simp [mget] at h⟩
theorem law_calls {P : Program} {f : FuncId} {C : Contract} (hC : CSound P f C) {args : List AV} {vs : List Value} {w : World} {b : Unit → Bool} {r : Res}
    (hf : C.fn args [] = some r) (hr : r.val = .bool b) (hb : b () = true) (hvc : ∀ p ∈ r.vc, p ()) (hv : VRs w (allB w) noS args vs) {fn : Func} (h1 : P.funcs[f]? = some fn) (h2 : (fn.name == "runtime.NumGoroutine") = false) (h3 : fn.body.isNone = false) :
    Calls P f vs.toArray w fun e w' => e = .returned (.bool true) ∧ Below w.heap.size w w' := by
  have h := hC.det args [] r hf hvc w (allB w) noS vs (ok_nil w) (fun _ _ => rfl) hv
  have h := h { (default : Oper) with dst := some 0 } { tmps := #[undef], defers := [] } (fun a w' => a.tmps.getD 0 undef = .bool true ∧ Below w.heap.size w w') (fun _ _ _ => False) (fun v w' hh => by
    obtain ⟨I', σ', g1, _, g3⟩ := hh
    rw [hr] at g1
    simp only [VR] at g1
    refine ⟨by simp [Act.put, g1, hb], g3.os, g3.tape, g3.output, g3.size, fun k hk => g3.blk k hk fun ⟨_, _, _, q, _⟩ => by simp [mget] at q⟩)
  have hrun : (callFunc f vs.toArray).run P w = .ok (.enter f vs.toArray) w := by
    simp only [callFunc, Sem.run_bind, run_program, Result.andThen_ok, h1, h2, h3, Bool.false_eq_true, if_false, Sem.run_pure]
  rw [hrun] at h
  refine Calls.mono h fun e w' he => ?_
  cases e with
  | returned v =>
    simp only [Act.put] at he
    refine ⟨?_, he.2⟩
    have := he.1
    simp at this
    rw [this]
  | panicked ch => exact he.elim
  | outgrown => obtain ⟨_, _, q⟩ := he; exact q.elim
/-- a slice of integers that came in -/
def IsRow (k : IntKind) (w : World) (a : Option Addr) (len cap : Nat) (zs : List Int) : Prop :=
  (a = none ∧ len = 0 ∧ cap = 0 ∧ zs = []) ∨
  ∃ x, a = some x ∧ len ≤ cap ∧ cap ≤ maxLen ∧ zs.length = cap ∧ (∀ i, i < zs.length → w.cell? (x.add i) = some (.int k (zs.getD i 0))) ∧ ∀ n ∈ zs, (Lit.int k n).wf = true
theorem cell_lt {w : World} {x : Addr} {v : Value} (h : w.cell? x = some v) : x.block < w.heap.size := by
  unfold World.cell? at h
  split at h
  · rename_i hb
    exact (Array.getElem?_eq_some_iff.1 hb).1
  · cases h
theorem wf_lit {k : IntKind} {n : Int} (h : (Lit.int k n).wf = true) : wfB k n = true := by
  simpa [Lit.wf, wfB] using h
theorem row_of {k : IntKind} {w : World} {a : Option Addr} {len cap : Nat} {zs : List Int} (h : IsRow k w a len cap zs) : VR w (allB w) noS (.sl false [.int k] fun _ => (zs.take len).map fun z => [D.int z]) (.slice a len cap) := by
  simp only [VR, Dat]
  refine ⟨?_, fun h => by cases h⟩
  rcases h with ⟨rfl, rfl, rfl, rfl⟩ | ⟨x, rfl, h1, h2, h3, h4, h5⟩
  · exact ⟨none, 0, 0, rfl, by simp [D.toList], Nat.le_refl _, Nat.zero_le _, fun _ => rfl, by simp, fun i hi => by omega⟩
  · refine ⟨some x, len, cap, rfl, by simp [D.toList]; omega, h1, h2, fun h => (by cases h), by simp, fun i hi => ?_⟩
    have hc := h4 i (by omega)
    have hb := cell_lt hc
    obtain ⟨b, off, spot⟩ := x
    have hadd : ∀ s : Option Nat, s = none → (⟨b, off, s⟩ : Addr).add i = ⟨b, off + i, none⟩ := fun s e => by subst e; simp only [Addr.add]; split <;> simp_all
    have hs : spot = none := by simpa [Addr.add] using World.cell?_spot (h4 0 (by omega))
    subst hs
    rw [hadd _ rfl] at hc hb
    refine ⟨b, off, rfl, hb, ?_⟩
    simp only [DatC]
    have e : lk (lk (D.list ((zs.take len).map fun z => [D.int z])).toList i) 0 = D.int (zs.getD i 0) := by
      have hl : i < zs.length := by omega
      simp [lk, D.toList, List.getD, hi, hl]
    refine ⟨⟨.int k (zs.getD i 0), by simpa using hc, ?_⟩, trivial⟩
    rw [e]
    simp only [Dat, D.toInt, true_and]
    refine wf_lit (h5 _ ?_)
    have hl : i < zs.length := by omega
    simp [List.getD, hl]
end Go.Am
/- What came in, of whatever type without pointers and maps: it is data. -/
namespace Go.Am
set_option linter.all false
set_option linter.deprecated false
open Go.RowKit Go.ChangeShapes Go.WideShapes Go.ChangeAt
/-- the shape of a type's cells -/
def shp (P : Program) : Nat → TypeId → Option (List Sh)
  | 0, _ => none
  | n + 1, t => match P.underlying t with
    | some .bool => some [.bool]
    | some (.int k) => some [.int k]
    | some .string => some [.str]
    | some (.slice e) => match shp P n e with
      | some (s :: ss) => if (s :: ss).length = P.cellsOf e then some [.slice (s :: ss)] else none
      | _ => none
    | some (.struct fs) => match shpFs (shp P n) P fs.toList 0 with
      | some e => if e.length = P.cellsOf t then some e else none
      | none => none
    | some (.array c e) => match shp P n e with
      | some es => if es.length = P.cellsOf e ∧ (repSh es c).length = P.cellsOf t then some (repSh es c) else none
      | none => none
    | _ => none
where shpFs (g : TypeId → Option (List Sh)) (P : Program) : List Field → Nat → Option (List Sh)
  | [], _ => some []
  | f :: fs, o => match g f.type with
    | some es => if f.offset = o ∧ es.length = P.cellsOf f.type then match shpFs g P fs (o + es.length) with
        | some rest => some (es ++ rest)
        | none => none
      else none
    | none => none
section
variable {P : Program} {w : World} {H : Type} {enc : TypeId × Value → H}
theorem DatL.shift {I : Nat → Prop} : ∀ {e : List Sh} {j : Nat} {ds : List D} {cs : List Value} {pre : List D}, DatL w I e j ds cs → DatL w I e (pre.length + j) (pre ++ ds) cs
  | [], _, _, _, _, h => h
  | s :: ss, j, ds, cs, pre, h => by
    simp only [DatL] at h ⊢
    obtain ⟨u, cs', rfl, hd, h⟩ := h
    refine ⟨u, cs', rfl, ?_, ?_⟩
    · have : lk (pre ++ ds) (pre.length + j) = lk ds j := by simp only [lk, List.getD]; rw [List.getElem?_append_right (by omega), Nat.add_sub_cancel_left]
      rw [this]; exact hd
    · have := DatL.shift (pre := pre) h
      rwa [Nat.add_assoc]
theorem DatL.more {I : Nat → Prop} : ∀ {e : List Sh} {j : Nat} {ds : List D} {cs : List Value} {post : List D}, j + e.length ≤ ds.length → DatL w I e j ds cs → DatL w I e j (ds ++ post) cs
  | [], _, _, _, _, _, h => h
  | s :: ss, j, ds, cs, post, hl, h => by
    simp only [List.length_cons] at hl
    simp only [DatL] at h ⊢
    obtain ⟨u, cs', rfl, hd, h⟩ := h
    refine ⟨u, cs', rfl, ?_, DatL.more (by omega) h⟩
    have : lk (ds ++ post) j = lk ds j := by simp only [lk, List.getD]; rw [List.getElem?_append_left (by omega)]
    rw [this]; exact hd
theorem DatL.app {I : Nat → Prop} : ∀ {e1 e2 : List Sh} {j : Nat} {ds : List D} {c1 c2 : List Value}, DatL w I e1 j ds c1 → DatL w I e2 (j + e1.length) ds c2 → DatL w I (e1 ++ e2) j ds (c1 ++ c2)
  | [], _, _, _, c1, _, h1, h2 => by
    simp only [DatL] at h1
    subst h1
    simpa using h2
  | s :: ss, e2, j, ds, c1, c2, h1, h2 => by
    simp only [DatL, List.cons_append] at h1 ⊢
    obtain ⟨u, cs', rfl, hd, h⟩ := h1
    refine ⟨u, cs' ++ c2, rfl, hd, DatL.app h ?_⟩
    rwa [show j + 1 + ss.length = j + (s :: ss).length by simp; omega]
/-- two pieces -/
theorem DatL.two {I : Nat → Prop} {e1 e2 : List Sh} {d1 d2 : List D} {c1 c2 : List Value} (hl : d1.length = e1.length) (h1 : DatL w I e1 0 d1 c1) (h2 : DatL w I e2 0 d2 c2) : DatL w I (e1 ++ e2) 0 (d1 ++ d2) (c1 ++ c2) := by
  refine DatL.app (h1.more (by omega)) ?_
  have := h2.shift (pre := d1)
  rw [hl] at this
  rwa [Nat.zero_add]
theorem mapM_get {α β : Type} {f : α → Option β} : ∀ {xs : List α} {ys : List β}, xs.mapM f = some ys → ys.length = xs.length ∧ ∀ (i : Nat) (x : α), xs[i]? = some x → ∃ y, ys[i]? = some y ∧ f x = some y
  | [], ys, h => by
    simp at h
    subst h
    exact ⟨rfl, fun i x hx => by simp at hx⟩
  | x :: xs, ys, h => by
    rw [List.mapM_cons] at h
    cases hx : f x with
    | none => rw [hx] at h; cases h
    | some y =>
      rw [hx] at h
      cases hxs : xs.mapM f with
      | none => rw [hxs] at h; cases h
      | some ys' =>
        rw [hxs] at h
        cases h
        obtain ⟨h1, h2⟩ := mapM_get hxs
        refine ⟨by simp [h1], fun i z hz => ?_⟩
        cases i with
        | zero => simp at hz; subst hz; exact ⟨y, rfl, hx⟩
        | succ i => exact h2 i z (by simpa using hz)
/-- what has been trodden is data of its type's shape -/
theorem trod_dat : ∀ (m fuel : Nat) (t : TypeId) (cs : List Value) (x : DataW H × List MemPlace) (e : List Sh), DataW.trod enc P w 0 (fun _ => true) true fuel t cs = some x → shp P m t = some e → ∃ ds : List D, ds.length = e.length ∧ DatL w (allB w) e 0 ds cs
  | 0, _, _, _, _, _, _, h => by simp [shp] at h
  | _ + 1, 0, _, _, _, _, h, _ => by simp [DataW.trod] at h
  | m + 1, fuel + 1, t, cs, x, e, h, hs => by
    simp only [shp] at hs
    unfold DataW.trod at h
    split at hs
    · rename_i hu
      rw [hu] at h
      cases hs
      split at h <;> (try (simp_all; done))
      rename_i b he
      refine ⟨[.bool b], rfl, ?_⟩
      simp only [DatL, Dat, lk, List.getD, List.getElem?_cons_zero, Option.getD_some, D.toBool]
      exact ⟨_, [], rfl, rfl, rfl⟩
    · rename_i k hu
      rw [hu] at h
      cases hs
      split at h <;> (try (simp_all; done))
      rename_i k1 k' n he
      cases he
      split at h
      · rename_i hk
        obtain ⟨rfl, hwf⟩ := hk
        refine ⟨[.int n], rfl, ?_⟩
        simp only [DatL, Dat, lk, List.getD, List.getElem?_cons_zero, Option.getD_some, D.toInt]
        exact ⟨_, [], rfl, ⟨rfl, wf_lit hwf⟩, rfl⟩
      · cases h
    · rename_i hu
      rw [hu] at h
      cases hs
      split at h <;> (try (simp_all; done))
      rename_i s he
      split at h
      · rename_i hl
        refine ⟨[.str s.data.toList], rfl, ?_⟩
        simp only [DatL, Dat, lk, List.getD, List.getElem?_cons_zero, Option.getD_some, D.toStr]
        exact ⟨_, [], rfl, ⟨s, rfl, rfl, hl⟩, rfl⟩
      · cases h
    · rename_i el hu
      split at hs <;> (try (cases hs; done))
      rename_i s ss hes
      split at hs <;> (try (cases hs; done))
      rename_i hlen
      cases hs
      rcases DataW.trod_slice (enc := enc) (w := w) (base := 0) (spare := fun _ => true) (held := true) (fuel := fuel + 1) (cs := cs) (x := x) hu (by unfold DataW.trod; exact h) with ⟨rfl, _⟩ | ⟨a, len, cap, elems, rest, n, hn, rfl, _, _, hl, hm, hle, hel, _, _⟩
      · refine ⟨[.list []], rfl, ?_⟩
        simp only [DatL, Dat, lk, List.getD, List.getElem?_cons_zero, Option.getD_some, D.toList]
        exact ⟨_, [], rfl, ⟨none, 0, 0, rfl, rfl, Nat.le_refl _, Nat.zero_le _, fun _ => rfl, by simp, fun i hi => by simp at hi⟩, rfl⟩
      · have hfn : n = fuel := by omega
        subst hfn
        have each : ∀ i, i < len → ∃ ds : List D, ds.length = (s :: ss).length ∧ ∃ ci, DatL w (allB w) (s :: ss) 0 ds ci ∧ w.cells? 0 (a.add (i * P.cellsOf el)) (P.cellsOf el) = some ci := fun i hi => by
          have h1 := hel i hi
          rw [List.getElem?_eq_getElem (by omega)] at h1
          cases hc : w.cells? 0 (a.add (i * P.cellsOf el)) (P.cellsOf el) with
          | none => rw [hc] at h1; cases h1
          | some ci =>
            rw [hc] at h1
            obtain ⟨ds, g1, g2⟩ := trod_dat m n el ci _ _ h1 hes
            exact ⟨ds, g1, ci, g2, rfl⟩
        let f : Nat → List D := fun i => if h : i < len then (each i h).choose else []
        refine ⟨[.list ((List.range len).map f)], rfl, ?_⟩
        simp only [DatL, Dat, lk, List.getD, List.getElem?_cons_zero, Option.getD_some, D.toList]
        refine ⟨_, [], rfl, ⟨some a, len, cap, rfl, by simp, hl, hm, fun hh => (by cases hh), by simp, fun i hi => ?_⟩, rfl⟩
        have hi' : i < len := by simpa using hi
        obtain ⟨ci, hd, hc⟩ := (each i hi').choose_spec.2
        obtain ⟨_, hcl, hcell⟩ := World.cells?_some hc
        have h0 : 0 < P.cellsOf el := by rw [← hlen]; simp
        have hc0 := hcell 0 h0
        rw [List.getElem?_eq_getElem (by omega)] at hc0
        have hlt := cell_lt hc0
        obtain ⟨b, off, spot⟩ := a
        have hs : spot = none := by
          obtain ⟨c0, _, hc0'⟩ := (each 0 (by omega)).choose_spec.2
          obtain ⟨_, hcl0, hcell0⟩ := World.cells?_some hc0'
          have h2 := hcell0 0 h0
          rw [List.getElem?_eq_getElem (by omega)] at h2
          have h3 := World.cell?_spot h2
          simpa [Addr.add] using h3
        subst hs
        have hadd : ∀ o k : Nat, (⟨b, o, none⟩ : Addr).add k = ⟨b, o + k, none⟩ := fun o k => by
          simp only [Addr.add]; split <;> simp_all
        rw [hadd, hadd] at hlt
        refine ⟨b, off, rfl, hlt, ?_⟩
        have hf : (List.map f (List.range len))[i]?.getD default = (each i hi').choose := by
          simp [f, hi']
        rw [hf]
        refine DatL.toC _ 0 _ _ ci hd fun k c hk => ?_
        have hkl : k < P.cellsOf el := by
          have := (List.getElem?_eq_some_iff.1 hk).1
          omega
        have := hcell k hkl
        rw [hadd, hadd, hk] at this
        rw [hlen]
        simpa using this
    · rename_i fs hu
      rw [hu] at h
      have key : ∀ (gs : List Field) (o : Nat) (e : List Sh) (ys : List (DataW H × List MemPlace)), shp.shpFs (shp P m) P gs o = some e → gs.mapM (fun f => DataW.trod enc P w 0 (fun _ => true) true fuel f.type ((cs.drop f.offset).take (P.cellsOf f.type))) = some ys → o + e.length ≤ cs.length →
          ∃ ds : List D, ds.length = e.length ∧ DatL w (allB w) e 0 ds ((cs.drop o).take e.length) := by
        intro gs
        induction gs with
        | nil =>
          intro o e ys hse _ _
          simp only [shp.shpFs, Option.some.injEq] at hse
          subst hse
          exact ⟨[], rfl, by simp [DatL]⟩
        | cons g gs ih =>
          intro o e ys hse hm hl
          simp only [shp.shpFs] at hse
          split at hse <;> (try (cases hse; done))
          rename_i es hes
          split at hse <;> (try (cases hse; done))
          rename_i hoff
          obtain ⟨ho, hesl⟩ := hoff
          split at hse <;> (try (cases hse; done))
          rename_i rest hrest
          cases hse
          obtain ⟨h1, h2⟩ := mapM_get hm
          obtain ⟨y, _, hy⟩ := h2 0 g rfl
          obtain ⟨d1, l1, g1⟩ := trod_dat m fuel g.type _ y es hy hes
          have hm2 : ∃ ys', gs.mapM (fun f => DataW.trod enc P w 0 (fun _ => true) true fuel f.type ((cs.drop f.offset).take (P.cellsOf f.type))) = some ys' := by
            rw [List.mapM_cons] at hm
            cases hg : DataW.trod enc P w 0 (fun _ => true) true fuel g.type ((cs.drop g.offset).take (P.cellsOf g.type)) with
            | none => rw [hg] at hm; cases hm
            | some y0 =>
              rw [hg] at hm
              cases hgs : gs.mapM (fun f => DataW.trod enc P w 0 (fun _ => true) true fuel f.type ((cs.drop f.offset).take (P.cellsOf f.type))) with
              | none => rw [hgs] at hm; cases hm
              | some ys' => exact ⟨ys', rfl⟩
          obtain ⟨ys', hm2⟩ := hm2
          rw [List.length_append] at hl
          obtain ⟨d2, l2, g2⟩ := ih (o + es.length) rest ys' hrest hm2 (by omega)
          refine ⟨d1 ++ d2, by simp [l1, l2], ?_⟩
          have : (cs.drop o).take (es ++ rest).length = (cs.drop o).take es.length ++ (cs.drop (o + es.length)).take rest.length := by
            rw [List.length_append, List.take_add, List.drop_drop]
          rw [this]
          rw [ho, ← hesl] at g1
          exact DatL.two l1 g1 g2
      split at hs <;> (try (cases hs; done))
      rename_i e' he'
      split at hs <;> (try (cases hs; done))
      rename_i hel
      cases hs
      split at h <;> (try (simp_all; done))
      rename_i fs' cs' hfs
      cases hfs
      split at h <;> (try (cases h; done))
      rename_i hcl
      obtain ⟨ys, hys, _⟩ := Option.map_eq_some_iff.1 h
      obtain ⟨ds, l1, g1⟩ := key fs.toList 0 e ys he' hys (by omega)
      refine ⟨ds, l1, ?_⟩
      rwa [List.drop_zero, List.take_of_length_le (by omega)] at g1
    · rename_i c el hu
      rw [hu] at h
      split at hs <;> (try (cases hs; done))
      rename_i es hes
      split at hs <;> (try (cases hs; done))
      rename_i hel
      cases hs
      have key : ∀ ys, (List.range c).mapM (fun i => DataW.trod enc P w 0 (fun _ => true) true fuel el ((cs.drop (i * P.cellsOf el)).take (P.cellsOf el))) = some ys → ∀ (k o : Nat), o + k = c → ∃ ds : List D, ds.length = (repSh es k).length ∧ DatL w (allB w) (repSh es k) 0 ds ((cs.drop (o * es.length)).take (repSh es k).length) := by
        intro ys hys
        obtain ⟨h1, h2⟩ := mapM_get hys
        intro k
        induction k with
        | zero => intro o _; exact ⟨[], rfl, by simp [repSh, DatL]⟩
        | succ k ih =>
          intro o ho
          obtain ⟨y, _, hy⟩ := h2 o o (by rw [List.getElem?_range (by omega)])
          obtain ⟨d1, l1, g1⟩ := trod_dat m fuel el _ y es hy hes
          obtain ⟨d2, l2, g2⟩ := ih (o + 1) (by omega)
          refine ⟨d1 ++ d2, by simp [repSh, l1, l2], ?_⟩
          have : (cs.drop (o * es.length)).take (repSh es (k + 1)).length = (cs.drop (o * es.length)).take es.length ++ (cs.drop ((o + 1) * es.length)).take (repSh es k).length := by
            rw [repSh, List.length_append, List.take_add, List.drop_drop, Nat.succ_mul]
          rw [this, repSh]
          rw [← hel.1] at g1
          exact DatL.two l1 g1 g2
      split at h <;> (try (simp_all; done))
      rename_i n' el' cs' hfs
      cases hfs
      split at h <;> (try (cases h; done))
      rename_i hcl
      obtain ⟨ys, hys, _⟩ := Option.map_eq_some_iff.1 h
      obtain ⟨ds, l1, g1⟩ := key ys hys c 0 (by omega)
      refine ⟨ds, l1, ?_⟩
      rwa [Nat.zero_mul, List.drop_zero, List.take_of_length_le (by omega)] at g1
    · cases hs
end
section
variable {P : Program} {w : World} {H : Type} {enc : TypeId × Value → H}
theorem avs_go {I : Nat → Prop} {σ : Sig} {ds : List D} : ∀ (e : List Sh) (j : Nat) (cs : List Value), DatL w I e j ds cs → VRs w I σ (avs.go (fun _ => ds) e j) cs
  | [], _, cs, h => by simp only [DatL] at h; simp only [avs.go, VRs]; exact h
  | s :: ss, j, cs, h => by
    simp only [DatL] at h
    obtain ⟨u, cs', rfl, hd, h⟩ := h
    simp only [avs.go, VRs]
    refine ⟨u, cs', rfl, ?_, avs_go ss (j + 1) cs' h⟩
    cases s with
    | int k => simpa only [av, VR, Dat] using hd
    | bool => simpa only [av, VR, Dat] using hd
    | str => simpa only [av, VR, Dat] using hd
    | slice e => simp only [av, VR]; exact ⟨hd, fun h => by cases h⟩
    | ptr e => simp only [av, VR]
    | other => simp only [av, VR]
/-- a slice that came in -/
theorem trod_sl {m : Nat} {t el : TypeId} {es : List Sh} {v : Value} {d : DataW H} {p : List MemPlace} {base : Nat} (hu : P.underlying t = some (.slice el)) (hs : shp P m t = some [.slice es]) (hk : Value.okWide P w .any base t v) (h : DataW.Trod enc P w 0 (fun _ => true) true t v d p) :
    ∃ xs : List (List D), VR w (allB w) noS (.sl false es fun _ => xs) v := by
  obtain ⟨a, len, cap, rfl⟩ := okWide_slice hu hk
  obtain ⟨fuel, h⟩ := h
  obtain ⟨ds, _, hd⟩ := trod_dat m fuel t _ _ _ h hs
  simp only [DatL] at hd
  obtain ⟨u, cs', e1, hd, _⟩ := hd
  have e2 : Value.slice a len cap = u := by simpa [Value.cells] using (List.cons.inj e1).1
  subst e2
  refine ⟨(lk ds 0).toList, ?_⟩
  simp only [VR]
  refine ⟨?_, fun h => by cases h⟩
  simpa only [Dat, D.toList] using hd
/-- a struct, an array -/
theorem trod_agg {m : Nat} {t : TypeId} {es : List Sh} {us : Array Value} {d : DataW H} {p : List MemPlace} (hs : shp P m t = some es) (h : DataW.Trod enc P w 0 (fun _ => true) true t (.agg us) d p) :
    ∃ ds : List D, VR w (allB w) noS (.agg (avs es fun _ => ds)) (.agg us) := by
  obtain ⟨fuel, h⟩ := h
  obtain ⟨ds, _, hd⟩ := trod_dat m fuel t _ _ _ h hs
  refine ⟨ds, ?_⟩
  simp only [VR]
  exact ⟨us, rfl, avs_go es 0 _ (by simpa [Value.cells] using hd)⟩
theorem trod_int {t : TypeId} {k : IntKind} {v : Value} {d : DataW H} {p : List MemPlace} {base : Nat} (hu : P.underlying t = some (.int k)) (hk : Value.okWide P w .any base t v) (h : DataW.Trod enc P w 0 (fun _ => true) true t v d p) :
    ∃ n : Int, VR w (allB w) noS (.int k fun _ => n) v := by
  obtain ⟨n, rfl⟩ := okWide_int hu hk
  obtain ⟨fuel, h⟩ := h
  obtain ⟨ds, _, hd⟩ := trod_dat 1 fuel t _ _ [.int k] h (by simp only [shp, hu])
  simp only [DatL] at hd
  obtain ⟨u, cs', e1, hd, _⟩ := hd
  have e2 : Value.int k n = u := by simpa [Value.cells] using (List.cons.inj e1).1
  subst e2
  refine ⟨n, ?_⟩
  simp only [Dat, Value.int.injEq, true_and] at hd
  simp only [VR, true_and]
  rw [hd.1]; exact hd.2
end
end Go.Am
/- A value of an array's type is a row of cells. -/
namespace Go.Am
set_option linter.all false
set_option linter.deprecated false
theorem okWide_array {P : Program} {w : World} {r : Reach} {base n : Nat} {t e : TypeId} {v : Value} (ht : P.underlying t = some (.array n e)) (h : Value.okWide P w r base t v) : ∃ cs, v = .agg cs ∧ cs.size = P.cellsOf t := by
  simp only [Value.okWide, ht] at h
  obtain ⟨cs, h1, h2, _⟩ := h
  exact ⟨cs, h1, h2⟩
end Go.Am
/- The check of bytes: what it is, and how the machine's numbers reckon it. -/
namespace Go.Am
set_option linter.all false
set_option linter.deprecated false
abbrev B32 := BitVec 32
def cpoly : B32 := 3988292384#32
def csh (r : B32) : B32 := (r >>> 1) ^^^ (cpoly &&& -(r &&& 1#32))
def citer : Nat → B32 → B32
  | 0, r => r
  | n + 1, r => citer n (csh r)
def cbyte (s : B32) (c : Nat) : B32 := ~~~ (citer 8 (~~~ s ^^^ BitVec.ofNat 32 c))
def crcs (s : B32) (bs : List Nat) : B32 := bs.foldl cbyte s
theorem wrap_u32_nat (n : Nat) (h : n < 4294967296) : IntKind.u32.wrap (n : Int) = n := by rw [wrap_u32_mod]; omega
theorem ofInt_toNat (a : B32) : BitVec.ofInt 32 ((a.toNat : Nat) : Int) = a := by
  apply BitVec.eq_of_toNat_eq
  rw [BitVec.toNat_ofInt]
  have := a.isLt
  omega
theorem ib_xor (a b : B32) : ibits .xor .u32 (a.toNat : Int) (b.toNat : Int) = ((a ^^^ b).toNat : Int) := by
  show IntKind.u32.wrap (((BitVec.ofInt 32 (a.toNat : Int) ^^^ BitVec.ofInt 32 (b.toNat : Int) : B32).toNat : Nat) : Int) = _
  rw [ofInt_toNat, ofInt_toNat, wrap_u32_nat _ (a ^^^ b).isLt]
theorem ib_and (a b : B32) : ibits .and .u32 (a.toNat : Int) (b.toNat : Int) = ((a &&& b).toNat : Int) := by
  show IntKind.u32.wrap (((BitVec.ofInt 32 (a.toNat : Int) &&& BitVec.ofInt 32 (b.toNat : Int) : B32).toNat : Nat) : Int) = _
  rw [ofInt_toNat, ofInt_toNat, wrap_u32_nat _ (a &&& b).isLt]
theorem ib_not (a : B32) : ibits .xor .u32 (if IntKind.u32.signed then -1 else IntKind.u32.max) (a.toNat : Int) = ((~~~ a).toNat : Int) := by
  have e : (if IntKind.u32.signed then -1 else IntKind.u32.max) = (((BitVec.allOnes 32 : B32).toNat : Nat) : Int) := by decide
  rw [e, ib_xor, BitVec.allOnes_xor]
theorem ib_neg (a : B32) : IntKind.u32.wrap (0 - (a.toNat : Int)) = ((-a).toNat : Int) := by
  rw [wrap_u32_mod, BitVec.toNat_neg]
  have := a.isLt
  omega
theorem ib_shr (a : B32) : ishr .u32 (a.toNat : Int) 1 = ((a >>> 1).toNat : Int) := by
  simp [ishr, IntKind.bits, BitVec.toNat_ushiftRight, Nat.shiftRight_eq_div_pow, Int.fdiv_eq_ediv_of_nonneg]
theorem step32 (r : B32) : ibits .xor .u32 (ishr .u32 (r.toNat : Int) 1) (ibits .and .u32 3988292384 (IntKind.u32.wrap (0 - ibits .and .u32 (r.toNat : Int) 1))) = ((csh r).toNat : Int) := by
  have e1 : (1 : Int) = (((1#32 : B32).toNat : Nat) : Int) := by decide
  have e2 : (3988292384 : Int) = ((cpoly.toNat : Nat) : Int) := by decide
  have h := ib_and r 1#32
  rw [← e1] at h
  rw [h, ib_neg, ib_shr]
  have h2 := ib_and cpoly (-(r &&& 1#32))
  rw [← e2] at h2
  rw [h2, ib_xor]
  rfl
theorem start32 (s : B32) (c : Nat) (hc : c < 256) : ibits .xor .u32 (ibits .xor .u32 (if IntKind.u32.signed then -1 else IntKind.u32.max) (s.toNat : Int)) (IntKind.u32.wrap (c : Int)) = ((~~~ s ^^^ BitVec.ofNat 32 c).toNat : Int) := by
  rw [ib_not, wrap_u32_nat c (by omega)]
  have e : ((c : Nat) : Int) = (((BitVec.ofNat 32 c).toNat : Nat) : Int) := by rw [BitVec.toNat_ofNat]; omega
  rw [e, ib_xor]
theorem b32_of {s : Int} (h : 0 ≤ s ∧ s < 4294967296) : ∃ b : B32, s = (b.toNat : Int) := ⟨BitVec.ofNat 32 s.toNat, by rw [BitVec.toNat_ofNat]; omega⟩
@[simp] theorem ofNat_toNat32 (b : B32) : BitVec.ofNat 32 ((b.toNat : Int)).toNat = b := by simp
theorem crcs_append (s : B32) (a b : List Nat) : crcs s (a ++ b) = crcs (crcs s a) b := by simp [crcs, List.foldl_append]
theorem crcs_take {s : B32} {b : List Nat} {i : Nat} (h : i < b.length) : crcs s (b.take (i + 1)) = cbyte (crcs s (b.take i)) (b.getD i 0) := by
  rw [List.take_add_one, List.getElem?_eq_getElem h, crcs_append]
  simp [crcs, List.getD, h]
end Go.Am
/- internal/bytealg.MakeNoZero: bytes that nobody knows. -/
namespace Go.Am
set_option linter.all false
set_option linter.deprecated false
section
variable {P : Program} {w : World} {I : Nat → Prop} {σ : Sig}
def vInt : Value → Int
  | .int _ n => n
  | _ => 0
def nozC : Contract := { modes := [.ro], fn := fun _ _ => none, nfn := fun args M => match args, M with
  | [.int .i64 n], [] => some ⟨[fun _ => 0 ≤ n () ∧ n () ≤ big], fun d => d.toList.length = (n ()).toNat ∧ ∀ i, i < d.toList.length → WfDs U8 0 (lk d.toList i), fun d => (.ms 0 (fun _ => 0) (fun _ => (n ()).toNat), [(0, some (.row true U8 (fun _ => d.toList)))])⟩
  | _, _ => none }
theorem digits_bytes : ∀ (n t : Nat) (acc : Array Value), (∀ v ∈ acc.toList, ∃ b : Nat, b < 256 ∧ v = .int .u8 b) → ∀ v ∈ (Extern.BytealgMakeNoZero.digits n t acc).toList, ∃ b : Nat, b < 256 ∧ v = .int .u8 b
  | 0, _, _, h => h
  | n + 1, t, acc, h => by
    rw [Extern.BytealgMakeNoZero.digits]
    refine digits_bytes n _ _ fun v hv => ?_
    simp only [Array.toList_push, List.mem_append, List.mem_singleton] at hv
    rcases hv with hv | rfl
    · exact h v hv
    · exact ⟨t % 256, Nat.mod_lt _ (by decide), rfl⟩
theorem run_noz (ps : Array TypeId) (t e : TypeId) (ht : P.underlying t = some (.slice e)) (n : Nat) (hn : n ≤ big) :
    ∃ cs : Array Value, (Extern.BytealgMakeNoZero.makeNoZero ps #[t] #[.int .i64 n]).run P w = .ok (.slice (some ⟨w.heap.size, 0, none⟩) n cs.size) (w.drew.drew.alloc (.cells cs e)) ∧ n ≤ cs.size ∧ cs.size ≤ maxLen ∧ ∀ v ∈ cs.toList, ∃ b : Nat, b < 256 ∧ v = .int .u8 b := by
  have hb : n ≤ 1099511627776 := hn
  have h1 : ¬ ((n : Int) < 0 || (n : Int) > 2 ^ 48) = true := by simp; omega
  refine ⟨Extern.BytealgMakeNoZero.digits (grownCap w n 0 e) ((Question.extern "internal/bytealg.MakeNoZero.bytes" 0).cut (w.drew.tape w.drew.drawn (.extern "internal/bytealg.MakeNoZero.bytes" 0))) #[], ?_, ?_, ?_, digits_bytes _ _ _ (by simp)⟩
  · have hdef : Extern.BytealgMakeNoZero.makeNoZero ps #[t] #[.int .i64 n] =
        (do
          let .slice elem ← underlying t | stuck "bytealg.MakeNoZero: slice type expected"
          if (n : Int) < 0 || (n : Int) > 2 ^ 48 then runtimePanic (.error "makeslice: len out of range")
          let cap ← choose (.appendCap (n : Int).toNat 0 elem)
          askRoom cap
          let bytes ← choose (.extern "internal/bytealg.MakeNoZero.bytes" 0)
          let a ← newRow elem (Extern.BytealgMakeNoZero.digits cap bytes #[])
          pure (.slice (some a) (n : Int).toNat cap) : Sem Value) := rfl
    rw [hdef]
    simp only [Sem.run_bind, run_underlying ht, Result.andThen_ok, if_neg h1, Sem.run_pure, Int.toNat_natCast]
    simp [Question.forced, newRow, grownCap, Lib.size_digits]
  · rw [Lib.size_digits]
    have := grownCap_ge w n 0 e
    simp; omega
  · rw [Lib.size_digits]
    have := grownCap_le_maxLen w n 0 e (by unfold maxLen; omega)
    simp; omega
theorem noz_ok {f : FuncId} {fn : Func} {t e : TypeId} (hf : P.funcs[f]? = some fn) (hname : (fn.name == "runtime.NumGoroutine") = false) (hb : fn.body.isNone = true) (hn : Extern.findNext fn = none) {ps : Array TypeId}
    (he : Extern.find fn = some (Extern.BytealgMakeNoZero.makeNoZero ps #[t])) (ht : P.underlying t = some (.slice e)) : CSound P f nozC := by
  refine ⟨fun args M r hr => by simp [nozC] at hr, fun args M r hr hvc => ?_⟩
  intro w I σ vs hok hfree hargs o a K Q hK
  simp only [nozC] at hr
  split at hr <;> cases hr
  rename_i n
  have hv : 0 ≤ n () ∧ n () ≤ big := hvc _ (List.mem_singleton.2 rfl)
  simp only [VRs, VR] at hargs
  obtain ⟨u, us, rfl, ⟨rfl, _⟩, rfl⟩ := hargs
  obtain ⟨m, hm⟩ := Int.eq_ofNat_of_zero_le hv.1
  obtain ⟨cs, hrun, h1, h2, h3⟩ := run_noz (P := P) (w := w) ps t e ht m (by have := hv.2; rw [hm] at this; exact Int.ofNat_le.1 this)
  have hl : (cs.toList.take m).length = m := by simp; omega
  have hrow : RowL w I U8 ((cs.toList.take m).map fun v => [D.int (vInt v)]) (cs.toList.take m) := by
    refine ⟨by simp, fun i hi => ?_⟩
    rw [List.length_map] at hi
    have hv3 := h3 (cs.toList.take m)[i] (List.mem_of_mem_take (List.getElem_mem hi))
    obtain ⟨b, hb, e1⟩ := hv3
    have e2 : ((cs.toList.take m).drop (i * 1)).take 1 = [(cs.toList.take m)[i]] := by
      rw [Nat.mul_one, List.drop_eq_getElem_cons hi]; rfl
    show DatL w I U8 0 _ (((cs.toList.take m).drop (i * 1)).take 1)
    rw [e2, e1]
    have e3 : lk ((cs.toList.take m).map fun v => [D.int (vInt v)]) i = [D.int b] := by
      simp only [lk, List.getD, List.getElem?_map, List.getElem?_eq_getElem hi, e1]
      rfl
    rw [e3]
    refine ⟨_, [], rfl, ?_, rfl⟩
    simp only [Dat, lk, List.getD, List.getElem?_cons_zero, Option.getD_some, D.toInt, true_and, u8_iff]
    omega
  have hpost := Post.alloc (key := 0) (M := []) (w := w) (I := I) (w' := w.drew.drew.alloc (.cells cs e)) (x := .cells cs e) (cap := cs.size) (sz := 1) (val := .ms 0 (fun _ => 0) (fun _ => m)) (v := .slice (some ⟨w.heap.size, 0, none⟩) m cs.size)
    (y := .row true U8 (fun _ => (cs.toList.take m).map fun v => [D.int (vInt v)])) hok (hfree 0 (Nat.le_refl _)) ⟨rfl, rfl, rfl, rfl⟩ trivial
    (row_new (w := w) (I := I) (w' := w.drew.drew.alloc (.cells cs e)) (cs0 := cs) (t := e) (fz := (0, 0)) ⟨rfl, rfl, rfl, rfl⟩ hok.lt (by decide) hrow (by simp) (fun j c hc => by
      rw [List.getElem?_take] at hc
      split at hc
      · simpa using hc
      · cases hc) (by rw [List.length_map, hl]; exact h1) h2 (by simp [unfrozen]))
    (by simp only [VR, Sig.upd_same, MsR]; exact ⟨0, cs.size, rfl, .inr (by simp), by simp, h1, h2⟩)
  obtain ⟨I', σ', g1, g2, g3, _⟩ := hpost
  have hcall : (callFunc f [Value.int .i64 (n ())].toArray).run P w = .ok (.value (.slice (some ⟨w.heap.size, 0, none⟩) m cs.size)) (w.drew.drew.alloc (.cells cs e)) := by
    rw [hm, run_callFunc_extern hf hname hb hn he, show [Value.int .i64 (m : Int)].toArray = #[.int .i64 (m : Int)] from rfl, hrun]
    rfl
  rw [hcall]
  have hmn : (n ()).toNat = m := by omega
  refine hK _ _ ⟨_, _, ⟨.list ((cs.toList.take m).map fun v => [D.int (vInt v)]), ⟨?_, ?_⟩, rfl⟩, I', σ', ?_, g2, g3⟩
  · simp only [D.toList, List.length_map, hl, hmn]
  · intro i hi
    have := hrow.2 i (by simpa [D.toList] using hi)
    obtain ⟨u, cs', _, hd, _⟩ := this
    simp only [WfDs, WfD, and_true, D.toList]
    exact hd.2
  · simp only [hmn]
    exact g1
end
end Go.Am
/- A table of types held against the program's own. -/
namespace Go.Am
set_option linter.all false
set_option linter.deprecated false
section
variable {P : Program}
def infSz (P : Program) (t sz : Nat) : Bool := match P.info? t with | some inf => Nat.beq inf.size sz | none => false
def fsOk (P : Program) : List (Nat × Nat × Nat) → List Field → Bool
  | [], _ => true
  | _ :: _, [] => false
  | (off, ft, sz) :: fs, g :: gs => Nat.beq g.offset off && Nat.beq g.type ft && infSz P ft sz && fsOk P fs gs
def tdOk (P : Program) : TD → TypeDesc → Bool
  | .int k, .int k' => decide (k' = k)
  | .bool, .bool => true
  | .str, .string => true
  | .slice el esz eb esh, .slice el' => Nat.beq el' el && Nat.beq esh.length esz && Nat.blt 0 esz && (match P.info? el with
    | some inf => Nat.beq inf.size esz && Nat.beq inf.bytes eb && (match inf.zero with | some z => Nat.beq z.cells.size esz | none => false)
    | none => false)
  | .ptr el, .pointer el' => Nat.beq el' el
  | .struct fs cmp, .struct fields => fsOk P fs fields.toList && Nat.beq fs.length fields.size && (!cmp || fields.toList.all fun g => g.name != "_")
  | .array n el esz, .array n' el' => Nat.beq n' n && Nat.beq el' el && infSz P el esz
  | .func, .func .. => true
  | .other, _ => true
  | _, _ => false
def zOk : AV → Value → Bool
  | .un, _ => true
  | .int k n, .int k' m => decide (k' = k) && decide (m = n ()) && wfB k (n ())
  | .bool b, .bool c => c == b ()
  | .str s, .string t => decide (t.data.toList = s ()) && Nat.ble t.size maxLen
  | .nils, .slice none 0 0 => true
  | .nilp, .pointer none => true
  | .nilf, .nilFunc => true
  | _, _ => false
def zsOk : List AV → List Value → Bool
  | [], [] => true
  | v :: vs, u :: us => zOk v u && zsOk vs us
  | _, _ => false
def tiOk (P : Program) (t : Nat) (i : TI) : Bool :=
  (match P.underlying t with | some d => tdOk P i.td d && (i.agg == isAggD d) | none => false) &&
  (match i.td with | .struct _ true => !(P.stoodInHeld t) && !(P.eqGuardType P.depth t) | _ => true) &&
  (match P.info? t with
    | some inf => Nat.beq inf.size i.size && (match inf.zero with | some z => Nat.beq z.cells.size i.size && zsOk i.zero z.cells.toList | none => false)
    | none => false)
def tabOk (P : Program) : TL → Bool
  | [] => true
  | (t, i) :: L => tiOk P t i && tabOk P L
theorem infSz_iff {t sz : Nat} (h : infSz P t sz = true) : ∃ inf, P.info? t = some inf ∧ inf.size = sz := by
  unfold infSz at h
  split at h
  · rename_i inf hi
    exact ⟨inf, hi, Nat.eq_of_beq_eq_true h⟩
  · cases h
theorem fsOk_iff : ∀ {fs : List (Nat × Nat × Nat)} {gs : List Field}, fsOk P fs gs = true → FsR P fs gs
  | [], _, _ => trivial
  | _ :: _, [], h => by simp [fsOk] at h
  | (off, ft, sz) :: fs, g :: gs, h => by
    simp only [fsOk, Bool.and_eq_true] at h
    exact ⟨Nat.eq_of_beq_eq_true h.1.1.1, Nat.eq_of_beq_eq_true h.1.1.2, infSz_iff h.1.2, fsOk_iff h.2⟩
theorem tdOk_iff {td : TD} {d : TypeDesc} (h : tdOk P td d = true) : TDok P td d := by
  unfold tdOk at h
  split at h <;> simp only [TDok] <;> (try (cases h; done))
  · rw [of_decide_eq_true h]
  · rename_i el esz eb esh el'
    simp only [Bool.and_eq_true] at h
    obtain ⟨⟨⟨h1, h2⟩, h3⟩, h4⟩ := h
    have h1 := Nat.eq_of_beq_eq_true h1
    subst h1
    refine ⟨rfl, Nat.eq_of_beq_eq_true h2, by rw [Nat.blt] at h3; exact Nat.le_of_ble_eq_true h3, ?_⟩
    split at h4 <;> (try (cases h4; done))
    rename_i inf hi
    simp only [Bool.and_eq_true] at h4
    obtain ⟨⟨g1, g2⟩, g3⟩ := h4
    split at g3 <;> (try (cases g3; done))
    rename_i z hz
    exact ⟨inf, z, hi, Nat.eq_of_beq_eq_true g1, Nat.eq_of_beq_eq_true g2, hz, Nat.eq_of_beq_eq_true g3⟩
  · rw [Nat.eq_of_beq_eq_true h]
  · rename_i fs cmp fields
    simp only [Bool.and_eq_true] at h
    obtain ⟨⟨h1, h2⟩, h3⟩ := h
    refine ⟨fields, rfl, fsOk_iff h1, Nat.eq_of_beq_eq_true h2, fun hc g hg => ?_⟩
    rw [hc] at h3
    simp only [Bool.not_true, Bool.false_or] at h3
    have := List.all_eq_true.1 h3 g hg
    simpa using this
  · simp only [Bool.and_eq_true] at h
    obtain ⟨⟨h1, h2⟩, h3⟩ := h
    rw [Nat.eq_of_beq_eq_true h1, Nat.eq_of_beq_eq_true h2]
    exact ⟨rfl, infSz_iff h3⟩
  · exact ⟨_, _, _, rfl⟩
theorem zOk_iff {v : AV} {u : Value} (h : zOk v u = true) (w : World) (I : Nat → Prop) (σ : Sig) : VR w I σ v u := by
  unfold zOk at h
  split at h
  · simp only [VR]
  · simp only [Bool.and_eq_true, decide_eq_true_eq] at h
    obtain ⟨⟨rfl, rfl⟩, h⟩ := h
    simp only [VR, true_and]
    exact h
  · simp only [beq_iff_eq] at h
    simp only [VR, h]
  · simp only [Bool.and_eq_true, decide_eq_true_eq] at h
    simp only [VR]
    exact ⟨_, rfl, h.1, Nat.le_of_ble_eq_true h.2⟩
  · simp only [VR]
  · simp only [VR]
  · simp only [VR]
  · cases h
theorem zsOk_iff : ∀ {vs : List AV} {us : List Value}, zsOk vs us = true → ∀ (w : World) (I : Nat → Prop) (σ : Sig), VRs w I σ vs us
  | [], [], _, _, _, _ => by simp only [VRs]
  | [], _ :: _, h, _, _, _ => by simp [zsOk] at h
  | _ :: _, [], h, _, _, _ => by simp [zsOk] at h
  | v :: vs, u :: us, h, w, I, σ => by
    simp only [zsOk, Bool.and_eq_true] at h
    simp only [VRs]
    exact ⟨u, us, rfl, zOk_iff h.1 w I σ, zsOk_iff h.2 w I σ⟩
theorem tiOk_iff {t : Nat} {i : TI} (h : tiOk P t i = true) : TIok P t i := by
  simp only [tiOk, Bool.and_eq_true] at h
  obtain ⟨⟨h1, h2⟩, h3⟩ := h
  refine ⟨?_, fun hc => ?_, ?_⟩
  · split at h1 <;> (try (cases h1; done))
    rename_i d hd
    simp only [Bool.and_eq_true, beq_iff_eq] at h1
    exact ⟨d, hd, tdOk_iff h1.1, h1.2⟩
  · split at h2
    · simpa using h2
    · rename_i hn
      split at hc
      · rename_i fs c htd
        cases c
        · cases hc
        · exact (hn fs htd).elim
      · cases hc
  · split at h3 <;> (try (cases h3; done))
    rename_i inf hi
    simp only [Bool.and_eq_true] at h3
    obtain ⟨g1, g2⟩ := h3
    split at g2 <;> (try (cases g2; done))
    rename_i z hz
    simp only [Bool.and_eq_true] at g2
    exact ⟨inf, z, hi, Nat.eq_of_beq_eq_true g1, hz, Nat.eq_of_beq_eq_true g2.1, zsOk_iff g2.2⟩
theorem tab_ok : ∀ {L : TL}, tabOk P L = true → ∀ t i, tget' L t = some i → TIok P t i
  | [], _, _, _, h => by simp [tget'] at h
  | (k, i0) :: L, hL, t, i, h => by
    simp only [tabOk, Bool.and_eq_true] at hL
    simp only [tget'] at h
    split at h
    · rename_i hb
      have hb := Nat.eq_of_beq_eq_true hb
      subst hb
      cases h
      exact tiOk_iff hL.1
    · exact tab_ok hL.2 t i h
end
end Go.Am
/- The types of this program that the walks meet. -/
namespace Go.Am
set_option linter.all false
set_option linter.deprecated false
open Go.Proofs
set_option maxRecDepth 100000
def tyL : TL := [
  (1, ⟨1, false, [.nilf], .func⟩),
  (2, ⟨1, false, [.int .i64 fun _ => 0], .int .i64⟩),
  (3, ⟨1, false, [.int .i64 fun _ => 0], .int .i64⟩),
  (4, ⟨1, false, [.bool fun _ => false], .bool⟩),
  (5, ⟨1, false, [.int .u8 fun _ => 0], .int .u8⟩),
  (6, ⟨1, false, [.int .u8 fun _ => 0], .int .u8⟩),
  (7, ⟨4, true, [.int .i64 fun _ => 0, .int .i64 fun _ => 0, .bool fun _ => false, .int .u8 fun _ => 0], .struct [(0, 2, 1), (1, 3, 1), (2, 4, 1), (3, 6, 1)] false⟩),
  (8, ⟨4, true, [.int .i64 fun _ => 0, .int .i64 fun _ => 0, .bool fun _ => false, .int .u8 fun _ => 0], .struct [(0, 2, 1), (1, 3, 1), (2, 4, 1), (3, 6, 1)] false⟩),
  (9, ⟨1, false, [.str fun _ => []], .str⟩),
  (10, ⟨1, false, [.str fun _ => []], .str⟩),
  (11, ⟨1, false, [.str fun _ => []], .str⟩),
  (12, ⟨1, false, [.int .u64 fun _ => 0], .int .u64⟩),
  (13, ⟨2, true, [.str fun _ => [], .int .u64 fun _ => 0], .struct [(0, 9, 1), (1, 12, 1)] false⟩),
  (14, ⟨2, true, [.str fun _ => [], .int .u64 fun _ => 0], .struct [(0, 9, 1), (1, 12, 1)] false⟩),
  (15, ⟨1, false, [.nilp], .ptr 153⟩),
  (16, ⟨1, false, [.nilp], .ptr 156⟩),
  (17, ⟨1, false, [.nilp], .ptr 164⟩),
  (18, ⟨1, true, [.nilp], .struct [(0, 17, 1)] false⟩),
  (19, ⟨1, true, [.nilp], .struct [(0, 17, 1)] false⟩),
  (21, ⟨1, false, [.int .i32 fun _ => 0], .int .i32⟩),
  (22, ⟨1, false, [.int .u64 fun _ => 0], .int .u64⟩),
  (23, ⟨1, false, [.nils], .slice 5 1 1 [.int .u8]⟩),
  (24, ⟨1, false, [.nilf], .func⟩),
  (25, ⟨1, false, [.nilf], .func⟩),
  (26, ⟨1, false, [.nilf], .func⟩),
  (27, ⟨1, false, [.int .i64 fun _ => 0], .int .i64⟩),
  (29, ⟨1, false, [.nilf], .func⟩),
  (30, ⟨1, false, [.nilf], .func⟩),
  (31, ⟨1, false, [.nilf], .func⟩),
  (32, ⟨1, false, [.nilf], .func⟩),
  (33, ⟨1, false, [.nilf], .func⟩),
  (34, ⟨1, false, [.nilf], .func⟩),
  (36, ⟨1, false, [.nilf], .func⟩),
  (37, ⟨1, false, [.nilf], .func⟩),
  (38, ⟨1, false, [.int .u32 fun _ => 0], .int .u32⟩),
  (39, ⟨1, false, [.nilf], .func⟩),
  (40, ⟨1, false, [.nilf], .func⟩),
  (41, ⟨1, false, [.nilf], .func⟩),
  (42, ⟨1, false, [.nilf], .func⟩),
  (43, ⟨1, false, [.nilf], .func⟩),
  (44, ⟨1, false, [.nilf], .func⟩),
  (45, ⟨1, false, [.nilf], .func⟩),
  (46, ⟨1, false, [.nils], .slice 52 5 72 [.int .i64, .int .u64, .int .i64, .slice [.int .u8], .slice [.int .u64]]⟩),
  (47, ⟨1, false, [.nilf], .func⟩),
  (48, ⟨1, true, [.nils], .struct [(0, 23, 1)] false⟩),
  (49, ⟨1, true, [.nils], .struct [(0, 23, 1)] false⟩),
  (50, ⟨1, false, [.nils], .slice 22 1 8 [.int .u64]⟩),
  (51, ⟨5, true, [.int .i64 fun _ => 0, .int .u64 fun _ => 0, .int .i64 fun _ => 0, .nils, .nils], .struct [(0, 3, 1), (1, 22, 1), (2, 3, 1), (3, 23, 1), (4, 50, 1)] false⟩),
  (52, ⟨5, true, [.int .i64 fun _ => 0, .int .u64 fun _ => 0, .int .i64 fun _ => 0, .nils, .nils], .struct [(0, 3, 1), (1, 22, 1), (2, 3, 1), (3, 23, 1), (4, 50, 1)] false⟩),
  (53, ⟨1, false, [.nilf], .func⟩),
  (54, ⟨1, false, [.nilf], .func⟩),
  (55, ⟨1, false, [.nilf], .func⟩),
  (56, ⟨1, false, [.nilf], .func⟩),
  (57, ⟨1, false, [.nilf], .func⟩),
  (58, ⟨1, false, [.nils], .slice 23 1 24 [.slice [.int .u8]]⟩),
  (60, ⟨1, false, [.nilf], .func⟩),
  (61, ⟨2, true, [.int .u32 fun _ => 0, .int .i64 fun _ => 0], .struct [(0, 38, 1), (1, 3, 1)] false⟩),
  (62, ⟨2, true, [.int .u32 fun _ => 0, .int .i64 fun _ => 0], .struct [(0, 38, 1), (1, 3, 1)] false⟩),
  (63, ⟨2, true, [.int .u32 fun _ => 0, .int .i64 fun _ => 0], .struct [(0, 62, 2)] false⟩),
  (64, ⟨2, true, [.int .u32 fun _ => 0, .int .i64 fun _ => 0], .struct [(0, 62, 2)] false⟩),
  (65, ⟨1, false, [.nilp], .ptr 64⟩),
  (66, ⟨1, false, [.nilf], .func⟩),
  (67, ⟨1, false, [.nilf], .func⟩),
  (68, ⟨1, false, [.nilf], .func⟩),
  (69, ⟨1, false, [.nilf], .func⟩),
  (70, ⟨1, false, [.nilp], .ptr 134⟩),
  (71, ⟨1, false, [.nilf], .func⟩),
  (72, ⟨3, true, [.str fun _ => [], .int .i64 fun _ => 0, .int .i64 fun _ => 0], .struct [(0, 9, 1), (1, 3, 1), (2, 27, 1)] false⟩),
  (73, ⟨3, true, [.str fun _ => [], .int .i64 fun _ => 0, .int .i64 fun _ => 0], .struct [(0, 9, 1), (1, 3, 1), (2, 27, 1)] false⟩),
  (75, ⟨1, false, [.nilf], .func⟩),
  (76, ⟨1, false, [.nilf], .func⟩),
  (78, ⟨1, false, [.nilf], .func⟩),
  (79, ⟨1, false, [.nilf], .func⟩),
  (80, ⟨1, false, [.nilf], .func⟩),
  (82, ⟨1, false, [.nilf], .func⟩),
  (83, ⟨1, false, [.nilf], .func⟩),
  (84, ⟨1, false, [.nilf], .func⟩),
  (85, ⟨1, false, [.nilf], .func⟩),
  (86, ⟨1, false, [.nilp], .ptr 49⟩),
  (87, ⟨1, false, [.nilf], .func⟩),
  (88, ⟨1, false, [.nils], .slice 137 4 40 [.int .u8, .str, .int .i64, .int .i64]⟩),
  (89, ⟨1, false, [.int .i64 fun _ => 0], .int .i64⟩),
  (91, ⟨1, false, [.nilf], .func⟩),
  (92, ⟨1, false, [.nilf], .func⟩),
  (93, ⟨1, false, [.nilf], .func⟩),
  (94, ⟨1, false, [.nilf], .func⟩),
  (95, ⟨2, true, [.int .u8 fun _ => 0, .nils], .struct [(0, 5, 1), (1, 23, 1)] false⟩),
  (96, ⟨2, true, [.int .u8 fun _ => 0, .nils], .struct [(0, 5, 1), (1, 23, 1)] false⟩),
  (98, ⟨1, false, [.nilf], .func⟩),
  (99, ⟨2, true, [.int .u8 fun _ => 0, .str fun _ => []], .struct [(0, 5, 1), (1, 9, 1)] false⟩),
  (100, ⟨2, true, [.int .u8 fun _ => 0, .str fun _ => []], .struct [(0, 5, 1), (1, 9, 1)] true⟩),
  (102, ⟨1, false, [.nilf], .func⟩),
  (103, ⟨1, false, [.nilf], .func⟩),
  (104, ⟨1, false, [.nils], .slice 120 4 48 [.int .u8, .slice [.int .u8], .int .i64, .int .i64]⟩),
  (106, ⟨1, false, [.nilf], .func⟩),
  (107, ⟨1, false, [.nilf], .func⟩),
  (108, ⟨1, false, [.nilf], .func⟩),
  (109, ⟨1, false, [.nilf], .func⟩),
  (110, ⟨1, false, [.nils], .slice 96 2 32 [.int .u8, .slice [.int .u8]]⟩),
  (111, ⟨1, false, [.nilf], .func⟩),
  (112, ⟨1, false, [.nils], .slice 100 2 24 [.int .u8, .str]⟩),
  (113, ⟨1, false, [.nilf], .func⟩),
  (114, ⟨1, false, [.nilf], .func⟩),
  (115, ⟨1, false, [.nilf], .func⟩),
  (116, ⟨1, false, [.nilf], .func⟩),
  (117, ⟨1, false, [.nilf], .func⟩),
  (118, ⟨4, true, [.int .u8 fun _ => 0, .int .u8 fun _ => 0, .int .u8 fun _ => 0, .int .u8 fun _ => 0], .array 4 5 1⟩),
  (119, ⟨4, true, [.int .u8 fun _ => 0, .nils, .int .i64 fun _ => 0, .int .i64 fun _ => 0], .struct [(0, 96, 2), (2, 3, 1), (3, 3, 1)] false⟩),
  (120, ⟨4, true, [.int .u8 fun _ => 0, .nils, .int .i64 fun _ => 0, .int .i64 fun _ => 0], .struct [(0, 96, 2), (2, 3, 1), (3, 3, 1)] false⟩),
  (121, ⟨1, false, [.nilf], .func⟩),
  (122, ⟨1, false, [.nils], .slice 3 1 8 [.int .i64]⟩),
  (123, ⟨1, false, [.int .u64 fun _ => 0], .int .u64⟩),
  (124, ⟨1, false, [.nilf], .func⟩),
  (125, ⟨1, false, [.nilf], .func⟩),
  (126, ⟨1, false, [.nils], .slice 4 1 1 [.bool]⟩),
  (127, ⟨1, false, [.nilf], .func⟩),
  (128, ⟨1, false, [.nilf], .func⟩),
  (129, ⟨1, false, [.nilf], .func⟩),
  (130, ⟨1, false, [.nilf], .func⟩),
  (131, ⟨2, true, [.int .i64 fun _ => 0, .int .i64 fun _ => 0], .struct [(0, 3, 1), (1, 27, 1)] false⟩),
  (132, ⟨2, true, [.int .i64 fun _ => 0, .int .i64 fun _ => 0], .struct [(0, 3, 1), (1, 27, 1)] false⟩),
  (133, ⟨3, true, [.int .i64 fun _ => 0, .int .i64 fun _ => 0, .nils], .struct [(0, 132, 2), (2, 23, 1)] false⟩),
  (134, ⟨3, true, [.int .i64 fun _ => 0, .int .i64 fun _ => 0, .nils], .struct [(0, 132, 2), (2, 23, 1)] false⟩),
  (135, ⟨1, false, [.nilf], .func⟩),
  (136, ⟨4, true, [.int .u8 fun _ => 0, .str fun _ => [], .int .i64 fun _ => 0, .int .i64 fun _ => 0], .struct [(0, 100, 2), (2, 3, 1), (3, 3, 1)] true⟩),
  (137, ⟨4, true, [.int .u8 fun _ => 0, .str fun _ => [], .int .i64 fun _ => 0, .int .i64 fun _ => 0], .struct [(0, 100, 2), (2, 3, 1), (3, 3, 1)] true⟩),
  (138, ⟨1, false, [.nilf], .func⟩),
  (139, ⟨1, false, [.nilp], .ptr 143⟩),
  (140, ⟨1, true, [.int .i64 fun _ => 0], .struct [(0, 3, 1)] false⟩),
  (141, ⟨1, true, [.int .i64 fun _ => 0], .struct [(0, 3, 1)] false⟩),
  (142, ⟨2, true, [.int .i64 fun _ => 0, .nils], .struct [(0, 141, 1), (1, 23, 1)] false⟩),
  (143, ⟨2, true, [.int .i64 fun _ => 0, .nils], .struct [(0, 141, 1), (1, 23, 1)] false⟩),
  (145, ⟨1, false, [.nilf], .func⟩),
  (146, ⟨1, false, [.nilf], .func⟩),
  (147, ⟨1, false, [.nilp], .ptr 62⟩),
  (148, ⟨1, false, [.nilp], .ptr 132⟩),
  (149, ⟨1, false, [.nilf], .func⟩)]
theorem tyL_ok : tabOk Try.prog tyL = true := by kernel_rfl
def Ty : TT := fun t => tget' tyL t
theorem tyT : ∀ t i, Ty t = some i → TIok Try.prog t i := tab_ok tyL_ok
theorem mixed : Try.prog.follows .mixedOrders = true := by kernel_rfl
end Go.Am
/- alibi/varint.Put keeps its contract. -/
namespace Go.Am
set_option linter.all false
set_option linter.deprecated false
open Go.Proofs
set_option maxRecDepth 100000
def put1 : Nat → Nat → List Nat
  | 0, v => [v]
  | f + 1, v => if v < 128 then [v] else (v % 128 + 128) :: put1 f (v / 128)
def putB (v : Nat) : List Nat := put1 9 v
def putC : Contract := { modes := [.ro], fn := fun args M => match args, M with
  | [.int .u64 v], [] => some ⟨[], .ms 0 (fun _ => 0) (fun _ => (putB (v ()).toNat).length), [(0, some (.row false U8 fun _ => rowB (putB (v ()).toNat)))]⟩
  | _, _ => none }
structure PI (v : Nat) where
  bs : List Nat
  u : Nat
  f : Nat
  h : bs ++ put1 f u = put1 9 v
  hu : u < 128 ^ (f + 1)
  hf : bs.length + f = 9
def G0 : Ctx := fun f => gget [] f
theorem or128 (u : Nat) : ibits .or .u8 (IntKind.u8.wrap (u : Int)) 128 = ((u % 128 + 128 : Nat) : Int) := by
  rw [wrap_u8_mod]
  have e : ((u : Int) % 256) = ((u % 256 : Nat) : Int) := by omega
  rw [e]
  simp only [ibits, wrap_u8_mod, IntKind.bits]
  have h1 : u % 256 < 256 := by omega
  have : ∀ x : Nat, x < 256 → ((BitVec.ofInt 8 (x : Int) ||| BitVec.ofInt 8 128).toNat : Int) % 256 = ((x % 128 + 128 : Nat) : Int) := by decide
  exact (this _ h1).trans (by omega)
theorem shr7 (u : Nat) : ishr .u64 (u : Int) 7 = ((u / 128 : Nat) : Int) := by
  simp [ishr, IntKind.bits, Int.fdiv_eq_ediv_of_nonneg]
theorem put_ok : CSound Try.prog 19 putC := by
  refine fsound' (G := G0) (c := codeOf Try.f19) mixed tyT (gget_nil _) Try.func19 (by rfl) (by kernel_rfl) (by kernel_rfl) fun args M r hr hvc hw hm => ?_
  unfold putC at hr
  simp only at hr
  split at hr <;> cases hr
  rename_i v
  obtain ⟨n, rfl⟩ : ∃ n, v = fun _ => n := ⟨v (), rfl⟩
  clear hvc hm
  simp only [WfVs, WfV, and_true, u64_iff] at hw
  obtain ⟨n, rfl⟩ := Int.eq_ofNat_of_zero_le hw.1
  have hn : n < 18446744073709551616 := by omega
  cbv
  refine LoopP.mk (PI n) (fun x => ⟨finit 18 [.int .u64 fun _ => x.u, .un, .ms 0 (fun _ => 0) (fun _ => x.bs.length)], [(0, .row false [.int .u8] (fun _ => rowB x.bs))], 8⟩) (fun x => x.u) ⟨[], n, 9, rfl, by omega, rfl⟩ ?_ ?_
  · cbv
    exact ⟨⟨rfl⟩, ⟨rfl, rfl⟩, ⟨rfl⟩⟩
  · intro ⟨bs, u, f, h1, hu, hf⟩
    cbv
    refine Split.mk (fun h => ?_) (fun h => ?_)
    · cbv
      simp only [zc1] at h
      simp only [zc2] at h
      have h : 128 ≤ u := by simp at h; omega
      cases f with
      | zero => omega
      | succ f =>
      rw [put1, if_neg (by omega)] at h1
      refine ⟨⟨rfl⟩, ⟨by simp⟩, ⟨by simp [chunk, big]; omega⟩, ⟨by simp [chunk]⟩, ⟨by decide⟩, ⟨bs ++ [u % 128 + 128], u / 128, f, ?_, ?_, ?_⟩, ?_, ?_⟩
      · rw [← h1]; simp
      · rw [Nat.pow_succ] at hu; omega
      · simp; omega
      · simp only; omega
      · cbv
        refine ⟨⟨?_⟩, ⟨?_, ?_⟩, ⟨?_⟩⟩
        · exact shr7 u
        · rfl
        · simp [chunk]
        · simp [chunk, or128, rowB_append, rowB_one]
    · cbv
      simp only [zc1] at h
      simp only [zc2] at h
      have h : u < 128 := by simp at h; omega
      have e : putB n = bs ++ [u] := by
        rw [putB, ← h1]
        cases f with
        | zero => rfl
        | succ f => rw [put1, if_pos (by omega)]
      have e2 : IntKind.u8.wrap (u : Int) = u := by rw [wrap_u8_mod]; omega
      simp [Hold.iff, chunk, e, e2, rowB_append, rowB_one, big]
      omega
end Go.Am
/- alibikit.Own, alibikit.SameBytes, slices.Equal keep their contracts. -/
namespace Go.Am
set_option linter.all false
set_option linter.deprecated false
open Go.Proofs
set_option maxRecDepth 100000
def ownC : Contract := { modes := [.ro], fn := fun args M => match args, M with
  | [.sl _ [.int .u8] xs], [] => some ⟨[fun _ => (xs ()).length ≤ big], .ms 0 (fun _ => 0) (fun _ => (xs ()).length), [(0, some (.row false U8 fun _ => xs ()))]⟩
  | _, _ => none }
theorem own_ok : CSound Try.prog 20 ownC := by
  refine fsound' (G := G0) (c := codeOf Try.f20) mixed tyT (gget_nil _) Try.func20 (by rfl) (by kernel_rfl) (by kernel_rfl) fun args M r hr hvc hw hm => ?_
  unfold ownC at hr
  simp only at hr
  split at hr <;> cases hr
  rename_i nn xs
  obtain ⟨x, rfl⟩ : ∃ x, xs = fun _ => x := ⟨xs (), rfl⟩
  have hb := hvc _ (List.mem_singleton.2 rfl)
  clear hvc hm
  cbv
  exact ⟨⟨hb⟩, ⟨rfl, rfl⟩, ⟨rfl⟩⟩
def sameC : Contract := { modes := [.ro, .ro], fn := fun args M => match args, M with
  | [.sl _ [.int .u8] xs, .sl _ [.int .u8] ys], [] => some ⟨[], .bool (fun _ => bn (xs ()) == bn (ys ())), []⟩
  | _, _ => none }
structure SameI (a b : List Nat) where
  i : Nat
  hi : i ≤ a.length
  h : a.take i = b.take i
theorem ne_len {x y : List (List D)} (h : x.length ≠ y.length) : (bn x == bn y) = false := by
  rw [beq_eq_false_iff_ne]
  intro e
  have := congrArg List.length e
  simp at this
  exact h this
theorem take_next {a b : List Nat} {i : Nat} (ha : i < a.length) (hb : i < b.length) (h : a.take i = b.take i) (he : a.getD i 0 = b.getD i 0) : a.take (i + 1) = b.take (i + 1) := by
  rw [List.take_add_one, List.take_add_one, h]
  simp only [List.getD, List.getElem?_eq_getElem ha, List.getElem?_eq_getElem hb, Option.getD_some] at he
  rw [List.getElem?_eq_getElem ha, List.getElem?_eq_getElem hb, he]
theorem take_all {a b : List Nat} {i : Nat} (h : a.take i = b.take i) (ha : a.length ≤ i) (hb : b.length ≤ i) : a = b := by
  rwa [List.take_of_length_le ha, List.take_of_length_le hb] at h
theorem take_ne {a b : List Nat} {i : Nat} (he : a.getD i 0 ≠ b.getD i 0) : a ≠ b := fun e => he (by rw [e])
theorem same_ok : CSound Try.prog 22 sameC := by
  refine fsound' (G := G0) (c := codeOf Try.f22) mixed tyT (gget_nil _) Try.func22 (by rfl) (by kernel_rfl) (by kernel_rfl) fun args M r hr hvc hw hm => ?_
  unfold sameC at hr
  simp only at hr
  split at hr <;> cases hr
  rename_i xs _ ys
  obtain ⟨x, rfl⟩ : ∃ x, xs = fun _ => x := ⟨xs (), rfl⟩
  obtain ⟨y, rfl⟩ : ∃ x, ys = fun _ => x := ⟨ys (), rfl⟩
  clear hvc hm
  simp only [WfVs, WfV, and_true] at hw
  have hx := hw.1.1
  cbv
  refine Split.mk (fun h => ?_) (fun h => ?_)
  · cbv
    refine ⟨(ne_len fun e => ?_).symm⟩
    simp [e] at h
  · cbv
    have h : (x.length : Int) = y.length := ne_f h
    have hl : x.length = y.length := by omega
    refine LoopP.mk (SameI (bn x) (bn y)) (fun s => ⟨finit 26 [.sl false U8 fun _ => x, .sl false U8 fun _ => y, .un, .un, .bool fun _ => false, .int .i64 fun _ => s.i], [], 16⟩) (fun s => x.length - s.i) ⟨0, by omega, rfl⟩ ?_ ?_
    · cbv
      exact ⟨⟨rfl⟩, ⟨rfl⟩, ⟨rfl⟩, ⟨rfl⟩⟩
    · intro ⟨i, hi, he⟩
      rw [bn_len] at hi
      cbv
      refine Split.mk (fun h => ?_) (fun h => ?_)
      · cbv
        have h : i < x.length := by simp at h; omega
        refine ⟨⟨by simp; omega⟩, ⟨by simp; omega⟩, Split.mk (fun h2 => ?_) (fun h2 => ?_)⟩
        · cbv
          simp only [Int.toNat_natCast, bn_at hw.1 h, bn_at hw.2 (hl ▸ h)] at h2
          refine ⟨?_⟩
          symm
          rw [beq_eq_false_iff_ne]
          show bn x ≠ bn y
          have h2 : (((bn x).getD i 0 : Nat) : Int) ≠ ((bn y).getD i 0 : Nat) := ne_t h2
          exact take_ne (i := i) (by omega)
        · cbv
          simp only [Int.toNat_natCast, bn_at hw.1 h, bn_at hw.2 (hl ▸ h)] at h2
          have h2 : (((bn x).getD i 0 : Nat) : Int) = ((bn y).getD i 0 : Nat) := ne_f h2
          refine ⟨⟨i + 1, by simp; omega, take_next (by simp; omega) (by simp; omega) he (by omega)⟩, by simp only; omega, ?_⟩
          cbv
          refine ⟨⟨rfl⟩, ⟨rfl⟩, ⟨rfl⟩, ⟨?_⟩⟩
          exact wrap_i64 (n := (i : Int) + 1) (by omega)
      · cbv
        have h : ¬ i < x.length := by simp at h; omega
        refine ⟨?_⟩
        symm
        rw [beq_iff_eq]
        exact take_all he (by simp; omega) (by simp; omega)
theorem equal_ok : CSound Try.prog 73 sameC := by
  refine fsound' (G := G0) (c := codeOf Try.f73) mixed tyT (gget_nil _) Try.func73 (by rfl) (by kernel_rfl) (by kernel_rfl) fun args M r hr hvc hw hm => ?_
  unfold sameC at hr
  simp only at hr
  split at hr <;> cases hr
  rename_i xs _ ys
  obtain ⟨x, rfl⟩ : ∃ x, xs = fun _ => x := ⟨xs (), rfl⟩
  obtain ⟨y, rfl⟩ : ∃ x, ys = fun _ => x := ⟨ys (), rfl⟩
  clear hvc hm
  simp only [WfVs, WfV, and_true] at hw
  have hx := hw.1.1
  cbv
  refine Split.mk (fun h => ?_) (fun h => ?_)
  · cbv
    refine ⟨(ne_len fun e => ?_).symm⟩
    simp [e] at h
  · cbv
    have h : (x.length : Int) = y.length := ne_f h
    have hl : x.length = y.length := by omega
    refine LoopP.mk (SameI (bn x) (bn y)) (fun s => ⟨finit 26 [.sl false U8 fun _ => x, .sl false U8 fun _ => y, .un, .un, .bool fun _ => false, .un, .un, .un, .un, .un, .un, .un, .int .i64 fun _ => x.length, .int .i64 fun _ => s.i], [], 16⟩) (fun s => x.length - s.i) ⟨0, by omega, rfl⟩ ?_ ?_
    · cbv
      exact ⟨⟨rfl⟩, ⟨rfl⟩, ⟨rfl⟩, ⟨rfl⟩, ⟨rfl⟩⟩
    · intro ⟨i, hi, he⟩
      rw [bn_len] at hi
      cbv
      refine Split.mk (fun h => ?_) (fun h => ?_)
      · cbv
        have h : i < x.length := by simp at h; omega
        refine ⟨⟨by simp; omega⟩, ⟨by simp; omega⟩, Split.mk (fun h2 => ?_) (fun h2 => ?_)⟩
        · cbv
          simp only [Int.toNat_natCast, bn_at hw.1 h, bn_at hw.2 (hl ▸ h)] at h2
          refine ⟨?_⟩
          symm
          rw [beq_eq_false_iff_ne]
          show bn x ≠ bn y
          have h2 : (((bn x).getD i 0 : Nat) : Int) ≠ ((bn y).getD i 0 : Nat) := ne_t h2
          exact take_ne (i := i) (by omega)
        · cbv
          simp only [Int.toNat_natCast, bn_at hw.1 h, bn_at hw.2 (hl ▸ h)] at h2
          have h2 : (((bn x).getD i 0 : Nat) : Int) = ((bn y).getD i 0 : Nat) := ne_f h2
          refine ⟨⟨i + 1, by simp; omega, take_next (by simp; omega) (by simp; omega) he (by omega)⟩, by simp only; omega, ?_⟩
          cbv
          refine ⟨⟨rfl⟩, ⟨rfl⟩, ⟨rfl⟩, ⟨rfl⟩, ⟨?_⟩⟩
          exact wrap_i64 (n := (i : Int) + 1) (by omega)
      · cbv
        have h : ¬ i < x.length := by simp at h; omega
        refine ⟨?_⟩
        symm
        rw [beq_iff_eq]
        exact take_all he (by simp; omega) (by simp; omega)
end Go.Am
/- alibi/varint.Size, the search for the last byte: they keep their contracts. -/
namespace Go.Am
set_option linter.all false
set_option linter.deprecated false
open Go.Proofs
set_option maxRecDepth 100000
def lowC : Contract := { modes := [.ro], fn := fun args M => match args, M with
  | [.int .u8 n], [] => some ⟨[], .bool (fun _ => decide (n () < 128)), []⟩
  | _, _ => none }
theorem low_ok : CSound Try.prog 72 lowC := by
  refine fsound' (G := G0) (c := codeOf Try.f72) mixed tyT (gget_nil _) Try.func72 (by rfl) (by kernel_rfl) (by kernel_rfl) fun args M r hr hvc hw hm => ?_
  unfold lowC at hr
  simp only at hr
  split at hr <;> cases hr
  cbv
  exact ⟨rfl⟩
def idx (b : List Nat) : Option Nat := b.findIdx? fun x => decide (x < 128)
def oi : Option Nat → Int
  | some i => i
  | none => -1
def idxC : Contract := { modes := [.ro, .ro], fn := fun args M => match args, M with
  | [.sl _ [.int .u8] xs, .fn 72 []], [] => some ⟨[], .int .i64 (fun _ => oi (idx (bn (xs ())))), []⟩
  | _, _ => none }
def L1 : List (Nat × Contract) := [(72, lowC)]
def G1 : Ctx := fun f => gget L1 f
theorem G1_ok : ∀ f C, G1 f = some C → CSound Try.prog f C := gget_cons low_ok (gget_nil _)
structure IdxI (b : List Nat) where
  i : Nat
  hi : i ≤ b.length
  h : ∀ j, j < i → 128 ≤ b.getD j 0
theorem idx_none {b : List Nat} (h : ∀ j, j < b.length → 128 ≤ b.getD j 0) : idx b = none := by
  rw [idx, List.findIdx?_eq_none_iff]
  intro x hx
  obtain ⟨i, hi, rfl⟩ := List.getElem_of_mem hx
  have := h i hi
  simp [List.getD, hi] at this ⊢
  omega
theorem idx_some {b : List Nat} {i : Nat} (hi : i < b.length) (h : ∀ j, j < i → 128 ≤ b.getD j 0) (hl : b.getD i 0 < 128) : idx b = some i := by
  rw [idx, List.findIdx?_eq_some_iff_getElem]
  refine ⟨hi, ?_, fun j hj => ?_⟩
  · simp [List.getD, hi] at hl ⊢
    exact hl
  · have := h j hj
    have hjl : j < b.length := by omega
    simp [List.getD, hjl] at this ⊢
    omega
theorem idx_ok : CSound Try.prog 71 idxC := by
  refine fsound' (G := G1) (c := codeOf Try.f71) mixed tyT G1_ok Try.func71 (by rfl) (by kernel_rfl) (by kernel_rfl) fun args M r hr hvc hw hm => ?_
  unfold idxC at hr
  simp only at hr
  split at hr <;> cases hr
  rename_i xs
  obtain ⟨x, rfl⟩ : ∃ x, xs = fun _ => x := ⟨xs (), rfl⟩
  clear hvc hm
  simp only [WfVs, WfV, and_true] at hw
  have hx := hw.1
  cbv
  refine LoopP.mk (IdxI (bn x)) (fun s => ⟨finit 19 [.sl false U8 fun _ => x, .fn 72 [], .un, .un, .int .i64 fun _ => 0, .un, .un, .int .i64 fun _ => x.length, .int .i64 fun _ => s.i], [], 16⟩) (fun s => x.length - s.i) ⟨0, by omega, fun _ h => by omega⟩ ?_ ?_
  · cbv
    exact ⟨⟨rfl⟩, ⟨rfl⟩, ⟨rfl⟩, ⟨rfl⟩⟩
  · intro ⟨i, hi, he⟩
    rw [bn_len] at hi
    cbv
    refine Split.mk (fun h => ?_) (fun h => ?_)
    · cbv
      have h : (i : Int) < x.length := of_decide_eq_true h
      have h : i < x.length := by omega
      refine ⟨⟨by simp; omega⟩, Split.mk (fun h2 => ?_) (fun h2 => ?_)⟩
      · cbv
        simp only [Int.toNat_natCast, bn_at hw h] at h2
        have h2 : (((bn x).getD i 0 : Nat) : Int) < 128 := of_decide_eq_true h2
        refine ⟨?_⟩
        show (i : Int) = oi (idx (bn x))
        rw [idx_some (by simpa using h) he (by omega)]
        rfl
      · cbv
        simp only [Int.toNat_natCast, bn_at hw h] at h2
        have h2 : ¬ (((bn x).getD i 0 : Nat) : Int) < 128 := of_decide_eq_false h2
        refine ⟨⟨i + 1, by simp; omega, fun j hj => ?_⟩, by simp only; omega, ?_⟩
        · by_cases hji : j = i
          · subst hji; omega
          · exact he j (by omega)
        · cbv
          refine ⟨⟨rfl⟩, ⟨rfl⟩, ⟨rfl⟩, ⟨?_⟩⟩
          exact wrap_i64 (n := (i : Int) + 1) (by omega)
    · cbv
      have h : ¬ (i : Int) < x.length := of_decide_eq_false h
      refine ⟨?_⟩
      show (-1 : Int) = oi (idx (bn x))
      rw [idx_none fun j hj => he j (by simp at hj; omega)]
      rfl
def sizeC : Contract := { modes := [.ro], fn := fun args M => match args, M with
  | [.int .u64 v], [] => some ⟨[], .int .i64 (fun _ => ((putB (v ()).toNat).length : Int)), []⟩
  | _, _ => none }
structure SzI (v : Nat) where
  n : Nat
  u : Nat
  f : Nat
  h : n + (put1 f u).length = (put1 9 v).length + 1
  hu : u < 128 ^ (f + 1)
  hf : n + f = 10
theorem size_ok : CSound Try.prog 24 sizeC := by
  refine fsound' (G := G0) (c := codeOf Try.f24) mixed tyT (gget_nil _) Try.func24 (by rfl) (by kernel_rfl) (by kernel_rfl) fun args M r hr hvc hw hm => ?_
  unfold sizeC at hr
  simp only at hr
  split at hr <;> cases hr
  rename_i v
  obtain ⟨n, rfl⟩ : ∃ n, v = fun _ => n := ⟨v (), rfl⟩
  clear hvc hm
  simp only [WfVs, WfV, and_true, u64_iff] at hw
  obtain ⟨n, rfl⟩ := Int.eq_ofNat_of_zero_le hw.1
  have hn : n < 18446744073709551616 := by omega
  cbv
  refine LoopP.mk (SzI n) (fun x => ⟨finit 11 [.int .u64 fun _ => x.u, .un, .un, .int .i64 fun _ => x.n], [], 16⟩) (fun x => x.u) ⟨1, n, 9, Nat.add_comm _ _, by omega, rfl⟩ ?_ ?_
  · cbv
    exact ⟨⟨rfl⟩, ⟨rfl⟩⟩
  · intro ⟨k, u, f, h1, hu, hf⟩
    cbv
    refine Split.mk (fun h => ?_) (fun h => ?_)
    · cbv
      have h : (128 : Int) ≤ u := of_decide_eq_true h
      cases f with
      | zero => omega
      | succ f =>
      rw [put1, if_neg (by omega)] at h1
      rw [Nat.pow_succ] at hu
      refine ⟨⟨by decide⟩, ⟨k + 1, u / 128, f, ?_, by omega, by omega⟩, by simp only; omega, ?_⟩
      · simp at h1 ⊢; omega
      · cbv
        refine ⟨⟨shr7 u⟩, ⟨?_⟩⟩
        exact wrap_i64 (n := (k : Int) + 1) (by omega)
    · cbv
      have h : ¬ (128 : Int) ≤ u := of_decide_eq_false h
      have e : (put1 f u).length = 1 := by
        cases f with
        | zero => rfl
        | succ f => rw [put1, if_pos (by omega)]; rfl
      refine ⟨?_⟩
      show (k : Int) = ((putB n).length : Int)
      rw [putB]; omega
end Go.Am
/- alibi/varint.Get keeps its contract. -/
namespace Go.Am
set_option linter.all false
set_option linter.deprecated false
open Go.Proofs
set_option maxRecDepth 100000
set_option maxHeartbeats 4000000
/-- the number that seven bits a byte make, the last byte the highest -/
def valN : List Nat → Nat
  | [] => 0
  | x :: xs => valN xs * 128 % 18446744073709551616 + x % 128
def getS (b : List Nat) (at_ : Int) : Nat × Int × Int :=
  if at_ < 0 ∨ (b.length : Int) < at_ then (0, 0, 2) else
  let c := (b.drop at_.toNat).take 10
  match idx c with
  | none => if c.length = 10 then (0, 0, 10) else (0, 0, 4)
  | some n =>
    let v := valN (c.take (n + 1))
    if putB v = c.take (n + 1) then (v, at_ + n + 1, 0) else (0, 0, 10)
def getC : Contract := { modes := [.ro, .ro], fn := fun args M => match args, M with
  | [.sl _ [.int .u8] xs, .int .i64 a], [] => some ⟨[], .tup [.int .u64 (fun _ => ((getS (bn (xs ())) (a ())).1 : Int)), .int .i64 (fun _ => (getS (bn (xs ())) (a ())).2.1), .int .i64 (fun _ => (getS (bn (xs ())) (a ())).2.2)], []⟩
  | _, _ => none }
def L2 : List (Nat × Contract) := [(19, putC), (71, idxC), (73, sameC)]
def G2 : Ctx := fun f => gget L2 f
theorem G2_ok : ∀ f C, G2 f = some C → CSound Try.prog f C := gget_cons put_ok (gget_cons idx_ok (gget_cons equal_ok (gget_nil _)))
theorem valN_lt : ∀ (b : List Nat), valN b < 18446744073709551616
  | [] => by simp [valN]
  | x :: xs => by simp only [valN]; omega
theorem idx_lt {b : List Nat} {n : Nat} (h : idx b = some n) : n < b.length := by
  rw [idx, List.findIdx?_eq_some_iff_getElem] at h
  exact h.1
theorem and127 (b : Nat) (h : b < 256) : ibits .and .u8 (b : Int) 127 = ((b % 128 : Nat) : Int) := by
  simp only [ibits, wrap_u8_mod, IntKind.bits]
  have : ∀ x : Nat, x < 256 → ((BitVec.ofInt 8 (x : Int) &&& BitVec.ofInt 8 127).toNat : Int) % 256 = ((x % 128 : Nat) : Int) := by decide
  exact this b h
theorem or64 (q r : Nat) (h : 128 * q < 18446744073709551616) (hr : r < 128) : ibits .or .u64 ((128 * q : Nat) : Int) (r : Int) = ((128 * q + r : Nat) : Int) := by
  simp only [ibits, wrap_u64_mod, IntKind.bits]
  have e : (BitVec.ofInt 64 ((128 * q : Nat) : Int) ||| BitVec.ofInt 64 (r : Int)).toNat = 128 * q + r := by
    rw [BitVec.toNat_or, BitVec.toNat_ofInt, BitVec.toNat_ofInt]
    have e1 : (((128 * q : Nat) : Int) % (2 ^ 64 : Nat)).toNat = 128 * q := by omega
    have e2 : ((r : Int) % (2 ^ 64 : Nat)).toNat = r := by omega
    rw [e1, e2]
    exact (Nat.two_pow_add_eq_or_of_lt (i := 7) hr q).symm
  show ((BitVec.ofInt 64 ((128 * q : Nat) : Int) ||| BitVec.ofInt 64 (r : Int)).toNat : Int) % _ = _
  rw [e]
  omega
theorem step7 (v b : Nat) (hv : v < 18446744073709551616) (hb : b < 256) :
    ibits .or .u64 (ishl .u64 (v : Int) 7) (IntKind.u64.wrap (ibits .and .u8 (b : Int) 127)) = ((v * 128 % 18446744073709551616 + b % 128 : Nat) : Int) := by
  rw [and127 b hb]
  have e1 : ishl .u64 (v : Int) 7 = ((128 * (v % 144115188075855872) : Nat) : Int) := by
    simp only [ishl, wrap_u64_mod, IntKind.bits]
    have : min (Int.toNat 7) 64 = 7 := by decide
    rw [this]
    omega
  rw [e1, wrap_u64 (by omega), or64 _ _ (by omega) (by omega)]
  omega
structure GetI (c : List Nat) (n : Nat) where
  i : Nat      -- one more than the index
  v : Nat
  hi : i ≤ n + 1
  h : v = valN ((c.take (n + 1)).drop i)
theorem get_ok : CSound Try.prog 21 getC := by
  refine fsound' (G := G2) (c := codeOf Try.f21) mixed tyT G2_ok Try.func21 (by rfl) (by kernel_rfl) (by kernel_rfl) fun args M r hr hvc hw hm => ?_
  unfold getC at hr
  simp only at hr
  split at hr <;> cases hr
  rename_i xs a
  obtain ⟨x, rfl⟩ : ∃ x, xs = fun _ => x := ⟨xs (), rfl⟩
  obtain ⟨a, rfl⟩ : ∃ x, a = fun _ => x := ⟨a (), rfl⟩
  clear hvc hm
  simp only [WfVs, WfV, and_true, i64_iff] at hw
  have hx := hw.1.1
  obtain ⟨c, hc⟩ : ∃ c, c = (x.drop a.toNat).take 10 := ⟨_, rfl⟩
  cbv
  refine Split.mk (fun h => ?_) (fun h => ?_)
  · have h : a < 0 := of_decide_eq_true h
    cbv
    refine .yes ?_
    cbv
    have e : getS (bn x) a = (0, 0, 2) := by rw [getS, if_pos (.inl h)]
    simp only [Hold.iff, e]
    decide
  · have h : ¬ a < 0 := of_decide_eq_false h
    cbv
    refine Split.mk (fun h2 => ?_) (fun h2 => ?_)
    · have h2 : (x.length : Int) < a := of_decide_eq_true h2
      cbv
      have e : getS (bn x) a = (0, 0, 2) := by rw [getS, if_pos (.inr (by simpa using h2))]
      simp only [Hold.iff, e]
      decide
    · have h2 : ¬ (x.length : Int) < a := of_decide_eq_false h2
      have hH : min (x.length : Int) (IntKind.i64.wrap (a + min 10 (IntKind.i64.wrap (x.length - a)))) = a + min 10 (x.length - a) := by
        rw [wrap_i64 (n := (x.length : Int) - a) (by omega), wrap_i64 (by omega)]
        omega
      have hE : List.take ((min (x.length : Int) (IntKind.i64.wrap (a + min 10 (IntKind.i64.wrap (x.length - a))))).toNat - a.toNat) (List.drop a.toNat x) = (x.drop a.toNat).take 10 := by
        rw [hH, List.take_eq_take_iff]
        simp
        omega
      rw [← hc] at hE
      have hwc : WfR U8 c := by rw [hc]; exact (hw.1.drop _).take _
      have hcl : c.length = min 10 (x.length - a.toNat) := by rw [hc]; simp
      have hS : getS (bn x) a = (match idx (bn c) with
        | none => if c.length = 10 then (0, 0, 10) else (0, 0, 4)
        | some n => if putB (valN ((bn c).take (n + 1))) = (bn c).take (n + 1) then (valN ((bn c).take (n + 1)), a + n + 1, 0) else (0, 0, 10)) := by
        rw [getS, if_neg (by simp; omega), hc, bn_take, bn_drop]
        simp
      clear hc
      have hB : 0 ≤ a ∧ a ≤ min (x.length : Int) (IntKind.i64.wrap (a + min 10 (IntKind.i64.wrap (x.length - a)))) ∧ min (x.length : Int) (IntKind.i64.wrap (a + min 10 (IntKind.i64.wrap (x.length - a)))) ≤ min (x.length : Int) (IntKind.i64.wrap (a + min 10 (IntKind.i64.wrap (x.length - a)))) ∧ min (x.length : Int) (IntKind.i64.wrap (a + min 10 (IntKind.i64.wrap (x.length - a)))) ≤ x.length := by
        rw [hH]
        omega
      cbv
      refine ⟨⟨hB⟩, ?_⟩
      · cases hid : idx (bn c) with
        | none =>
          rw [hid] at hS
          refine Split.mk (fun h3 => ?_) (fun h3 => ?_)
          · cbv
            refine Split.mk (fun h4 => ?_) (fun h4 => ?_)
            · have h4 := eq_t h4
              simp only [hE] at h4
              have h4 : (c.length : Int) = 10 := h4
              simp only [if_pos (show c.length = 10 by omega)] at hS
              cbv
              simp only [Hold.iff, hS]
              decide
            · have h4 := eq_f h4
              simp only [hE] at h4
              have h4 : (c.length : Int) ≠ 10 := h4
              simp only [if_neg (show c.length ≠ 10 by omega)] at hS
              cbv
              refine Split.mk (fun h5 => ?_) (fun h5 => ?_)
              · cbv
                simp only [Hold.iff, hS]
                decide
              · have h5 := of_decide_eq_false h5
                simp only [hE, hid, oi] at h5
                exfalso
                omega
          · have h3 := of_decide_eq_false h3
            simp only [hE, hid, oi] at h3
            exfalso
            omega
        | some n =>
          rw [hid] at hS
          refine Split.mk (fun h3 => ?_) (fun h3 => ?_)
          · have h3 := of_decide_eq_true h3
            simp only [hE, hid, oi] at h3
            exfalso
            omega
          · cbv
            refine .no ?_
            cbv
            refine Split.mk (fun h5 => ?_) (fun h5 => ?_)
            · have h5 := of_decide_eq_true h5
              simp only [hE, hid, oi] at h5
              exfalso
              omega
            · cbv
              refine LoopP.mk (GetI (bn c) n) (fun s => ⟨finit 70 [.sl false U8 fun _ => c, .int .i64 fun _ => a, .un, .un, .int .u64 fun _ => s.v, .int .i64 fun _ => 0, .int .i64 fun _ => 0, .int .i64 fun _ => n, .int .i64 fun _ => (s.i : Int) - 1], [], 80⟩) (fun s => s.i) ⟨n + 1, 0, Nat.le_refl _, ?_⟩ ?_ ?_
              · simp [valN]
              · cbv
                simp only [Hold.iff, hE, hid, oi]
                exact ⟨trivial, trivial, rfl, trivial, trivial, trivial, by simp⟩
              · intro ⟨i, v, hi, hv⟩
                have hnl : n < (bn c).length := (idx_lt hid)
                have hv64 : v < 18446744073709551616 := by rw [hv]; exact valN_lt _
                cbv
                refine Split.mk (fun h6 => ?_) (fun h6 => ?_)
                · have h6 : (0 : Int) ≤ (i : Int) - 1 := of_decide_eq_true h6
                  obtain ⟨j, rfl⟩ : ∃ j, i = j + 1 := ⟨i - 1, by omega⟩
                  have hjc : j < c.length := by simp at hnl; omega
                  have hb256 : (bn c).getD j 0 < 256 := bn_lt hwc _ (by simp [List.getD, hjc])
                  have hidx : 0 ≤ ((j + 1 : Nat) : Int) - 1 ∧ ((j + 1 : Nat) : Int) - 1 < (c.length : Int) := by omega
                  have hj1 : (((j + 1 : Nat) : Int) - 1).toNat = j := by omega
                  have hval : valN (((bn c).take (n + 1)).drop j) = v * 128 % 18446744073709551616 + (bn c).getD j 0 % 128 := by
                    have hlt : j < ((bn c).take (n + 1)).length := by simp; omega
                    rw [List.drop_eq_getElem_cons hlt, valN, ← hv]
                    simp [List.getD, hjc]
                  have hw1 : IntKind.i64.wrap (((j + 1 : Nat) : Int) - 1 - 1) = (j : Int) - 1 := by rw [wrap_i64 (by omega)]; omega
                  have hstep := step7 v _ hv64 hb256
                  have hn1 : j ≤ n + 1 := by omega
                  have hlt : j < j + 1 := by omega
                  have h7 : (0 : Int) ≤ 7 := by decide
                  cbv
                  refine ⟨⟨h7⟩, ⟨hidx⟩, ⟨j, _, hn1, hval.symm⟩, hlt, ?_⟩
                  cbv
                  refine ⟨⟨rfl⟩, ⟨rfl⟩, ⟨?_⟩, ⟨rfl⟩, ⟨rfl⟩, ⟨rfl⟩, ⟨hw1⟩⟩
                  simp only [hj1, bn_at hwc hjc]
                  exact hstep
                · have h6 : ¬ (0 : Int) ≤ (i : Int) - 1 := of_decide_eq_false h6
                  obtain rfl : i = 0 := by omega
                  have hnl' : n < c.length := by simpa using hnl
                  have hw1 : IntKind.i64.wrap ((n : Int) + 1) = n + 1 := wrap_i64 (by omega)
                  have hB : (0 : Int) ≤ 0 ∧ (0 : Int) ≤ IntKind.i64.wrap ((n : Int) + 1) ∧ IntKind.i64.wrap ((n : Int) + 1) ≤ IntKind.i64.wrap ((n : Int) + 1) ∧ IntKind.i64.wrap ((n : Int) + 1) ≤ (c.length : Int) := by rw [hw1]; omega
                  have hv0 : v = valN ((bn c).take (n + 1)) := by simpa using hv
                  have hpl : 0 + (putB ((v : Int)).toNat).length ≤ (rowB (putB ((v : Int)).toNat)).length := by simp
                  have hD : bn (List.take (putB ((v : Int)).toNat).length (List.drop 0 (rowB (putB ((v : Int)).toNat)))) = putB v := by simp
                  have hF : bn (List.take ((IntKind.i64.wrap ((n : Int) + 1)).toNat - Int.toNat 0) (List.drop (Int.toNat 0) c)) = (bn c).take (n + 1) := by
                    rw [hw1, bn_take, bn_drop]
                    simp
                  have hs1 : IntKind.i64.wrap (IntKind.i64.wrap (a + n) + 1) = a + n + 1 := by rw [wrap_i64 (n := a + n) (by omega), wrap_i64 (by omega)]
                  simp only [← hv0] at hS
                  cbv
                  refine ⟨⟨hB⟩, ⟨hpl⟩, Split.mk (fun h8 => ?_) (fun h8 => ?_)⟩
                  · simp only [hD, hF] at h8
                    have h8 : putB v ≠ (bn c).take (n + 1) := by simpa using h8
                    rw [if_neg h8] at hS
                    cbv
                    simp only [Hold.iff, hS]
                    decide
                  · simp only [hD, hF] at h8
                    have h8 : putB v = (bn c).take (n + 1) := by simpa using h8
                    rw [if_pos h8] at hS
                    cbv
                    simp only [Hold.iff, hS]
                    exact ⟨trivial, hs1, trivial⟩
end Go.Am
/- alibilaw01.works keeps its contract: it returns true. -/
namespace Go.Am
set_option linter.all false
set_option linter.deprecated false
open Go.Proofs
set_option maxRecDepth 100000
set_option maxHeartbeats 4000000
def trueC : Contract := { modes := [], fn := fun args M => match args, M with
  | [], [] => some ⟨[], .bool (fun _ => true), []⟩
  | _, _ => none }
def L3 : List (Nat × Contract) := [(19, putC), (21, getC), (22, sameC)]
def G3 : Ctx := fun f => gget L3 f
theorem G3_ok : ∀ f C, G3 f = some C → CSound Try.prog f C := gget_cons put_ok (gget_cons get_ok (gget_cons same_ok (gget_nil _)))
theorem works_ok : CSound Try.prog 18 trueC := by
  refine fsound' (G := G3) (c := codeOf Try.f18) mixed tyT G3_ok Try.func18 (by rfl) (by kernel_rfl) (by kernel_rfl) fun args M r hr hvc hw hm => ?_
  unfold trueC at hr
  simp only at hr
  split at hr <;> cases hr
  clear hvc hm
  cbv
  refine ⟨⟨by decide +kernel⟩, ⟨by decide +kernel⟩, ⟨by decide +kernel⟩, ⟨by decide +kernel⟩, ⟨by decide +kernel⟩, ⟨by decide +kernel⟩, ⟨by decide +kernel⟩, ?_⟩
  refine .ofT (by decide +kernel) ?_
  cbv
  refine .ofT (by decide +kernel) ?_
  cbv
  refine .ofT (by decide +kernel) ?_
  cbv
  refine .ofT (by decide +kernel) ?_
  cbv
  refine .ofT (by decide +kernel) ?_
  cbv
  refine .ofT (by decide +kernel) ?_
  cbv
  refine .ofT (by decide +kernel) ?_
  cbv
  refine .ofT (by decide +kernel) ?_
  cbv
  refine .ofT (by decide +kernel) ?_
  cbv
  exact ⟨by decide +kernel⟩
end Go.Am
/- The numbers in few bytes: plain laws. -/
namespace Go.Am
set_option linter.all false
set_option linter.deprecated false
theorem put1_len : ∀ (f v : Nat), 1 ≤ (put1 f v).length ∧ (put1 f v).length ≤ f + 1
  | 0, _ => by simp [put1]
  | f + 1, v => by
    rw [put1]
    split
    · simp
    · have := put1_len f (v / 128)
      simp; omega
theorem put1_val : ∀ (f v : Nat), v < 18446744073709551616 → v < 128 ^ (f + 1) → valN (put1 f v) = v
  | 0, v, h, h2 => by simp [put1, valN]; omega
  | f + 1, v, h, h2 => by
    rw [put1]
    split
    · simp [valN]; omega
    · rw [Nat.pow_succ] at h2
      rw [valN, put1_val f (v / 128) (by omega) (by omega)]
      omega
theorem put1_idx : ∀ (f v : Nat) (C : List Nat), v < 128 ^ (f + 1) → idx (put1 f v ++ C) = some ((put1 f v).length - 1)
  | 0, v, C, h => by
    have h : v < 128 := by omega
    simp [put1, idx, List.findIdx?_cons, h]
  | f + 1, v, C, h => by
    rw [put1]
    split
    · rename_i hv
      simp [idx, List.findIdx?_cons, hv]
    · rw [Nat.pow_succ] at h
      have ih := put1_idx f (v / 128) C (by omega)
      have hl := (put1_len f (v / 128)).1
      simp only [idx] at ih
      rename_i hv
      simp only [idx, List.cons_append, List.findIdx?_cons, ih]
      rw [if_neg (by simp)]
      simp only [Option.map_some, List.length_cons, Option.some.injEq]
      omega
theorem put1_pre : ∀ (f v u : Nat), v < 128 ^ (f + 1) → u < 128 ^ (f + 1) → (put1 f v).take (min (put1 f v).length (put1 f u).length) = (put1 f u).take (min (put1 f v).length (put1 f u).length) → v = u
  | 0, v, u, _, _, h => by simpa [put1] using h
  | f + 1, v, u, h1, h2, h => by
    have lv := put1_len f (v / 128)
    have lu := put1_len f (u / 128)
    rw [Nat.pow_succ] at h1 h2
    simp only [put1] at h
    split at h <;> split at h
    · simpa using h
    · rename_i a b
      simp [Nat.min_eq_left (show 1 ≤ (put1 f (u / 128)).length + 1 by omega)] at h
      omega
    · rename_i a b
      simp [Nat.min_eq_right (show 1 ≤ (put1 f (v / 128)).length + 1 by omega)] at h
      omega
    · simp only [List.length_cons, Nat.add_min_add_right, List.take_succ_cons, List.cons.injEq] at h
      have := put1_pre f (v / 128) (u / 128) (by omega) (by omega) h.2
      omega
theorem put1_mono : ∀ (f v u : Nat), v ≤ u → (put1 f v).length ≤ (put1 f u).length
  | 0, _, _, _ => by simp [put1]
  | f + 1, v, u, h => by
    have lu := put1_len f (u / 128)
    simp only [put1]
    split <;> split
    · simp
    · simp
    · omega
    · have := put1_mono f (v / 128) (u / 128) (by omega)
      simpa using this
theorem getS_put {v : Nat} (hv : v < 18446744073709551616) (B C : List Nat) : getS (B ++ putB v ++ C) (B.length : Int) = (v, (B.length : Int) + (putB v).length, 0) := by
  have hl := put1_len 9 v
  have hp : v < 128 ^ (9 + 1) := by omega
  have hd : ((B ++ putB v ++ C).drop B.length).take 10 = putB v ++ C.take (10 - (putB v).length) := by
    rw [List.append_assoc, List.drop_left, List.take_append, List.take_of_length_le (by simpa [putB] using hl.2)]
  rw [getS, if_neg (by simp; omega)]
  simp only [Int.toNat_natCast, hd]
  have hi : idx (putB v ++ C.take (10 - (putB v).length)) = some ((putB v).length - 1) := put1_idx 9 v _ hp
  rw [hi]
  have e1 : (putB v).length - 1 + 1 = (putB v).length := by simp only [putB]; omega
  simp only [e1, List.take_left]
  have e2 : valN (putB v) = v := put1_val 9 v hv hp
  rw [e2, if_pos rfl]
  have e3 : (B.length : Int) + ((putB v).length - 1 : Nat) + 1 = (B.length : Int) + (putB v).length := by omega
  rw [e3]
theorem getS_ok {C : List Nat} {a : Int} (h : (getS C a).2.2 = 0) : 0 ≤ a ∧ ∃ n : Nat, a.toNat + n ≤ C.length ∧ (getS C a).2.1 = a + n ∧ putB (getS C a).1 = (C.drop a.toNat).take n := by
  rw [getS] at h ⊢
  split at h
  · simp at h
  · rename_i hc
    simp only [hc, if_false]
    simp only at h ⊢
    split at h
    · split at h <;> simp at h
    · rename_i n hn
      split at h
      · rename_i hp
        have hlt := idx_lt hn
        simp only [List.length_take, List.length_drop] at hlt
        rw [if_pos hp]
        refine ⟨by omega, n + 1, by omega, by simp; omega, ?_⟩
        simp only
        rw [hp, List.take_take, Nat.min_eq_left (by omega)]
      · simp at h
theorem getS_lt (C : List Nat) (a : Int) : (getS C a).1 < 18446744073709551616 := by
  rw [getS]
  split
  · simp
  · simp only
    split
    · split <;> simp
    · split
      · exact valN_lt _
      · simp
theorem same_pre {v u : Nat} (hv : v < 18446744073709551616) (hu : u < 18446744073709551616) :
    ((putB v).take (min (putB v).length (putB u).length) == (putB u).take (min (putB v).length (putB u).length)) = (v == u) := by
  by_cases h : v = u
  · subst h; simp
  · rw [(beq_eq_false_iff_ne).2 h, beq_eq_false_iff_ne]
    exact fun e => h (put1_pre 9 v u (by omega) (by omega) e)
end Go.Am
/- alibilaw01.VarintBack keeps its contract: it returns true. -/
namespace Go.Am
set_option linter.all false
set_option linter.deprecated false
open Go.Proofs
set_option maxRecDepth 100000
set_option maxHeartbeats 4000000
def backC : Contract := { modes := [], fn := fun args M => match args, M with
  | [.int .u64 _, .int .u64 _, .sl _ [.int .u8] _, .sl _ [.int .u8] _], [] => some ⟨[], .bool (fun _ => true), []⟩
  | _, _ => none }
def L4 : List (Nat × Contract) := [(18, trueC), (19, putC), (20, ownC), (21, getC), (22, sameC)]
def G4 : Ctx := fun f => gget L4 f
theorem G4_ok : ∀ f C, G4 f = some C → CSound Try.prog f C := gget_cons works_ok (gget_cons put_ok (gget_cons own_ok (gget_cons get_ok (gget_cons same_ok (gget_nil _)))))
theorem back_ok : CSound Try.prog 3 backC := by
  refine fsound' (G := G4) (c := codeOf Try.f3) mixed tyT G4_ok Try.func3 (by rfl) (by kernel_rfl) (by kernel_rfl) fun args M r hr hvc hw hm => ?_
  unfold backC at hr
  simp only at hr
  split at hr <;> cases hr
  rename_i v u _ b _ c
  obtain ⟨b, rfl⟩ : ∃ x, b = fun _ => x := ⟨b (), rfl⟩
  obtain ⟨c, rfl⟩ : ∃ x, c = fun _ => x := ⟨c (), rfl⟩
  obtain ⟨v, rfl⟩ : ∃ x, v = fun _ => x := ⟨v (), rfl⟩
  obtain ⟨u, rfl⟩ : ∃ x, u = fun _ => x := ⟨u (), rfl⟩
  clear hvc hm
  simp only [WfVs, WfV, and_true, u64_iff] at hw
  obtain ⟨hv, hu, hb, hc⟩ := hw
  obtain ⟨v, rfl⟩ := Int.eq_ofNat_of_zero_le hv.1
  obtain ⟨u, rfl⟩ := Int.eq_ofNat_of_zero_le hu.1
  have lv := put1_len 9 v
  have lu := put1_len 9 u
  rw [← putB] at lv lu
  have hG : getS (bn b ++ (putB v ++ bn c)) (b.length : Int) = (v, (b.length : Int) + (putB v).length, 0) := by
    have := getS_put (v := v) (by omega) (bn b) (bn c)
    simpa using this
  have hmin : (min ((putB v).length : Int) ((putB u).length : Int)).toNat = min (putB v).length (putB u).length := by omega
  have hB1 : (0 : Int) ≤ 0 ∧ (0 : Int) ≤ min ((putB v).length : Int) ((putB u).length : Int) ∧ min ((putB v).length : Int) ((putB u).length : Int) ≤ min ((putB v).length : Int) ((putB u).length : Int) ∧ min ((putB v).length : Int) ((putB u).length : Int) ≤ ((putB v).length : Int) := by omega
  have hB2 : (0 : Int) ≤ 0 ∧ (0 : Int) ≤ min ((putB v).length : Int) ((putB u).length : Int) ∧ min ((putB v).length : Int) ((putB u).length : Int) ≤ min ((putB v).length : Int) ((putB u).length : Int) ∧ min ((putB v).length : Int) ((putB u).length : Int) ≤ ((putB u).length : Int) := by omega
  have hB3 : 0 + Int.toNat 0 + ((min ((putB v).length : Int) ((putB u).length : Int)).toNat - Int.toNat 0) ≤ (rowB (putB v)).length := by rw [hmin]; simp; omega
  have hB4 : 0 + Int.toNat 0 + ((min ((putB v).length : Int) ((putB u).length : Int)).toNat - Int.toNat 0) ≤ (rowB (putB u)).length := by rw [hmin]; simp; omega
  have hsame := same_pre (v := v) (u := u) (by omega) (by omega)
  have hvu : ((v : Int) == (u : Int)) = (v == u) := by rw [Bool.eq_iff_iff]; simp; omega
  have hmono : (v : Int) ≤ (u : Int) → ¬ ((putB v).length : Int) > ((putB u).length : Int) := fun h => by
    have := put1_mono 9 v u (by omega)
    simp only [putB]
    omega
  have hk1 : (getS (bn c) 0).2.2 = 0 → ¬ ((c.length : Int) < (getS (bn c) 0).2.1) := fun h => by
    obtain ⟨_, n, k1, k2, _⟩ := getS_ok (C := bn c) (a := 0) h
    simp at k1
    omega
  have hk2 : (getS (bn c) 0).2.2 = 0 → ((0 : Int) ≤ 0 ∧ (0 : Int) ≤ (getS (bn c) 0).2.1 ∧ (getS (bn c) 0).2.1 ≤ (getS (bn c) 0).2.1 ∧ (getS (bn c) 0).2.1 ≤ (c.length : Int)) := fun h => by
    obtain ⟨_, n, k1, k2, _⟩ := getS_ok (C := bn c) (a := 0) h
    simp at k1
    omega
  have hk5 : ∀ m, List.take (min m c.length) (List.take m (bn c)) = List.take m (bn c) := fun m => List.take_of_length_le (by simp)
  have hk4 : (getS (bn c) 0).2.2 = 0 → putB (getS (bn c) 0).1 = (bn c).take ((getS (bn c) 0).2.1).toNat := fun h => by
    obtain ⟨_, n, k1, k2, k3⟩ := getS_ok (C := bn c) (a := 0) h
    rw [k3, k2]
    simp
  cbv
  refine Split.mk (fun h => ?_) (fun h => ?_)
  · cbv
    refine .yes ?_
    cbv
    exact ⟨rfl⟩
  · have h1 : ¬ (100 : Int) < b.length := of_decide_eq_false h
    have h1 : b.length ≤ 100 := by omega
    cbv
    refine Split.mk (fun h => ?_) (fun h => ?_)
    · cbv
      exact ⟨rfl⟩
    · have h2 : ¬ (100 : Int) < c.length := of_decide_eq_false h
      have h2 : c.length ≤ 100 := by omega
      cbv
      have hw1 : IntKind.i64.wrap ((b.length : Int) + ((putB v).length : Int)) = (b.length : Int) + ((putB v).length : Int) := wrap_i64 (by omega)
      clear hb
      have f1 : b.length + (putB v).length ≤ 1099511627776 := by omega
      have f2 : b.length + (putB v).length + c.length ≤ 1099511627776 := by omega
      have f3 : (1 : Int) ≤ ((putB v).length : Int) := by omega
      have f4 : ((putB v).length : Int) ≤ 10 := by omega
      have hT1 : List.take (b.length + (putB v).length) (b ++ rowB (putB v)) = b ++ rowB (putB v) := List.take_of_length_le (by simp)
      have hT2 : List.take (b.length + (putB v).length + c.length) (b ++ (rowB (putB v) ++ c)) = b ++ (rowB (putB v) ++ c) := List.take_of_length_le (by simp; omega)
      refine ⟨⟨by simp [big]; omega⟩, ⟨rfl⟩, ⟨by simp⟩, ⟨by simp [big]; exact f1⟩, ⟨by simp⟩, ⟨rfl⟩, ⟨by simp⟩, ⟨by simp [big]; exact f2⟩, ⟨by simp⟩, ?_⟩
      refine .ofF (by simp [bn_append, hG, hT1, hT2]) ?_
      cbv
      refine .ofF (by simp [bn_append, hG, hT1, hT2, hw1]) ?_
      cbv
      refine .ofF (by simp [bn_append, hG, hT1, hT2]) ?_
      cbv
      refine .ofF (by simp; exact f3) ?_
      cbv
      refine .ofF (by simp; exact f4) ?_
      cbv
      refine ⟨⟨hB1⟩, ⟨hB2⟩, ⟨hB3⟩, ⟨hB4⟩, ?_⟩
      refine .ofF (by simp [hmin, bn_take, hsame, hvu]) ?_
      cbv
      refine Split.mk (fun h => ?_) (fun h => ?_)
      · have h := hmono (of_decide_eq_true h)
        cbv
        refine .ofF (decide_eq_false h) ?_
        cbv
        refine Split.mk (fun h => ?_) (fun h => ?_)
        · have h := eq_t h
          cbv
          refine .ofF (decide_eq_false (hk1 h)) ?_
          cbv
          refine ⟨⟨hk2 h⟩, ⟨by simp⟩, ?_⟩
          refine .ofF (by simp [bn_take, hk4 h, hk5]) ?_
          cbv
          exact ⟨rfl⟩
        · cbv
          refine .no ?_
          cbv
          exact ⟨rfl⟩
      · cbv
        refine .no ?_
        cbv
        refine Split.mk (fun h => ?_) (fun h => ?_)
        · have h := eq_t h
          cbv
          refine .ofF (decide_eq_false (hk1 h)) ?_
          cbv
          refine ⟨⟨hk2 h⟩, ⟨by simp⟩, ?_⟩
          refine .ofF (by simp [bn_take, hk4 h, hk5]) ?_
          cbv
          exact ⟨rfl⟩
        · cbv
          refine .no ?_
          cbv
          exact ⟨rfl⟩
end Go.Am
/- alibikit.Spoil and the document's Put keep their contracts. -/
namespace Go.Am
set_option linter.all false
set_option linter.deprecated false
open Go.Proofs
set_option maxRecDepth 100000
set_option maxHeartbeats 4000000
def spoil (xs : List (List D)) (lo len : Nat) : List (List D) := xs.take lo ++ List.replicate len [D.int 165] ++ xs.drop (lo + len)
def spoilC : Contract := { modes := [.mut], fn := fun args M => match args, M with
  | [.ms 0 lo len], [(0, .row nn [.int .u8] xs)] => some ⟨[fun _ => lo () + len () ≤ (xs ()).length], .tup [], [(0, some (.row nn U8 fun _ => spoil (xs ()) (lo ()) (len ())))]⟩
  | _, _ => none }
structure SpI (n : Nat) where
  i : Nat
  hi : i ≤ n
theorem spoil_next {xs : List (List D)} {lo i : Nat} (h : lo + i < xs.length) : (spoil xs lo i).set (lo + i) [D.int 165] = spoil xs lo (i + 1) := by
  have e : lo + i = (xs.take lo ++ List.replicate i [D.int 165]).length := by simp; omega
  have e2 : xs.drop (lo + i) = xs[lo + i] :: xs.drop (lo + (i + 1)) := by rw [List.drop_eq_getElem_cons h]; rfl
  simp only [spoil]
  conv => lhs; rw [e2]
  rw [List.set_append, if_neg (by simp; omega)]
  have e3 : lo + i - (xs.take lo ++ List.replicate i [D.int 165]).length = 0 := by simp; omega
  rw [e3, List.set_cons_zero, List.replicate_succ']
  simp
theorem spoil_ok : CSound Try.prog 25 spoilC := by
  refine fsound' (G := G0) (c := codeOf Try.f25) mixed tyT (gget_nil _) Try.func25 (by rfl) (by kernel_rfl) (by kernel_rfl) fun args M r hr hvc hw hm => ?_
  unfold spoilC at hr
  simp only at hr
  split at hr <;> cases hr
  rename_i lo len nn xs
  obtain ⟨lo, rfl⟩ : ∃ x, lo = fun _ => x := ⟨lo (), rfl⟩
  obtain ⟨len, rfl⟩ : ∃ x, len = fun _ => x := ⟨len (), rfl⟩
  obtain ⟨x, rfl⟩ : ∃ x, xs = fun _ => x := ⟨xs (), rfl⟩
  have hb : lo + len ≤ x.length := hvc _ (List.mem_singleton.2 rfl)
  have hm := hm ⟨rfl, trivial⟩
  simp only [WfM, WfO, and_true] at hm
  have hl := hm.1
  clear hvc
  have s0 : x = spoil x lo 0 := by simp [spoil]
  have hw1 : ∀ i : Nat, i < len → IntKind.i64.wrap ((i : Int) + 1) = ((i + 1 : Nat) : Int) := fun i h => by rw [wrap_i64 (by omega)]; omega
  have hB1 : ∀ i : Nat, i < len → (0 : Int) ≤ (i : Int) ∧ (i : Int) < (len : Int) := fun i h => by omega
  have hB2 : ∀ i : Nat, i < len → lo + ((i : Int)).toNat < (spoil x lo i).length := fun i h => by simp [spoil]; omega
  have hB3 : ∀ i : Nat, i < len → (spoil x lo i).set (lo + ((i : Int)).toNat) [D.int 165] = spoil x lo (i + 1) := fun i h => by rw [Int.toNat_natCast]; exact spoil_next (by omega)
  cases nn
  · cbv
    refine LoopP.mk (SpI len) (fun s => ⟨finit 12 [.ms 0 (fun _ => lo) (fun _ => len), .un, .int .i64 fun _ => s.i], [(0, .row false U8 fun _ => spoil x lo s.i)], 17⟩) (fun s => len - s.i) ⟨0, Nat.zero_le _⟩ ?_ ?_
    · cbv
      exact ⟨⟨rfl, rfl⟩, ⟨rfl⟩, ⟨s0⟩⟩
    · intro ⟨i, hi⟩
      have hn1 : i < len → i + 1 ≤ len ∧ len - (i + 1) < len - i := fun h => by omega
      have hn2 : ¬ (i : Int) < (len : Int) → i = len := fun h => by omega
      have hn3 : (i : Int) < (len : Int) → i < len := fun h => by omega
      cbv
      refine Split.mk (fun h => ?_) (fun h => ?_)
      · have h := hn3 (of_decide_eq_true h)
        cbv
        refine ⟨⟨hB1 i h⟩, ⟨hB2 i h⟩, ⟨i + 1, (hn1 h).1⟩, (hn1 h).2, ?_⟩
        cbv
        exact ⟨⟨rfl, rfl⟩, ⟨hw1 i h⟩, ⟨hB3 i h⟩⟩
      · have h := hn2 (of_decide_eq_false h)
        subst h
        cbv
        exact ⟨rfl⟩
  · cbv
    refine LoopP.mk (SpI len) (fun s => ⟨finit 12 [.ms 0 (fun _ => lo) (fun _ => len), .un, .int .i64 fun _ => s.i], [(0, .row true U8 fun _ => spoil x lo s.i)], 17⟩) (fun s => len - s.i) ⟨0, Nat.zero_le _⟩ ?_ ?_
    · cbv
      exact ⟨⟨rfl, rfl⟩, ⟨rfl⟩, ⟨s0⟩⟩
    · intro ⟨i, hi⟩
      have hn1 : i < len → i + 1 ≤ len ∧ len - (i + 1) < len - i := fun h => by omega
      have hn2 : ¬ (i : Int) < (len : Int) → i = len := fun h => by omega
      have hn3 : (i : Int) < (len : Int) → i < len := fun h => by omega
      cbv
      refine Split.mk (fun h => ?_) (fun h => ?_)
      · have h := hn3 (of_decide_eq_true h)
        cbv
        refine ⟨⟨hB1 i h⟩, ⟨hB2 i h⟩, ⟨i + 1, (hn1 h).1⟩, (hn1 h).2, ?_⟩
        cbv
        exact ⟨⟨rfl, rfl⟩, ⟨hw1 i h⟩, ⟨hB3 i h⟩⟩
      · have h := hn2 (of_decide_eq_false h)
        subst h
        cbv
        exact ⟨rfl⟩
def rputC (n : Nat) : Contract := { modes := [.ro], fn := fun args M => match args, M with
  | [.int .u64 v], [] => some ⟨[fun _ => (v ()).toNat < 128 ^ (n + 1)], .ms 0 (fun _ => 0) (fun _ => (put1 n (v ()).toNat).length), [(0, some (.row true U8 fun _ => rowB (put1 n (v ()).toNat)))]⟩
  | _, _ => none }
def Lr (n : Nat) : List (Nat × Contract) := [(23, rputC n)]
def Gr (n : Nat) : Ctx := fun f => gget (Lr n) f
theorem rput0 : CSound Try.prog 23 (rputC 0) := by
  refine fsound' (G := G0) (c := codeOf Try.f23) mixed tyT (gget_nil _) Try.func23 (by rfl) (by kernel_rfl) (by kernel_rfl) fun args M r hr hvc hw hm => ?_
  unfold rputC at hr
  simp only at hr
  split at hr <;> cases hr
  rename_i v
  obtain ⟨n, rfl⟩ : ∃ n, v = fun _ => n := ⟨v (), rfl⟩
  have hb := hvc _ (List.mem_singleton.2 rfl)
  clear hvc hm
  simp only [WfVs, WfV, and_true, u64_iff] at hw
  obtain ⟨n, rfl⟩ := Int.eq_ofNat_of_zero_le hw.1
  have hn : n < 128 := by simpa using hb
  have h1 : (n : Int) < 128 := by omega
  have h2 : IntKind.u8.wrap (n : Int) = n := by rw [wrap_u8_mod]; omega
  clear hb
  cbv
  refine .ofT (decide_eq_true h1) ?_
  cbv
  simp [Hold.iff, chunk, h2, put1, rowB]
theorem rputS (n : Nat) (hn : n ≤ 100) (ih : CSound Try.prog 23 (rputC n)) : CSound Try.prog 23 (rputC (n + 1)) := by
  refine fsound' (G := Gr n) (c := codeOf Try.f23) mixed tyT (gget_cons ih (gget_nil _)) Try.func23 (by rfl) (by kernel_rfl) (by kernel_rfl) fun args M r hr hvc hw hm => ?_
  unfold rputC at hr
  simp only at hr
  split at hr <;> cases hr
  rename_i v
  obtain ⟨u, rfl⟩ : ∃ n, v = fun _ => n := ⟨v (), rfl⟩
  have hb := hvc _ (List.mem_singleton.2 rfl)
  clear hvc hm
  simp only [WfVs, WfV, and_true, u64_iff] at hw
  obtain ⟨u, rfl⟩ := Int.eq_ofNat_of_zero_le hw.1
  simp only [Int.toNat_natCast] at hb
  rw [Nat.pow_succ] at hb
  have d0 : ((u : Int).tdiv 128) = ((u / 128 : Nat) : Int) := by rw [Int.tdiv_eq_ediv_of_nonneg (by omega)]; omega
  have d1 : IntKind.u64.wrap ((u : Int).tdiv 128) = ((u / 128 : Nat) : Int) := by rw [d0, wrap_u64 (by omega)]
  have d3 : ((u : Int).tmod 128) = ((u % 128 : Nat) : Int) := by rw [Int.tmod_eq_emod_of_nonneg (by omega)]; omega
  have d2 : IntKind.u8.wrap (IntKind.u8.wrap ((u : Int).tmod 128) + 128) = ((u % 128 + 128 : Nat) : Int) := by rw [d3, wrap_u8_mod, wrap_u8_mod]; omega
  have hlen := put1_len n (u / 128)
  have f1 : 1 + (put1 n (u / 128)).length ≤ 1099511627776 := by omega
  have f2 : u / 128 < 128 ^ (n + 1) := by omega
  have e1 : (u : Int) < 128 → put1 (n + 1) u = [u] ∧ IntKind.u8.wrap (u : Int) = u := fun h => by rw [put1, if_pos (by omega), wrap_u8_mod]; exact ⟨rfl, by omega⟩
  have e2 : ¬ (u : Int) < 128 → put1 (n + 1) u = (u % 128 + 128) :: put1 n (u / 128) := fun h => by rw [put1, if_neg (by omega)]
  have e3 : List.take (put1 n (u / 128)).length (rowB (put1 n (u / 128))) = rowB (put1 n (u / 128)) := take_rowB _
  cbv
  refine Split.mk (fun h => ?_) (fun h => ?_)
  · have h := e1 (of_decide_eq_true h)
    cbv
    simp [Hold.iff, chunk, h.1, h.2, rowB]
  · have h := e2 (of_decide_eq_false h)
    cbv
    simp only [Hold.iff, chunk, d1, d2, Int.toNat_natCast, h]
    simp [big, e3]
    exact ⟨f2, f1, Nat.add_comm _ _, by simp [rowB]⟩
theorem rput_all : ∀ n, n ≤ 100 → CSound Try.prog 23 (rputC n)
  | 0, _ => rput0
  | n + 1, h => rputS n (by omega) (rput_all n (by omega))
/-- the document's Put: the same bytes -/
def rputC' : Contract := { modes := [.ro], fn := fun args M => match args, M with
  | [.int .u64 v], [] => some ⟨[], .ms 0 (fun _ => 0) (fun _ => (putB (v ()).toNat).length), [(0, some (.row true U8 fun _ => rowB (putB (v ()).toNat)))]⟩
  | _, _ => none }
theorem rput_ok : CSound Try.prog 23 rputC' := by
  refine csound_of (rput_all 9 (by omega)) fun args M r hr hvc hw => ?_
  unfold rputC' at hr
  simp only at hr
  split at hr <;> cases hr
  rename_i v
  simp only [WfVs, WfV, and_true, u64_iff] at hw
  refine ⟨_, rfl, fun p hp => ?_, rfl, rfl⟩
  rw [List.mem_singleton.1 hp]
  show (v ()).toNat < 128 ^ 10
  omega
end Go.Am
/- The document's Get keeps the same contract as varint.Get. -/
namespace Go.Am
set_option linter.all false
set_option linter.deprecated false
open Go.Proofs
set_option maxRecDepth 100000
set_option maxHeartbeats 4000000
def L5 : List (Nat × Contract) := [(23, rputC')]
def G5 : Ctx := fun f => gget L5 f
theorem G5_ok : ∀ f C, G5 f = some C → CSound Try.prog f C := gget_cons rput_ok (gget_nil _)
def gfin (c : List Nat) (a : Int) : Nat × Int × Int :=
  match idx c with
  | none => if c.length = 10 then (0, 0, 10) else (0, 0, 4)
  | some n => if putB (valN (c.take (n + 1))) = c.take (n + 1) then (valN (c.take (n + 1)), a + n + 1, 0) else (0, 0, 10)
theorem getS_in {b : List Nat} {a : Int} (h : ¬ (a < 0 ∨ (b.length : Int) < a)) : getS b a = gfin ((b.drop a.toNat).take 10) a := by
  rw [getS, if_neg h]; rfl
structure RgI (c : List Nat) where
  n : Nat
  hn : n ≤ c.length
  h : ∀ j, j < n → 128 ≤ c.getD j 0
theorem gfin_none {c : List Nat} {a : Int} (h : ∀ j, j < c.length → 128 ≤ c.getD j 0) : gfin c a = if c.length = 10 then (0, 0, 10) else (0, 0, 4) := by
  rw [gfin, idx_none h]
theorem gfin_some {c : List Nat} {a : Int} {n : Nat} (hn : n < c.length) (h : ∀ j, j < n → 128 ≤ c.getD j 0) (hl : c.getD n 0 < 128) :
    gfin c a = if putB (valN (c.take (n + 1))) = c.take (n + 1) then (valN (c.take (n + 1)), a + n + 1, 0) else (0, 0, 10) := by
  rw [gfin, idx_some hn h hl]
structure RcI (p c : List Nat) (n : Nat) where
  i : Nat
  hi : i ≤ n + 1
  h : p.take i = c.take i
theorem mulrem (v b : Nat) (hv : v < 18446744073709551616) (hb : b < 256) :
    IntKind.u64.wrap (IntKind.u64.wrap ((v : Int) * 128) + IntKind.u64.wrap ((b : Int).tmod 128)) = ((v * 128 % 18446744073709551616 + b % 128 : Nat) : Int) := by
  rw [Int.tmod_eq_emod_of_nonneg (by omega)]
  simp only [wrap_u64_mod]
  omega
theorem rget_ok : CSound Try.prog 26 getC := by
  refine fsound' (G := G5) (c := codeOf Try.f26) mixed tyT G5_ok Try.func26 (by rfl) (by kernel_rfl) (by kernel_rfl) fun args M r hr hvc hw hm => ?_
  unfold getC at hr
  simp only at hr
  split at hr <;> cases hr
  rename_i xs a
  obtain ⟨x, rfl⟩ : ∃ x, xs = fun _ => x := ⟨xs (), rfl⟩
  obtain ⟨a, rfl⟩ : ∃ x, a = fun _ => x := ⟨a (), rfl⟩
  clear hvc hm
  simp only [WfVs, WfV, and_true, i64_iff] at hw
  have hx := hw.1.1
  obtain ⟨c, hc⟩ : ∃ c, c = (x.drop a.toNat).take 10 := ⟨_, rfl⟩
  conv => cbv
  refine Split.mk (fun h => ?_) (fun h => ?_)
  · have h : a < 0 := of_decide_eq_true h
    have e : getS (bn x) a = (0, 0, 2) := by rw [getS, if_pos (.inl h)]
    conv => cbv
    refine .yes ?_
    conv => cbv
    simp only [Hold.iff, e]
    decide
  · have h : ¬ a < 0 := of_decide_eq_false h
    conv => cbv
    refine Split.mk (fun h2 => ?_) (fun h2 => ?_)
    · have h2 : (x.length : Int) < a := of_decide_eq_true h2
      have e : getS (bn x) a = (0, 0, 2) := by rw [getS, if_pos (.inr (by simpa using h2))]
      conv => cbv
      simp only [Hold.iff, e]
      decide
    · have h2 : ¬ (x.length : Int) < a := of_decide_eq_false h2
      have hwc : WfR U8 c := by rw [hc]; exact (hw.1.drop _).take _
      have hcl : c.length = min 10 (x.length - a.toNat) := by rw [hc]; simp
      obtain ⟨al, hal⟩ : ∃ al : Nat, a = al := Int.eq_ofNat_of_zero_le (by omega)
      have hcx : ∀ i, i < c.length → (bn x).getD (al + i) 0 = (bn c).getD i 0 := fun i hi => by
        rw [hc, bn_take, bn_drop, hal]
        have : i < 10 := by omega
        simp [List.getD, List.getElem?_take, List.getElem?_drop, this]
      have hS : getS (bn x) a = gfin (bn c) a := by
        rw [getS_in (by simp; omega), hc, bn_take, bn_drop]
      clear hc
      subst hal
      simp only [Int.toNat_natCast] at hcl
      conv => cbv
      refine LoopP.mk (RgI (bn c)) (fun s => ⟨finit 93 [.sl false U8 fun _ => x, .int .i64 fun _ => al, .un, .un, .int .u64 fun _ => 0, .int .i64 fun _ => 0, .int .i64 fun _ => 0, .int .i64 fun _ => s.n], [], 8⟩) (fun s => 10 - s.n) ⟨0, Nat.zero_le _, fun _ h => by omega⟩ ?_ ?_
      · conv => cbv
        exact ⟨⟨rfl⟩, ⟨rfl⟩, ⟨rfl⟩, ⟨rfl⟩, ⟨rfl⟩, ⟨rfl⟩⟩
      · intro ⟨n, hn, he⟩
        rw [bn_len] at hn
        have hw0 : IntKind.i64.wrap ((al : Int) + n) = al + n := wrap_i64 (by omega)
        conv => cbv
        refine Split.mk (fun h3 => ?_) (fun h3 => ?_)
        · have h3 : (n : Int) < 10 := of_decide_eq_true h3
          conv => cbv
          refine Split.mk (fun h4 => ?_) (fun h4 => ?_)
          · have h4 : IntKind.i64.wrap ((al : Int) + n) < x.length := of_decide_eq_true h4
            have hB : 0 ≤ IntKind.i64.wrap ((al : Int) + n) ∧ IntKind.i64.wrap ((al : Int) + n) < x.length := by rw [hw0] at h4 ⊢; omega
            rw [hw0] at h4
            have hv : (lk (lk x (IntKind.i64.wrap ((al : Int) + n)).toNat) 0).toInt = (((bn c).getD n 0 : Nat) : Int) := by
              rw [hw0, show ((al : Int) + n).toNat = al + n by omega, bn_at hw.1 (by omega), hcx n (by omega)]
            have hnc : n < c.length := by omega
            have hnc' : n < (bn c).length := by simpa using hnc
            conv => cbv
            refine ⟨⟨hB⟩, Split.mk (fun h5 => ?_) (fun h5 => ?_)⟩
            · have h5 := of_decide_eq_true h5
              rw [hv] at h5
              have h5 : 128 ≤ (bn c).getD n 0 := Int.ofNat_le.1 h5
              have he' : ∀ j, j < n + 1 → 128 ≤ (bn c).getD j 0 := fun j hj => by
                by_cases hji : j = n
                · subst hji; exact h5
                · exact he j (by omega)
              have hw1 : IntKind.i64.wrap ((n : Int) + 1) = ((n + 1 : Nat) : Int) := by rw [wrap_i64 (by omega)]; omega
              have hlt : 10 - (n + 1) < 10 - n := by omega
              conv => cbv
              refine ⟨⟨n + 1, hnc', he'⟩, hlt, ?_⟩
              conv => cbv
              exact ⟨⟨rfl⟩, ⟨rfl⟩, ⟨rfl⟩, ⟨rfl⟩, ⟨rfl⟩, ⟨hw1⟩⟩
            · have h5 := of_decide_eq_false h5
              rw [hv] at h5
              have h5 : (bn c).getD n 0 < 128 := Nat.lt_of_not_le fun hh => h5 (Int.ofNat_le.2 hh)
              rw [gfin_some hnc' he h5] at hS
              have h6 : ¬ (n : Int) = 10 := by omega
              have h7 : ¬ ((x.length : Int) ≤ IntKind.i64.wrap ((al : Int) + n)) := by rw [hw0]; omega
              conv => cbv
              refine .ofF (beq_eq_false_iff_ne.2 h6) ?_
              conv => cbv
              refine .ofF (decide_eq_false h7) ?_
              conv => cbv
              refine LoopP.mk (GetI (bn c) n) (fun s => ⟨finit 93 [.sl false U8 fun _ => x, .int .i64 fun _ => al, .un, .un, .int .u64 fun _ => 0, .int .i64 fun _ => 0, .int .i64 fun _ => 0, .int .i64 fun _ => n, .int .u64 fun _ => s.v, .int .i64 fun _ => (s.i : Int) - 1], [], 8⟩) (fun s => s.i) ⟨n + 1, 0, Nat.le_refl _, by simp [valN]⟩ ?_ ?_
              · conv => cbv
                refine ⟨⟨rfl⟩, ⟨rfl⟩, ⟨rfl⟩, ⟨rfl⟩, ⟨rfl⟩, ⟨rfl⟩, ⟨rfl⟩, ⟨?_⟩⟩
                show (n : Int) = ((n + 1 : Nat) : Int) - 1
                omega
              · intro ⟨i, v, hi, hv⟩
                have hv64 : v < 18446744073709551616 := by rw [hv]; exact valN_lt _
                conv => cbv
                refine Split.mk (fun h8 => ?_) (fun h8 => ?_)
                · have h8 : (0 : Int) ≤ (i : Int) - 1 := of_decide_eq_true h8
                  obtain ⟨j, rfl⟩ : ∃ j, i = j + 1 := ⟨i - 1, by omega⟩
                  have hjc : j < c.length := by omega
                  have hb256 : (bn c).getD j 0 < 256 := bn_lt hwc _ (by simp [List.getD, hjc])
                  have hwi : IntKind.i64.wrap ((al : Int) + (((j + 1 : Nat) : Int) - 1)) = al + j := by rw [wrap_i64 (by omega)]; omega
                  have hidx : 0 ≤ IntKind.i64.wrap ((al : Int) + (((j + 1 : Nat) : Int) - 1)) ∧ IntKind.i64.wrap ((al : Int) + (((j + 1 : Nat) : Int) - 1)) < (x.length : Int) := by rw [hwi]; omega
                  have hbj : (lk (lk x (IntKind.i64.wrap ((al : Int) + (((j + 1 : Nat) : Int) - 1))).toNat) 0).toInt = (((bn c).getD j 0 : Nat) : Int) := by
                    rw [hwi, show ((al : Int) + j).toNat = al + j by omega, bn_at hw.1 (by omega), hcx j (by omega)]
                  have hval : valN (((bn c).take (n + 1)).drop j) = v * 128 % 18446744073709551616 + (bn c).getD j 0 % 128 := by
                    have hlt : j < ((bn c).take (n + 1)).length := by simp; omega
                    rw [List.drop_eq_getElem_cons hlt, valN, ← hv]
                    simp [List.getD, hjc]
                  have hw1 : IntKind.i64.wrap (((j + 1 : Nat) : Int) - 1 - 1) = (j : Int) - 1 := by rw [wrap_i64 (by omega)]; omega
                  have hstep := mulrem v _ hv64 hb256
                  have hn1 : j ≤ n + 1 := by omega
                  have hlt : j < j + 1 := by omega
                  have h9 : (128 : Int) ≠ 0 := by decide
                  conv => cbv
                  refine ⟨⟨hidx⟩, ⟨h9⟩, ⟨j, _, hn1, hval.symm⟩, hlt, ?_⟩
                  conv => cbv
                  refine ⟨⟨rfl⟩, ⟨rfl⟩, ⟨rfl⟩, ⟨rfl⟩, ⟨rfl⟩, ⟨rfl⟩, ⟨?_⟩, ⟨hw1⟩⟩
                  simp only [hbj]
                  exact hstep
                · have h8 : ¬ (0 : Int) ≤ (i : Int) - 1 := of_decide_eq_false h8
                  obtain rfl : i = 0 := by omega
                  have hv0 : v = valN ((bn c).take (n + 1)) := by simpa using hv
                  rw [← hv0] at hS
                  have hw1 : IntKind.i64.wrap ((n : Int) + 1) = n + 1 := wrap_i64 (by omega)
                  conv => cbv
                  refine Split.mk (fun h10 => ?_) (fun h10 => ?_)
                  · have h10 : ((putB v).length : Int) ≠ IntKind.i64.wrap ((n : Int) + 1) := ne_t h10
                    have hne : putB v ≠ (bn c).take (n + 1) := fun e => h10 (by rw [hw1, e]; simp; omega)
                    rw [if_neg hne] at hS
                    conv => cbv
                    simp only [Hold.iff, hS]
                    decide
                  · have h10 : ((putB v).length : Int) = IntKind.i64.wrap ((n : Int) + 1) := ne_f h10
                    have h10 : (putB v).length = n + 1 := by rw [hw1] at h10; omega
                    conv => cbv
                    refine LoopP.mk (RcI (putB v) (bn c) n) (fun s => ⟨finit 93 [.sl false U8 fun _ => x, .int .i64 fun _ => al, .un, .un, .int .u64 fun _ => 0, .int .i64 fun _ => 0, .int .i64 fun _ => 0, .int .i64 fun _ => n, .int .u64 fun _ => v, .un, .ms 0 (fun _ => 0) (fun _ => (putB v).length), .int .i64 fun _ => s.i], [(0, .row false U8 fun _ => rowB (putB v))], 8⟩) (fun s => n + 1 - s.i) ⟨0, Nat.zero_le _, rfl⟩ ?_ ?_
                    · conv => cbv
                      exact ⟨⟨rfl⟩, ⟨rfl⟩, ⟨rfl⟩, ⟨rfl⟩, ⟨rfl⟩, ⟨rfl⟩, ⟨rfl⟩, ⟨rfl, rfl⟩, ⟨rfl⟩, ⟨rfl⟩⟩
                    · intro ⟨i, hi, hpc⟩
                      conv => cbv
                      refine Split.mk (fun h11 => ?_) (fun h11 => ?_)
                      · have h11 : (i : Int) ≤ n := of_decide_eq_true h11
                        have h11 : i ≤ n := by omega
                        have hwi : IntKind.i64.wrap ((al : Int) + i) = al + i := wrap_i64 (by omega)
                        have hB1 : (0 : Int) ≤ (i : Int) ∧ (i : Int) < ((putB v).length : Int) := by omega
                        have hB2 : 0 + ((i : Int)).toNat < (rowB (putB v)).length := by simp; omega
                        have hB3 : 0 ≤ IntKind.i64.wrap ((al : Int) + i) ∧ IntKind.i64.wrap ((al : Int) + i) < (x.length : Int) := by rw [hwi]; omega
                        have hv1 : (lk (lk x (IntKind.i64.wrap ((al : Int) + i)).toNat) 0).toInt = (((bn c).getD i 0 : Nat) : Int) := by
                          rw [hwi, show ((al : Int) + i).toNat = al + i by omega, bn_at hw.1 (by omega), hcx i (by omega)]
                        have hv2 : (lk (lk (rowB (putB v)) (0 + ((i : Int)).toNat)) 0).toInt = (((putB v).getD i 0 : Nat) : Int) := by
                          have e1 : i < (putB v).length := by omega
                          simp [rowB, lk, List.getD, e1, D.toInt]
                        conv => cbv
                        refine ⟨⟨hB1⟩, ⟨hB2⟩, ⟨hB3⟩, Split.mk (fun h12 => ?_) (fun h12 => ?_)⟩
                        · have h12 := ne_t h12
                          rw [hv1, hv2] at h12
                          have hne : putB v ≠ (bn c).take (n + 1) := fun e => h12 (by
                            have : i < n + 1 := by omega
                            rw [e]; simp [List.getD, List.getElem?_take, this])
                          rw [if_neg hne] at hS
                          conv => cbv
                          simp only [Hold.iff, hS]
                          decide
                        · have h12 := ne_f h12
                          rw [hv1, hv2] at h12
                          have h12 : (putB v).getD i 0 = (bn c).getD i 0 := Int.ofNat_inj.1 h12
                          have hn2 := take_next (by omega) (show i < (bn c).length by simp; omega) hpc h12
                          have hi2 : i + 1 ≤ n + 1 := by omega
                          have hlt : n + 1 - (i + 1) < n + 1 - i := by omega
                          have hw2 : IntKind.i64.wrap ((i : Int) + 1) = ((i + 1 : Nat) : Int) := by rw [wrap_i64 (by omega)]; omega
                          conv => cbv
                          refine ⟨⟨i + 1, hi2, hn2⟩, hlt, ?_⟩
                          conv => cbv
                          exact ⟨⟨rfl⟩, ⟨rfl⟩, ⟨rfl⟩, ⟨rfl⟩, ⟨rfl⟩, ⟨rfl⟩, ⟨rfl⟩, ⟨rfl, rfl⟩, ⟨hw2⟩, ⟨rfl⟩⟩
                      · have h11 : ¬ (i : Int) ≤ n := of_decide_eq_false h11
                        obtain rfl : i = n + 1 := by omega
                        have heq : putB v = (bn c).take (n + 1) := by rw [← hpc, List.take_of_length_le (by omega)]
                        rw [if_pos heq] at hS
                        have hs1 : IntKind.i64.wrap (IntKind.i64.wrap ((al : Int) + n) + 1) = al + n + 1 := by rw [wrap_i64 (n := (al : Int) + n) (by omega), wrap_i64 (by omega)]
                        conv => cbv
                        simp only [Hold.iff, hS]
                        exact ⟨trivial, hs1, trivial⟩
          · have h4 : ¬ IntKind.i64.wrap ((al : Int) + n) < x.length := of_decide_eq_false h4
            rw [hw0] at h4
            have hnc : c.length = n := by omega
            rw [gfin_none (fun j hj => he j (by simp at hj; omega)), bn_len, if_neg (by omega)] at hS
            have h6 : ¬ (n : Int) = 10 := by omega
            have h7 : ((x.length : Int) ≤ IntKind.i64.wrap ((al : Int) + n)) := by rw [hw0]; omega
            conv => cbv
            refine .no ?_
            conv => cbv
            refine .ofF (beq_eq_false_iff_ne.2 h6) ?_
            conv => cbv
            refine .ofT (decide_eq_true h7) ?_
            conv => cbv
            simp only [Hold.iff, hS]
            decide
        · have h3 : ¬ (n : Int) < 10 := of_decide_eq_false h3
          have h6 : (n : Int) = 10 := by omega
          rw [gfin_none (fun j hj => he j (by simp at hj; omega)), bn_len, if_pos (by omega)] at hS
          conv => cbv
          refine .no ?_
          conv => cbv
          refine .no ?_
          conv => cbv
          refine .ofT (beq_iff_eq.2 h6) ?_
          conv => cbv
          simp only [Hold.iff, hS]
          decide
end Go.Am
/- alibilaw01.VarintGets keeps its contract: it returns true. -/
namespace Go.Am
set_option linter.all false
set_option linter.deprecated false
open Go.Proofs
set_option maxRecDepth 100000
set_option maxHeartbeats 4000000
def getsC : Contract := { modes := [], fn := fun args M => match args, M with
  | [.int .u64 _, .sl _ [.int .u8] _, .int .i64 _], [] => some ⟨[], .bool (fun _ => true), []⟩
  | _, _ => none }
def L6 : List (Nat × Contract) := [(18, trueC), (19, putC), (20, ownC), (21, getC), (22, sameC), (23, rputC'), (24, sizeC), (25, spoilC), (26, getC)]
def G6 : Ctx := fun f => gget L6 f
theorem G6_ok : ∀ f C, G6 f = some C → CSound Try.prog f C := gget_cons works_ok (gget_cons put_ok (gget_cons own_ok (gget_cons get_ok (gget_cons same_ok (gget_cons rput_ok (gget_cons size_ok (gget_cons spoil_ok (gget_cons rget_ok (gget_nil _)))))))))
theorem gets_ok : CSound Try.prog 4 getsC := by
  refine fsound' (G := G6) (c := codeOf Try.f4) mixed tyT G6_ok Try.func4 (by rfl) (by kernel_rfl) (by kernel_rfl) fun args M r hr hvc hw hm => ?_
  unfold getsC at hr
  simp only at hr
  split at hr <;> cases hr
  rename_i v nn b a
  obtain ⟨b, rfl⟩ : ∃ x, b = fun _ => x := ⟨b (), rfl⟩
  obtain ⟨v, rfl⟩ : ∃ x, v = fun _ => x := ⟨v (), rfl⟩
  obtain ⟨a, rfl⟩ : ∃ x, a = fun _ => x := ⟨a (), rfl⟩
  clear hvc hm
  simp only [WfVs, WfV, and_true, u64_iff] at hw
  obtain ⟨hv, hb, ha⟩ := hw
  obtain ⟨v, rfl⟩ := Int.eq_ofNat_of_zero_le hv.1
  have lv := put1_len 9 v
  rw [← putB] at lv
  have hT : List.take b.length (List.drop 0 b) = b := by simp
  have hP : List.take (putB v).length (List.drop 0 (rowB (putB v))) = rowB (putB v) := by simp
  conv => cbv
  refine Split.mk (fun h => ?_) (fun h => ?_)
  · conv => cbv
    exact ⟨rfl⟩
  · have h : ¬ (200 : Int) < b.length := of_decide_eq_false h
    have h1 : b.length ≤ big := by simp only [big]; omega
    conv => cbv
    refine ⟨⟨h1⟩, LoopP.mk Nat (fun s => ⟨finit 79 [.int .u64 fun _ => v, .sl false U8 fun _ => b, .int .i64 fun _ => a, .un, .un, .un, .bool fun _ => false, .ms 0 (fun _ => 0) (fun _ => b.length), .ms 1 (fun _ => 0) (fun _ => (putB v).length), .int .i64 fun _ => (s : Int)], [(0, .row false U8 fun _ => b), (1, .row false U8 fun _ => rowB (putB v))], 8⟩) (fun s => 2 - s) 0 ?_ ?_⟩
    · conv => cbv
      exact ⟨⟨rfl⟩, ⟨rfl⟩, ⟨rfl⟩, ⟨rfl⟩, ⟨rfl, rfl⟩, ⟨rfl, rfl⟩, ⟨rfl⟩, ⟨rfl⟩, ⟨rfl⟩⟩
    · intro n
      conv => cbv
      refine Split.mk (fun h => ?_) (fun h => ?_)
      · have h : (n : Int) < 2 := of_decide_eq_true h
        have hw1 : IntKind.i64.wrap ((n : Int) + 1) = ((n + 1 : Nat) : Int) := by rw [wrap_i64 (by omega)]; omega
        have hlt : 2 - (n + 1) < 2 - n := by omega
        have hB : 0 + (putB v).length ≤ (rowB (putB v)).length := by simp
        conv => cbv
        refine ⟨⟨by simp⟩, ⟨by simp⟩, .ofF (by simp) ?_⟩
        conv => cbv
        refine .ofF (by simp) ?_
        conv => cbv
        refine ⟨⟨by simp⟩, n + 1, hlt, ?_⟩
        conv => cbv
        exact ⟨⟨rfl⟩, ⟨rfl⟩, ⟨rfl⟩, ⟨rfl⟩, ⟨rfl, rfl⟩, ⟨rfl, rfl⟩, ⟨hw1⟩, ⟨rfl⟩, ⟨rfl⟩⟩
      · have h : ¬ (n : Int) < 2 := of_decide_eq_false h
        conv => cbv
        refine ⟨⟨by simp⟩, .ofT (by simp) ?_⟩
        conv => cbv
        refine .ofT (by simp) ?_
        conv => cbv
        refine .ofT (by simp) ?_
        conv => cbv
        refine ⟨⟨by simp⟩, .ofT (by simp) ?_⟩
        conv => cbv
        exact ⟨rfl⟩
end Go.Am
/- crc: the program's functions keep their contracts. -/
namespace Go.Am
set_option linter.all false
set_option linter.deprecated false
open Go.Proofs
set_option maxRecDepth 100000
set_option maxHeartbeats 4000000
def byteC : Contract := { modes := [.mut, .ro], fn := fun args M => match args, M with
  | [.mp 0 0, .int .u8 c], [(0, .obj [.int .u32 s, .int .i64 m])] => some ⟨[], .tup [], [(0, some (.obj [.int .u32 fun _ => ((cbyte (BitVec.ofNat 32 (s ()).toNat) (c ()).toNat).toNat : Int), .int .i64 fun _ => IntKind.i64.wrap (m () + 1)]))]⟩
  | _, _ => none }
structure BI (r : B32) where
  i : Nat
  v : B32
  hi : i ≤ 8
  h : citer (8 - i) v = citer 8 r
theorem byte_ok : CSound Try.prog 82 byteC := by
  refine fsound' (G := G0) (c := codeOf Try.f82) mixed tyT (gget_nil _) Try.func82 (by rfl) (by kernel_rfl) (by kernel_rfl) fun args M r hr hvc hw hm => ?_
  unfold byteC at hr
  simp only at hr
  split at hr <;> cases hr
  rename_i c s m
  obtain ⟨c, rfl⟩ : ∃ x, c = fun _ => x := ⟨c (), rfl⟩
  obtain ⟨s, rfl⟩ : ∃ x, s = fun _ => x := ⟨s (), rfl⟩
  obtain ⟨m, rfl⟩ : ∃ x, m = fun _ => x := ⟨m (), rfl⟩
  have hm := hm ⟨rfl, trivial⟩
  simp only [WfM, WfO, WfVs, WfV, and_true, u8_iff, u32_iff, true_and] at hm hw
  obtain ⟨b, rfl⟩ := b32_of hm.1
  obtain ⟨c, rfl⟩ := Int.eq_ofNat_of_zero_le hw.1
  have hc : c < 256 := by omega
  clear hvc
  have e1 := start32 b c hc
  conv => cbv
  refine LoopP.mk (BI (~~~ b ^^^ BitVec.ofNat 32 c)) (fun x => ⟨finit 35 [.mp 0 0, .un, .un, .un, .int .u32 fun _ => (x.v.toNat : Int), .un, .un, .un, .un, .un, .un, .un, .un, .int .i64 fun _ => (x.i : Int)], [(0, .obj [.int .u32 fun _ => (b.toNat : Int), .int .i64 fun _ => m])], 73⟩) (fun x => 8 - x.i) ⟨0, _, by omega, rfl⟩ ?_ ?_
  · conv => cbv
    exact ⟨⟨e1⟩, ⟨rfl⟩, ⟨rfl⟩, ⟨rfl⟩⟩
  · intro ⟨i, v, hi, h⟩
    conv => cbv
    refine Split.mk (fun h2 => ?_) (fun h2 => ?_)
    · have h2 : (i : Int) < 8 := of_decide_eq_true h2
      have hw1 : IntKind.i64.wrap ((i : Int) + 1) = ((i + 1 : Nat) : Int) := by rw [wrap_i64 (by omega)]; omega
      have h3 : citer (8 - (i + 1)) (csh v) = citer 8 (~~~ b ^^^ BitVec.ofNat 32 c) := by
        rw [← h, show 8 - i = (8 - (i + 1)) + 1 by omega]; rfl
      have h4 : i + 1 ≤ 8 ∧ 8 - (i + 1) < 8 - i := by omega
      have h5 : (0 : Int) ≤ 1 := by decide
      conv => cbv
      refine ⟨⟨h5⟩, ⟨i + 1, csh v, h4.1, h3⟩, h4.2, ?_⟩
      conv => cbv
      exact ⟨⟨step32 v⟩, ⟨hw1⟩, ⟨rfl⟩, ⟨rfl⟩⟩
    · have h2 : ¬ (i : Int) < 8 := of_decide_eq_false h2
      obtain rfl : i = 8 := by omega
      have h : v = citer 8 (~~~ b ^^^ BitVec.ofNat 32 c) := h
      have h3 : cbyte (BitVec.ofNat 32 ((b.toNat : Int)).toNat) ((c : Int)).toNat = ~~~ v := by rw [h, ofNat_toNat32]; rfl
      conv => cbv
      refine ⟨⟨?_⟩, ⟨rfl⟩⟩
      show _ = (((cbyte (BitVec.ofNat 32 ((b.toNat : Int)).toNat) ((c : Int)).toNat).toNat : Nat) : Int)
      rw [h3]
      exact ib_not v
def addC : Contract := { modes := [.mut, .ro], fn := fun args M => match args, M with
  | [.nilp, .sl _ [.int .u8] _], [] => some ⟨[], .tup [], []⟩
  | [.mp 0 0, .sl _ [.int .u8] xs], [(0, .obj [.int .u32 s, .int .i64 m])] => some ⟨[fun _ => 0 ≤ m () ∧ m () + (xs ()).length < 9223372036854775808], .tup [],
      [(0, some (.obj [.int .u32 fun _ => ((crcs (BitVec.ofNat 32 (s ()).toNat) (bn (xs ()))).toNat : Int), .int .i64 fun _ => m () + (xs ()).length]))]⟩
  | _, _ => none }
def Lc1 : List (Nat × Contract) := [(82, byteC)]
def Gc1 : Ctx := fun f => gget Lc1 f
theorem Gc1_ok : ∀ f C, Gc1 f = some C → CSound Try.prog f C := gget_cons byte_ok (gget_nil _)
theorem add_ok : CSound Try.prog 44 addC := by
  refine fsound' (G := Gc1) (c := codeOf Try.f44) mixed tyT Gc1_ok Try.func44 (by rfl) (by kernel_rfl) (by kernel_rfl) fun args M r hr hvc hw hm => ?_
  unfold addC at hr
  simp only at hr
  split at hr <;> cases hr
  · conv => cbv
    refine .yes ?_
    conv => cbv
    trivial
  · rename_i xs s m
    obtain ⟨x, rfl⟩ : ∃ x, xs = fun _ => x := ⟨xs (), rfl⟩
    obtain ⟨s, rfl⟩ : ∃ x, s = fun _ => x := ⟨s (), rfl⟩
    obtain ⟨m, rfl⟩ : ∃ x, m = fun _ => x := ⟨m (), rfl⟩
    have hb : 0 ≤ m ∧ m + x.length < 9223372036854775808 := hvc _ (List.mem_singleton.2 rfl)
    have hm := hm ⟨rfl, trivial⟩
    simp only [WfM, WfO, WfVs, WfV, and_true, u32_iff, true_and] at hm hw
    obtain ⟨b, rfl⟩ := b32_of hm.1
    have hx := hw.1
    clear hvc
    conv => cbv
    refine .no ?_
    conv => cbv
    refine LoopP.mk {i : Nat // i ≤ x.length} (fun i => ⟨finit 20 [.mp 0 0, .un, .un, .un, .un, .un, .un, .un, .sl false U8 fun _ => x, .int .i64 fun _ => x.length, .int .i64 fun _ => (i.1 : Int)], [(0, .obj [.int .u32 fun _ => ((crcs b ((bn x).take i.1)).toNat : Int), .int .i64 fun _ => m + (i.1 : Int)])], 25⟩) (fun i => x.length - i.1) ⟨0, Nat.zero_le _⟩ ?_ ?_
    · have e1 : m = m + ((0 : Nat) : Int) := by omega
      conv => cbv
      exact ⟨⟨rfl⟩, ⟨rfl⟩, ⟨rfl⟩, ⟨rfl⟩, ⟨e1⟩⟩
    · intro ⟨i, hi⟩
      conv => cbv
      refine Split.mk (fun h => ?_) (fun h => ?_)
      · have h : (i : Int) < x.length := of_decide_eq_true h
        have h : i < x.length := by omega
        have hB : 0 ≤ (i : Int) ∧ (i : Int) < (x.length : Int) := by omega
        have hv := bn_at hw h
        have hw1 : IntKind.i64.wrap ((i : Int) + 1) = ((i + 1 : Nat) : Int) := by rw [wrap_i64 (by omega)]; omega
        have hw2 : IntKind.i64.wrap (m + (i : Int) + 1) = m + ((i + 1 : Nat) : Int) := by rw [wrap_i64 (by omega)]; omega
        have hlt : i + 1 ≤ x.length ∧ x.length - (i + 1) < x.length - i := by omega
        have hc := crcs_take (s := b) (b := bn x) (i := i) (by simpa using h)
        have hs : (((cbyte (BitVec.ofNat 32 (((crcs b ((bn x).take i)).toNat : Int)).toNat) ((lk (lk x ((i : Int)).toNat) 0).toInt).toNat).toNat : Nat) : Int) = (((crcs b ((bn x).take (i + 1))).toNat : Nat) : Int) := by
          rw [hc]; simp [hv]
        conv => cbv
        refine ⟨⟨hB⟩, ⟨i + 1, hlt.1⟩, hlt.2, ?_⟩
        conv => cbv
        exact ⟨⟨rfl⟩, ⟨rfl⟩, ⟨hw1⟩, ⟨hs⟩, ⟨hw2⟩⟩
      · have h : ¬ (i : Int) < x.length := of_decide_eq_false h
        obtain rfl : i = x.length := by omega
        have e : (bn x).take x.length = bn x := List.take_of_length_le (by simp)
        conv => cbv
        simp only [Hold.iff, e, ofNat_toNat32]
        exact ⟨trivial, trivial⟩
def valueC : Contract := { modes := [.mut], fn := fun args M => match args, M with
  | [.nilp], [] => some ⟨[], .int .u32 fun _ => 0, []⟩
  | [.mp 0 0], [(0, .obj [.int .u32 s, .int .i64 _])] => some ⟨[], .int .u32 s, []⟩
  | _, _ => none }
theorem value_ok : CSound Try.prog 42 valueC := by
  refine fsound' (G := G0) (c := codeOf Try.f42) mixed tyT (gget_nil _) Try.func42 (by rfl) (by kernel_rfl) (by kernel_rfl) fun args M r hr hvc hw hm => ?_
  unfold valueC at hr
  simp only at hr
  split at hr <;> cases hr
  · conv => cbv
    refine .yes ?_
    conv => cbv
    exact ⟨rfl⟩
  · conv => cbv
    refine .no ?_
    conv => cbv
    exact ⟨⟨rfl⟩, ⟨rfl⟩, ⟨rfl⟩⟩
def lenC : Contract := { modes := [.mut], fn := fun args M => match args, M with
  | [.nilp], [] => some ⟨[], .int .i64 fun _ => 0, []⟩
  | [.mp 0 0], [(0, .obj [.int .u32 _, .int .i64 m])] => some ⟨[], .int .i64 m, []⟩
  | _, _ => none }
theorem lens_ok : CSound Try.prog 81 lenC := by
  refine fsound' (G := G0) (c := codeOf Try.f81) mixed tyT (gget_nil _) Try.func81 (by rfl) (by kernel_rfl) (by kernel_rfl) fun args M r hr hvc hw hm => ?_
  unfold lenC at hr
  simp only at hr
  split at hr <;> cases hr
  · conv => cbv
    refine .yes ?_
    conv => cbv
    exact ⟨rfl⟩
  · conv => cbv
    refine .no ?_
    conv => cbv
    exact ⟨⟨rfl⟩, ⟨rfl⟩, ⟨rfl⟩⟩
def Lc2 : List (Nat × Contract) := [(81, lenC)]
def Gc2 : Ctx := fun f => gget Lc2 f
theorem Gc2_ok : ∀ f C, Gc2 f = some C → CSound Try.prog f C := gget_cons lens_ok (gget_nil _)
theorem len_ok : CSound Try.prog 43 lenC := by
  refine fsound' (G := Gc2) (c := codeOf Try.f43) mixed tyT Gc2_ok Try.func43 (by rfl) (by kernel_rfl) (by kernel_rfl) fun args M r hr hvc hw hm => ?_
  unfold lenC at hr
  simp only at hr
  split at hr <;> cases hr
  · conv => cbv
    refine .yes ?_
    conv => cbv
    exact ⟨rfl⟩
  · conv => cbv
    refine .no ?_
    conv => cbv
    exact ⟨⟨rfl⟩, ⟨rfl⟩, ⟨rfl⟩⟩
def copyC : Contract := { modes := [.mut], fn := fun args M => match args, M with
  | [.nilp], [] => some ⟨[], .nilp, []⟩
  | [.mp 0 0], [(0, .obj [.int .u32 s, .int .i64 m])] => some ⟨[], .mp 1 0, [(1, some (.obj [.int .u32 s, .int .i64 m]))]⟩
  | _, _ => none }
theorem rcopy_ok : CSound Try.prog 41 copyC := by
  refine fsound' (G := G0) (c := codeOf Try.f41) mixed tyT (gget_nil _) Try.func41 (by rfl) (by kernel_rfl) (by kernel_rfl) fun args M r hr hvc hw hm => ?_
  unfold copyC at hr
  simp only at hr
  split at hr <;> cases hr
  · conv => cbv
    refine .yes ?_
    conv => cbv
    trivial
  · conv => cbv
    refine .no ?_
    conv => cbv
    exact ⟨⟨rfl⟩, ⟨rfl⟩, ⟨rfl⟩, ⟨rfl⟩⟩
def rb (xs : List (List D)) : List (List Nat) := xs.map fun c => bn (lk c 0).toList
def fl (xs : List (List D)) : List (List D) := (xs.map fun c => (lk c 0).toList).flatten
theorem bn_fl (xs : List (List D)) : bn (fl xs) = (rb xs).flatten := by
  induction xs with
  | nil => rfl
  | cons x xs ih => simp only [fl, rb, List.map_cons, List.flatten_cons, bn_append] at ih ⊢; rw [← ih]
theorem fl_take {xs : List (List D)} {i : Nat} (h : i < xs.length) : fl (xs.take (i + 1)) = fl (xs.take i) ++ (lk (lk xs i) 0).toList := by
  rw [List.take_add_one, List.getElem?_eq_getElem h]
  simp only [fl, List.map_append, List.flatten_append, Option.toList_some, List.map_cons, List.map_nil, List.flatten_cons, List.flatten_nil, List.append_nil]
  simp [lk, List.getD, h]
theorem fl_len_take {xs : List (List D)} {i : Nat} (h : i < xs.length) : (fl (xs.take i)).length + (lk (lk xs i) 0).toList.length ≤ (fl xs).length := by
  have h1 := fl_take h
  have h2 : fl xs = fl (xs.take (i + 1)) ++ fl (xs.drop (i + 1)) := by
    simp only [fl]
    rw [← List.flatten_append, ← List.map_append, List.take_append_drop]
  rw [h2, h1]
  simp
theorem WfR.row {xs : List (List D)} (h : WfR [.slice U8] xs) {i : Nat} (hi : i < xs.length) : WfR U8 (lk (lk xs i) 0).toList := by
  have := h.2 i hi
  simp only [WfDs, WfD, and_true] at this
  exact ⟨this.1, fun i hi => by simp only [WfDs, WfD, and_true]; exact this.2 i hi⟩
def sumC : Contract := { modes := [.ro], fn := fun args M => match args, M with
  | [.nils], [] => some ⟨[], .int .u32 fun _ => 0, []⟩
  | [.sl _ [.slice [.int .u8]] xs], [] => some ⟨[fun _ => (fl (xs ())).length < 9223372036854775808], .int .u32 fun _ => ((crcs 0 (bn (fl (xs ())))).toNat : Int), []⟩
  | _, _ => none }
def Lc3 : List (Nat × Contract) := [(42, valueC), (44, addC)]
def Gc3 : Ctx := fun f => gget Lc3 f
theorem Gc3_ok : ∀ f C, Gc3 f = some C → CSound Try.prog f C := gget_cons value_ok (gget_cons add_ok (gget_nil _))
theorem sum_ok : CSound Try.prog 33 sumC := by
  refine fsound' (G := Gc3) (c := codeOf Try.f33) mixed tyT Gc3_ok Try.func33 (by rfl) (by kernel_rfl) (by kernel_rfl) fun args M r hr hvc hw hm => ?_
  unfold sumC at hr
  simp only at hr
  split at hr <;> cases hr
  · conv => cbv
    refine LoopP.mk Unit (fun i => ⟨finit 16 [.un, .un, .un, .mp 0 0, .un, .un, .nils, .int .i64 fun _ => 0, .int .i64 fun _ => 0], [(0, .obj [.int .u32 fun _ => 0, .int .i64 fun _ => 0])], 8⟩) (fun _ => 0) () ?_ ?_
    · conv => cbv
      exact ⟨⟨rfl⟩, ⟨rfl⟩, ⟨rfl⟩, ⟨rfl⟩⟩
    · intro _
      conv => cbv
      refine .ofF (by decide) ?_
      conv => cbv
      exact ⟨rfl⟩
  · rename_i xs
    obtain ⟨x, rfl⟩ : ∃ x, xs = fun _ => x := ⟨xs (), rfl⟩
    have hb : (fl x).length < 9223372036854775808 := hvc _ (List.mem_singleton.2 rfl)
    simp only [WfVs, WfV, and_true] at hw
    have hx := hw.1
    clear hvc hm
    conv => cbv
    refine LoopP.mk {i : Nat // i ≤ x.length} (fun i => ⟨finit 16 [.un, .un, .un, .mp 0 0, .un, .un, .sl false [.slice U8] fun _ => x, .int .i64 fun _ => x.length, .int .i64 fun _ => (i.1 : Int)], [(0, .obj [.int .u32 fun _ => ((crcs 0 (bn (fl (x.take i.1)))).toNat : Int), .int .i64 fun _ => ((fl (x.take i.1)).length : Int)])], 8⟩) (fun i => x.length - i.1) ⟨0, Nat.zero_le _⟩ ?_ ?_
    · conv => cbv
      exact ⟨⟨rfl⟩, ⟨rfl⟩, ⟨rfl⟩, ⟨rfl⟩, ⟨rfl⟩⟩
    · intro ⟨i, hi⟩
      conv => cbv
      refine Split.mk (fun h => ?_) (fun h => ?_)
      · have h : (i : Int) < x.length := of_decide_eq_true h
        have h : i < x.length := by omega
        have hB : 0 ≤ (i : Int) ∧ (i : Int) < (x.length : Int) := by omega
        have hw1 : IntKind.i64.wrap ((i : Int) + 1) = ((i + 1 : Nat) : Int) := by rw [wrap_i64 (by omega)]; omega
        have hlt : i + 1 ≤ x.length ∧ x.length - (i + 1) < x.length - i := by omega
        have h3 := fl_len_take h
        have h4 := fl_take h
        have hB2 : 0 ≤ ((fl (x.take i)).length : Int) ∧ ((fl (x.take i)).length : Int) + (((lk (lk x ((i : Int)).toNat) 0).toList).length : Int) < 9223372036854775808 := by
          simp only [Int.toNat_natCast]; omega
        have hs1 : (((crcs (BitVec.ofNat 32 (((crcs 0 (bn (fl (x.take i)))).toNat : Int)).toNat) (bn (lk (lk x ((i : Int)).toNat) 0).toList)).toNat : Nat) : Int) = (((crcs 0 (bn (fl (x.take (i + 1))))).toNat : Nat) : Int) := by
          rw [h4, bn_append, crcs_append, ofNat_toNat32, Int.toNat_natCast]
        have hs2 : ((fl (x.take i)).length : Int) + (((lk (lk x ((i : Int)).toNat) 0).toList).length : Int) = ((fl (x.take (i + 1))).length : Int) := by
          rw [h4, Int.toNat_natCast]; simp
        conv => cbv
        refine ⟨⟨hB⟩, ⟨hB2⟩, ⟨i + 1, hlt.1⟩, hlt.2, ?_⟩
        conv => cbv
        exact ⟨⟨rfl⟩, ⟨rfl⟩, ⟨hw1⟩, ⟨hs1⟩, ⟨hs2⟩⟩
      · have h : ¬ (i : Int) < x.length := of_decide_eq_false h
        obtain rfl : i = x.length := by omega
        have e : x.take x.length = x := List.take_of_length_le (Nat.le_refl _)
        conv => cbv
        simp only [Hold.iff, e]
def st4 (n : Nat) : List Nat := [n / 16777216 % 256, n / 65536 % 256, n / 256 % 256, n % 256]
def stC : Contract := { modes := [.ro], fn := fun args M => match args, M with
  | [.int .u32 n], [] => some ⟨[], .ms 0 (fun _ => 0) (fun _ => 4), [(0, some (.row true U8 fun _ => rowB (st4 (n ()).toNat)))]⟩
  | _, _ => none }
theorem ishr_nat (k : IntKind) (n s : Nat) (h : s ≤ k.bits) : ishr k (n : Int) (s : Int) = ((n / 2 ^ s : Nat) : Int) := by
  simp only [ishr, Int.toNat_natCast, Nat.min_eq_left h]
  rw [Int.fdiv_eq_ediv_of_nonneg _ (by exact_mod_cast Nat.zero_le _)]
  rw [Int.natCast_ediv]
  congr 1
theorem stands_ok : CSound Try.prog 75 stC := by
  refine fsound' (G := G0) (c := codeOf Try.f75) mixed tyT (gget_nil _) Try.func75 (by rfl) (by kernel_rfl) (by kernel_rfl) fun args M r hr hvc hw hm => ?_
  unfold stC at hr
  simp only at hr
  split at hr <;> cases hr
  rename_i n0
  clear hvc hm
  obtain ⟨m0, rfl⟩ : ∃ x, n0 = fun _ => x := ⟨n0 (), rfl⟩
  simp only [WfVs, WfV, and_true, u32_iff] at hw
  have ⟨n, hk⟩ := Int.eq_ofNat_of_zero_le hw.1
  subst hk
  have e1 : IntKind.u8.wrap (ishr .u32 (n : Int) 24) = ((n / 16777216 % 256 : Nat) : Int) := by have h := ishr_nat .u32 n 24 (by decide); rw [show ((24 : Nat) : Int) = 24 from rfl] at h; rw [h, wrap_u8_mod]; omega
  have e2 : IntKind.u8.wrap (ishr .u32 (n : Int) 16) = ((n / 65536 % 256 : Nat) : Int) := by have h := ishr_nat .u32 n 16 (by decide); rw [show ((16 : Nat) : Int) = 16 from rfl] at h; rw [h, wrap_u8_mod]; omega
  have e3 : IntKind.u8.wrap (ishr .u32 (n : Int) 8) = ((n / 256 % 256 : Nat) : Int) := by have h := ishr_nat .u32 n 8 (by decide); rw [show ((8 : Nat) : Int) = 8 from rfl] at h; rw [h, wrap_u8_mod]; omega
  have e4 : IntKind.u8.wrap (n : Int) = ((n % 256 : Nat) : Int) := by rw [wrap_u8_mod]; omega
  conv => cbv
  simp only [Hold.iff, e1, e2, e3, e4, st4, rowB]
  simp [chunk]
theorem rstands_ok : CSound Try.prog 29 stC := by
  refine fsound' (G := G0) (c := codeOf Try.f29) mixed tyT (gget_nil _) Try.func29 (by rfl) (by kernel_rfl) (by kernel_rfl) fun args M r hr hvc hw hm => ?_
  unfold stC at hr
  simp only at hr
  split at hr <;> cases hr
  rename_i n0
  clear hvc hm
  obtain ⟨m0, rfl⟩ : ∃ x, n0 = fun _ => x := ⟨n0 (), rfl⟩
  simp only [WfVs, WfV, and_true, u32_iff] at hw
  have ⟨n, hk⟩ := Int.eq_ofNat_of_zero_le hw.1
  subst hk
  have qa : (n : Int).tdiv 16777216 = ((n / 16777216 : Nat) : Int) := (Int.ofNat_tdiv n 16777216).symm
  have qb : (n : Int).tdiv 65536 = ((n / 65536 : Nat) : Int) := (Int.ofNat_tdiv n 65536).symm
  have qc : (n : Int).tdiv 256 = ((n / 256 : Nat) : Int) := (Int.ofNat_tdiv n 256).symm
  have q2 : ∀ a : Nat, ((a : Int).tmod 256) = ((a % 256 : Nat) : Int) := fun a => (Int.ofNat_tmod a 256).symm
  have w1 : ∀ a : Nat, a ≤ n → IntKind.u32.wrap (a : Int) = a := fun a h => by rw [wrap_u32_mod]; omega
  have e1 : IntKind.u8.wrap (IntKind.u32.wrap ((n : Int).tdiv 16777216)) = ((n / 16777216 % 256 : Nat) : Int) := by rw [qa, w1 _ (Nat.div_le_self _ _), wrap_u8_mod]; omega
  have e2 : IntKind.u8.wrap ((IntKind.u32.wrap ((n : Int).tdiv 65536)).tmod 256) = ((n / 65536 % 256 : Nat) : Int) := by rw [qb, w1 _ (Nat.div_le_self _ _), q2, wrap_u8_mod]; omega
  have e3 : IntKind.u8.wrap ((IntKind.u32.wrap ((n : Int).tdiv 256)).tmod 256) = ((n / 256 % 256 : Nat) : Int) := by rw [qc, w1 _ (Nat.div_le_self _ _), q2, wrap_u8_mod]; omega
  have e4 : IntKind.u8.wrap ((n : Int).tmod 256) = ((n % 256 : Nat) : Int) := by rw [q2, wrap_u8_mod]; omega
  conv => cbv
  simp only [Hold.iff, e1, e2, e3, e4, st4, rowB]
  simp [chunk]
def cloneC : Contract := { modes := [.ro], fn := fun args M => match args, M with
  | [.nils], [] => some ⟨[], .nils, []⟩
  | [.sl _ [.int .u8] xs], [] => some ⟨[fun _ => (xs ()).length ≤ big], .ms 0 (fun _ => 0) (fun _ => (xs ()).length), [(0, some (.row false U8 fun _ => xs ()))]⟩
  | _, _ => none }
theorem clone_ok : CSound Try.prog 76 cloneC := by
  refine fsound' (G := G0) (c := codeOf Try.f76) mixed tyT (gget_nil _) Try.func76 (by rfl) (by kernel_rfl) (by kernel_rfl) fun args M r hr hvc hw hm => ?_
  unfold cloneC at hr
  simp only at hr
  split at hr <;> cases hr
  · conv => cbv
    refine .yes ?_
    conv => cbv
    trivial
  · rename_i nn xs
    have hb : (xs ()).length ≤ big := hvc _ (List.mem_singleton.2 rfl)
    clear hvc hm hw
    obtain ⟨x, rfl⟩ : ∃ x, xs = fun _ => x := ⟨xs (), rfl⟩
    have hb : x.length ≤ big := hb
    cases nn
    · conv => cbv
      intro d hd
      have hd : d.toBool = true → x = [] := hd
      conv => cbv
      refine Split.mk (fun h => ?_) (fun h => ?_)
      · have hx := hd (eq_of_beq h)
        conv => cbv
        subst hx
        exact ⟨⟨rfl, rfl⟩, ⟨rfl⟩⟩
      · conv => cbv
        simp [Hold.iff, chunk, big] at hb ⊢
        exact hb
    · conv => cbv
      refine .no ?_
      conv => cbv
      simp [Hold.iff, chunk, big] at hb ⊢
      exact hb
theorem sclone_ok : CSound Try.prog 80 cloneC := by
  refine fsound' (G := G0) (c := codeOf Try.f80) mixed tyT (gget_nil _) Try.func80 (by rfl) (by kernel_rfl) (by kernel_rfl) fun args M r hr hvc hw hm => ?_
  unfold cloneC at hr
  simp only at hr
  split at hr <;> cases hr
  · conv => cbv
    refine .yes ?_
    conv => cbv
    trivial
  · rename_i nn xs
    have hb : (xs ()).length ≤ big := hvc _ (List.mem_singleton.2 rfl)
    clear hvc hm hw
    obtain ⟨x, rfl⟩ : ∃ x, xs = fun _ => x := ⟨xs (), rfl⟩
    have hb : x.length ≤ big := hb
    cases nn
    · conv => cbv
      intro d hd
      have hd : d.toBool = true → x = [] := hd
      conv => cbv
      refine Split.mk (fun h => ?_) (fun h => ?_)
      · have hx := hd (eq_of_beq h)
        conv => cbv
        subst hx
        exact ⟨⟨rfl, rfl⟩, ⟨rfl⟩⟩
      · conv => cbv
        simp [Hold.iff, chunk, big] at hb ⊢
        exact hb
    · conv => cbv
      refine .no ?_
      conv => cbv
      simp [Hold.iff, chunk, big] at hb ⊢
      exact hb
theorem bytes_eq {x : List (List D)} (h : WfR U8 x) {y : List (List D)} (hy : WfR U8 y) : ((x.map fun c => UInt8.ofNat (lk c 0).toInt.toNat) == (y.map fun c => UInt8.ofNat (lk c 0).toInt.toNat)) = (bn x == bn y) := by
  have key : ∀ {z : List (List D)}, WfR U8 z → (z.map fun c => UInt8.ofNat (lk c 0).toInt.toNat).map (·.toNat) = bn z := fun {z} hz => by
    have := bn_lt hz
    simp only [bn, List.map_map] at this ⊢
    refine List.map_congr_left fun c hc => ?_
    have := this _ (List.mem_map.2 ⟨c, hc, rfl⟩)
    simp only [Function.comp]
    rw [UInt8.toNat_ofNat']
    omega
  rw [Bool.eq_iff_iff]
  simp only [beq_iff_eq]
  constructor
  · intro e
    rw [← key h, ← key hy, e]
  · intro e
    rw [← key h, ← key hy] at e
    exact (List.map_inj_right fun a b h => UInt8.toNat_inj.1 h).1 e
theorem bequal_ok : CSound Try.prog 74 sameC := by
  refine fsound' (G := G0) (c := codeOf Try.f74) mixed tyT (gget_nil _) Try.func74 (by rfl) (by kernel_rfl) (by kernel_rfl) fun args M r hr hvc hw hm => ?_
  unfold sameC at hr
  simp only at hr
  split at hr <;> cases hr
  rename_i xs _ ys
  clear hvc hm
  have hx : xs = fun _ => xs () := rfl
  generalize xs () = x at hx
  subst hx
  have hy : ys = fun _ => ys () := rfl
  generalize ys () = y at hy
  subst hy
  simp only [WfVs, WfV, and_true] at hw
  have e := bytes_eq hw.1 hw.2
  conv => cbv
  exact ⟨e⟩
end Go.Am
/- varint.Writer keeps its contracts. -/
namespace Go.Am
set_option linter.all false
set_option linter.deprecated false
open Go.Proofs
set_option maxRecDepth 100000
set_option maxHeartbeats 4000000
def un (ls : List (List D)) : List Nat := ls.map fun c => (lk c 0).toInt.toNat
def puts (ns : List Nat) : List Nat := ns.flatMap putB
theorem puts_len (ns : List Nat) : (puts ns).length ≤ 10 * ns.length := by
  induction ns with
  | nil => simp [puts]
  | cons n ns ih =>
    have := (put1_len 9 n).2
    simp only [puts, List.flatMap_cons, List.length_append, List.length_cons] at ih ⊢
    rw [← putB] at this
    omega
@[simp] theorem un_len (ls : List (List D)) : (un ls).length = ls.length := by simp [un]
theorem puts_take {ls : List (List D)} {i : Nat} (h : i < ls.length) : puts ((un ls).take (i + 1)) = puts ((un ls).take i) ++ putB ((lk (lk ls i) 0).toInt.toNat) := by
  have h' : i < (un ls).length := by simpa using h
  rw [List.take_add_one, List.getElem?_eq_getElem h']
  simp [puts, un, lk, List.getD, h]
theorem puts_take_len {ls : List (List D)} {i : Nat} : (puts ((un ls).take i)).length ≤ 10 * ls.length := by
  refine Nat.le_trans (puts_len _) ?_
  simp only [List.length_take, un_len]; omega
def numberC : Contract := { modes := [.mut, .ro], fn := fun args M => match args, M with
  | [.nilp, _], [] => some ⟨[], .int .i64 fun _ => 1, []⟩
  | [.mp 0 0, .sl _ [.int .u64] ls], [(0, .obj [.nils])] => some ⟨[fun _ => 10 * (ls ()).length ≤ big], .int .i64 fun _ => 0,
      [(0, some (.obj [.ms 1 (fun _ => 0) (fun _ => (puts (un (ls ()))).length)])), (1, some (.row false U8 fun _ => rowB (puts (un (ls ())))))]⟩
  | [.mp 0 0, .sl _ [.int .u64] ls], [(0, .obj [.ms 1 lo len]), (1, .row false [.int .u8] xs)] => some ⟨[fun _ => lo () = 0 ∧ len () = (xs ()).length ∧ (xs ()).length + 10 * (ls ()).length ≤ big], .int .i64 fun _ => 0,
      [(0, some (.obj [.ms 2 (fun _ => 0) (fun _ => (xs ()).length + (puts (un (ls ()))).length)])), (1, none), (2, some (.row false U8 fun _ => xs () ++ rowB (puts (un (ls ())))))]⟩
  | _, _ => none }
def Lw1 : List (Nat × Contract) := [(19, putC)]
def Gw1 : Ctx := fun f => gget Lw1 f
theorem Gw1_ok : ∀ f C, Gw1 f = some C → CSound Try.prog f C := gget_cons put_ok (gget_nil _)
theorem number_ok : CSound Try.prog 35 numberC := by
  refine fsound' (G := Gw1) (c := codeOf Try.f35) mixed tyT Gw1_ok Try.func35 (by rfl) (by kernel_rfl) (by kernel_rfl) fun args M r hr hvc hw hm => ?_
  unfold numberC at hr
  simp only at hr
  split at hr <;> cases hr
  · conv => cbv
    refine .yes ?_
    conv => cbv
    exact ⟨rfl⟩
  · rename_i nn ls
    have hb : 10 * (ls ()).length ≤ big := hvc _ (List.mem_singleton.2 rfl)
    clear hvc hm
    have hx : ls = fun _ => ls () := rfl
    generalize ls () = l at hx hb
    subst hx
    simp only [WfVs, WfV, and_true, true_and] at hw
    have hx := hw.1
    have hb : 10 * l.length ≤ 1099511627776 := hb
    conv => cbv
    refine .no ?_
    conv => cbv
    refine LoopP.mk {i : Nat // i ≤ l.length} (fun i => ⟨ev 26 [(0, .mp 0 0), (9, .sl false [.int .u64] fun _ => l), (10, .int .i64 fun _ => (l.length : Int)), (11, .int .i64 fun _ => (i.1 : Int))],
      [(0, .obj [.ms 1 (fun _ => 0) (fun _ => (puts ((un l).take i.1)).length)]), (1, .row false U8 fun _ => rowB (puts ((un l).take i.1)))], 9⟩) (fun i => l.length - i.1) ⟨0, Nat.zero_le _⟩ ?_ ?_
    · conv => cbv
      exact ⟨⟨rfl⟩, ⟨rfl⟩, ⟨rfl⟩, ⟨rfl, rfl⟩, ⟨rfl⟩⟩
    · intro ⟨i, hi⟩
      conv => cbv
      refine Split.mk (fun h => ?_) (fun h => ?_)
      · have h : (i : Int) < (l.length : Int) := of_decide_eq_true h
        have h : i < l.length := by omega
        have v1 : 0 ≤ (i : Int) ∧ (i : Int) < (l.length : Int) := by omega
        have hw1 : IntKind.i64.wrap ((i : Int) + 1) = ((i + 1 : Nat) : Int) := by rw [wrap_i64 (by omega)]; omega
        have hlt : i + 1 ≤ l.length ∧ l.length - (i + 1) < l.length - i := by omega
        have hp := puts_take h
        have hpl := @puts_take_len l (i + 1)
        rw [hp, List.length_append] at hpl
        have hP : List.take (putB ((lk (lk l i) 0).toInt).toNat).length (List.drop 0 (rowB (putB ((lk (lk l i) 0).toInt).toNat))) = rowB (putB ((lk (lk l i) 0).toInt).toNat) := by simp
        have v2 : (puts ((un l).take i)).length + (List.take (putB ((lk (lk l ((i : Int)).toNat) 0).toInt).toNat).length (List.drop 0 (rowB (putB ((lk (lk l ((i : Int)).toNat) 0).toInt).toNat)))).length ≤ big := by
          rw [Int.toNat_natCast, hP, rowB_len]; simp only [big]; omega
        have g1 : (puts ((un l).take i)).length + (List.take (putB ((lk (lk l ((i : Int)).toNat) 0).toInt).toNat).length (List.drop 0 (rowB (putB ((lk (lk l ((i : Int)).toNat) 0).toInt).toNat)))).length = (puts ((un l).take (i + 1))).length := by
          rw [Int.toNat_natCast, hP, rowB_len, hp, List.length_append]
        have g2 : (rowB (puts ((un l).take i))).take (puts ((un l).take i)).length ++ List.take (putB ((lk (lk l ((i : Int)).toNat) 0).toInt).toNat).length (List.drop 0 (rowB (putB ((lk (lk l ((i : Int)).toNat) 0).toInt).toNat))) = rowB (puts ((un l).take (i + 1))) := by
          rw [Int.toNat_natCast, hP, take_rowB, hp, rowB_append]
        conv => cbv
        refine ⟨⟨v1⟩, ⟨rfl⟩, ⟨by simp⟩, ⟨v2⟩, ⟨by simp⟩, ⟨i + 1, hlt.1⟩, hlt.2, ?_⟩
        conv => cbv
        exact ⟨⟨rfl⟩, ⟨rfl⟩, ⟨hw1⟩, ⟨rfl, g1⟩, ⟨g2⟩⟩
      · have h : ¬ (i : Int) < (l.length : Int) := of_decide_eq_false h
        have hi2 : i = l.length := by omega
        have e : (un l).take i = un l := List.take_of_length_le (by simp; omega)
        conv => cbv
        simp [Hold.iff, e]
  · rename_i nn ls lo len xs
    have hb : lo () = 0 ∧ len () = (xs ()).length ∧ (xs ()).length + 10 * (ls ()).length ≤ big := hvc _ (List.mem_singleton.2 rfl)
    clear hvc hm
    have hx : ls = fun _ => ls () := rfl
    generalize ls () = l at hx hb
    subst hx
    have hx : lo = fun _ => lo () := rfl
    generalize lo () = lo0 at hx hb
    subst hx
    have hx : len = fun _ => len () := rfl
    generalize len () = len0 at hx hb
    subst hx
    have hx : xs = fun _ => xs () := rfl
    generalize xs () = x at hx hb
    subst hx
    obtain ⟨h1, h2, hb⟩ := hb
    subst h1 h2
    simp only [WfVs, WfV, and_true, true_and] at hw
    have hx := hw.1
    have hb : x.length + 10 * l.length ≤ 1099511627776 := hb
    conv => cbv
    refine .no ?_
    conv => cbv
    refine LoopP.mk {i : Nat // i ≤ l.length} (fun i => ⟨ev 26 [(0, .mp 0 0), (9, .sl false [.int .u64] fun _ => l), (10, .int .i64 fun _ => (l.length : Int)), (11, .int .i64 fun _ => (i.1 : Int))],
      [(0, .obj [.ms 2 (fun _ => 0) (fun _ => x.length + (puts ((un l).take i.1)).length)]), (2, .row false U8 fun _ => x ++ rowB (puts ((un l).take i.1)))], 10⟩) (fun i => l.length - i.1) ⟨0, Nat.zero_le _⟩ ?_ ?_
    · have e0 : x = x ++ rowB (puts ((un l).take 0)) := by simp [puts, rowB]
      conv => cbv
      exact ⟨⟨rfl⟩, ⟨rfl⟩, ⟨rfl⟩, ⟨rfl, rfl⟩, ⟨e0⟩⟩
    · intro ⟨i, hi⟩
      conv => cbv
      refine Split.mk (fun h => ?_) (fun h => ?_)
      · have h : (i : Int) < (l.length : Int) := of_decide_eq_true h
        have h : i < l.length := by omega
        have v1 : 0 ≤ (i : Int) ∧ (i : Int) < (l.length : Int) := by omega
        have hw1 : IntKind.i64.wrap ((i : Int) + 1) = ((i + 1 : Nat) : Int) := by rw [wrap_i64 (by omega)]; omega
        have hlt : i + 1 ≤ l.length ∧ l.length - (i + 1) < l.length - i := by omega
        have hp := puts_take h
        have hpl := @puts_take_len l (i + 1)
        rw [hp, List.length_append] at hpl
        have hP : List.take (putB ((lk (lk l i) 0).toInt).toNat).length (List.drop 0 (rowB (putB ((lk (lk l i) 0).toInt).toNat))) = rowB (putB ((lk (lk l i) 0).toInt).toNat) := by simp
        have v2 : x.length + (puts ((un l).take i)).length + (List.take (putB ((lk (lk l ((i : Int)).toNat) 0).toInt).toNat).length (List.drop 0 (rowB (putB ((lk (lk l ((i : Int)).toNat) 0).toInt).toNat)))).length ≤ big := by
          rw [Int.toNat_natCast, hP, rowB_len]; simp only [big]; omega
        have g1 : x.length + (puts ((un l).take i)).length + (List.take (putB ((lk (lk l ((i : Int)).toNat) 0).toInt).toNat).length (List.drop 0 (rowB (putB ((lk (lk l ((i : Int)).toNat) 0).toInt).toNat)))).length = x.length + (puts ((un l).take (i + 1))).length := by
          rw [Int.toNat_natCast, hP, rowB_len, hp, List.length_append]; omega
        have g2 : (x ++ rowB (puts ((un l).take i))).take (x.length + (puts ((un l).take i)).length) ++ List.take (putB ((lk (lk l ((i : Int)).toNat) 0).toInt).toNat).length (List.drop 0 (rowB (putB ((lk (lk l ((i : Int)).toNat) 0).toInt).toNat))) = x ++ rowB (puts ((un l).take (i + 1))) := by
          rw [Int.toNat_natCast, hP, List.take_of_length_le (by simp), hp, rowB_append, List.append_assoc]
        conv => cbv
        refine ⟨⟨v1⟩, ⟨rfl⟩, ⟨by simp⟩, ⟨v2⟩, ⟨by simp⟩, ⟨i + 1, hlt.1⟩, hlt.2, ?_⟩
        conv => cbv
        exact ⟨⟨rfl⟩, ⟨rfl⟩, ⟨hw1⟩, ⟨rfl, g1⟩, ⟨g2⟩⟩
      · have h : ¬ (i : Int) < (l.length : Int) := of_decide_eq_false h
        have hi2 : i = l.length := by omega
        have e : (un l).take i = un l := List.take_of_length_le (by simp; omega)
        conv => cbv
        simp [Hold.iff, e]
end Go.Am
/- varint.Writer: Raw, Text, Bytes, Len keep their contracts. -/
namespace Go.Am
set_option linter.all false
set_option linter.deprecated false
open Go.Proofs
set_option maxRecDepth 100000
set_option maxHeartbeats 4000000
def rawC : Contract := { modes := [.mut, .ro], fn := fun args M => match args, M with
  | [.nilp, _], [] => some ⟨[], .int .i64 fun _ => 1, []⟩
  | [.mp 0 0, .sl _ [.int .u8] ys], [(0, .obj [.nils])] => some ⟨[fun _ => (ys ()).length ≤ big], .int .i64 fun _ => 0,
      [(0, some (.obj [.ms 1 (fun _ => 0) (fun _ => (ys ()).length)])), (1, some (.row false U8 fun _ => ys ()))]⟩
  | [.mp 0 0, .sl _ [.int .u8] ys], [(0, .obj [.ms 1 lo len]), (1, .row false [.int .u8] xs)] => some ⟨[fun _ => lo () = 0 ∧ len () = (xs ()).length ∧ (xs ()).length + (ys ()).length ≤ big], .int .i64 fun _ => 0,
      [(0, some (.obj [.ms 2 (fun _ => 0) (fun _ => (xs ()).length + (ys ()).length)])), (1, none), (2, some (.row false U8 fun _ => xs () ++ ys ()))]⟩
  | _, _ => none }
theorem raw_ok : CSound Try.prog 36 rawC := by
  refine fsound' (G := G0) (c := codeOf Try.f36) mixed tyT (gget_nil _) Try.func36 (by rfl) (by kernel_rfl) (by kernel_rfl) fun args M r hr hvc hw hm => ?_
  unfold rawC at hr
  simp only at hr
  split at hr <;> cases hr
  · conv => cbv
    refine .yes ?_
    conv => cbv
    exact ⟨rfl⟩
  · rename_i nn ls
    have hb : (ls ()).length ≤ big := hvc _ (List.mem_singleton.2 rfl)
    clear hvc hm hw
    have hx : ls = fun _ => ls () := rfl
    generalize ls () = l at hx hb
    subst hx
    conv => cbv
    refine .no ?_
    conv => cbv
    exact ⟨⟨hb⟩, ⟨rfl⟩, ⟨rfl, rfl⟩, ⟨rfl⟩⟩
  · rename_i nn ls lo len xs
    have hb : lo () = 0 ∧ len () = (xs ()).length ∧ (xs ()).length + (ls ()).length ≤ big := hvc _ (List.mem_singleton.2 rfl)
    clear hvc hm hw
    have hx : ls = fun _ => ls () := rfl
    generalize ls () = l at hx hb
    subst hx
    have hx : lo = fun _ => lo () := rfl
    generalize lo () = lo0 at hx hb
    subst hx
    have hx : len = fun _ => len () := rfl
    generalize len () = len0 at hx hb
    subst hx
    have hx : xs = fun _ => xs () := rfl
    generalize xs () = x at hx hb
    subst hx
    obtain ⟨h1, h2, hb⟩ := hb
    subst h1 h2
    have g : x.take x.length ++ l = x ++ l := by rw [List.take_length]
    conv => cbv
    refine .no ?_
    conv => cbv
    exact ⟨⟨rfl⟩, ⟨Nat.le_refl _⟩, ⟨hb⟩, ⟨rfl⟩, ⟨rfl, rfl⟩, ⟨g⟩⟩
def textC : Contract := { modes := [.mut, .ro], fn := fun args M => match args, M with
  | [.nilp, .sl _ [.int .u8] _], [] => some ⟨[], .int .i64 fun _ => 1, []⟩
  | [.mp 0 0, .sl _ [.int .u8] ys], [(0, .obj [.nils])] => some ⟨[fun _ => 10 + (ys ()).length ≤ big], .int .i64 fun _ => 0,
      [(0, some (.obj [.ms 1 (fun _ => 0) (fun _ => (putB (ys ()).length).length + (ys ()).length)])), (1, some (.row false U8 fun _ => rowB (putB (ys ()).length) ++ ys ()))]⟩
  | [.mp 0 0, .sl _ [.int .u8] ys], [(0, .obj [.ms 1 lo len]), (1, .row false [.int .u8] xs)] => some ⟨[fun _ => lo () = 0 ∧ len () = (xs ()).length ∧ (xs ()).length + 10 + (ys ()).length ≤ big], .int .i64 fun _ => 0,
      [(0, some (.obj [.ms 2 (fun _ => 0) (fun _ => (xs ()).length + (putB (ys ()).length).length + (ys ()).length)])), (1, none), (2, some (.row false U8 fun _ => xs () ++ rowB (putB (ys ()).length) ++ ys ()))]⟩
  | _, _ => none }
def Lw2 : List (Nat × Contract) := [(35, numberC), (36, rawC)]
def Gw2 : Ctx := fun f => gget Lw2 f
theorem Gw2_ok : ∀ f C, Gw2 f = some C → CSound Try.prog f C := gget_cons number_ok (gget_cons raw_ok (gget_nil _))
@[simp] theorem chunk64 (f : Unit → D) : List.map dall (chunk 1 1 [f]) = [[f ()]] := rfl
theorem un_one (n : Int) : un [[D.int n]] = [n.toNat] := rfl
theorem puts_one (n : Nat) : puts [n] = putB n := by simp [puts]
theorem text_ok : CSound Try.prog 37 textC := by
  refine fsound' (G := Gw2) (c := codeOf Try.f37) mixed tyT Gw2_ok Try.func37 (by rfl) (by kernel_rfl) (by kernel_rfl) fun args M r hr hvc hw hm => ?_
  unfold textC at hr
  simp only at hr
  split at hr <;> cases hr
  · conv => cbv
    refine ⟨⟨by simp⟩, .ofT (by rfl) ?_⟩
    conv => cbv
    exact ⟨rfl⟩
  · rename_i nn ls
    have hb : 10 + (ls ()).length ≤ big := hvc _ (List.mem_singleton.2 rfl)
    clear hvc hm hw
    have hx : ls = fun _ => ls () := rfl
    generalize ls () = l at hx hb
    subst hx
    have hb : 10 + l.length ≤ 1099511627776 := hb
    have hl := put1_len 9 l.length
    rw [← putB] at hl
    have hu : IntKind.u64.wrap (l.length : Int) = (l.length : Int) := wrap_u64 (by omega)
    have hu2 : puts (un [[D.int (IntKind.u64.wrap (l.length : Int))]]) = putB l.length := by rw [hu, un_one, puts_one]; simp
    conv => cbv
    refine ⟨⟨by simp⟩, ⟨by simp [big]⟩, .no ?_⟩
    have hv : (rowB (putB l.length)).length + l.length ≤ big := by rw [rowB_len]; simp only [big]; omega
    conv => cbv
    refine ⟨⟨rfl, ?_, ?_⟩, ⟨rfl⟩, ⟨rfl, ?_⟩, ⟨?_⟩⟩
    · exact (rowB_len _).symm
    · simp only [chunk64, List.drop_zero, List.take_succ_cons, List.take_zero, hu2]
      exact hv
    · simp only [chunk64, List.drop_zero, List.take_succ_cons, List.take_zero, hu2, rowB_len]
    · simp only [chunk64, List.drop_zero, List.take_succ_cons, List.take_zero, hu2]
  · rename_i nn ls lo len xs
    have hb : lo () = 0 ∧ len () = (xs ()).length ∧ (xs ()).length + 10 + (ls ()).length ≤ big := hvc _ (List.mem_singleton.2 rfl)
    clear hvc hm hw
    have hx : ls = fun _ => ls () := rfl
    generalize ls () = l at hx hb
    subst hx
    have hx : lo = fun _ => lo () := rfl
    generalize lo () = lo0 at hx hb
    subst hx
    have hx : len = fun _ => len () := rfl
    generalize len () = len0 at hx hb
    subst hx
    have hx : xs = fun _ => xs () := rfl
    generalize xs () = x at hx hb
    subst hx
    have h1 := hb.1
    have h2 := hb.2.1
    have hb := hb.2.2
    have hb : x.length + 10 + l.length ≤ 1099511627776 := hb
    have hl := put1_len 9 l.length
    rw [← putB] at hl
    have hu : IntKind.u64.wrap (l.length : Int) = (l.length : Int) := wrap_u64 (by omega)
    have hu2 : puts (un [[D.int (IntKind.u64.wrap (l.length : Int))]]) = putB l.length := by rw [hu, un_one, puts_one]; simp
    have hv : (x ++ rowB (putB l.length)).length + l.length ≤ big := by rw [List.length_append, rowB_len]; simp only [big]; omega
    have hv0 : x.length + 10 * 1 ≤ big := by simp only [big]; omega
    conv => cbv
    refine ⟨⟨by simp⟩, ⟨h1, h2, by simpa using hv0⟩, .no ?_⟩
    conv => cbv
    refine ⟨⟨rfl, ?_, ?_⟩, ⟨rfl⟩, ⟨rfl, ?_⟩, ⟨?_⟩⟩
    · simp
    · simp only [chunk64, List.drop_zero, List.take_succ_cons, List.take_zero, hu2]
      exact hv
    · simp only [chunk64, List.drop_zero, List.take_succ_cons, List.take_zero, hu2, rowB_len, List.length_append]
    · simp only [chunk64, List.drop_zero, List.take_succ_cons, List.take_zero, hu2]
def bytesC : Contract := { modes := [.mut], fn := fun args M => match args, M with
  | [.nilp], [] => some ⟨[], .nils, []⟩
  | [.mp 0 0], [(0, .obj [.nils])] => some ⟨[], .nils, []⟩
  | [.mp 0 0], [(0, .obj [.ms 1 lo len]), (1, .row false [.int .u8] xs)] => some ⟨[fun _ => lo () = 0 ∧ len () = (xs ()).length ∧ (xs ()).length ≤ big], .ms 2 (fun _ => 0) (fun _ => (xs ()).length), [(2, some (.row false U8 xs))]⟩
  | _, _ => none }
def Lw3 : List (Nat × Contract) := [(80, cloneC)]
def Gw3 : Ctx := fun f => gget Lw3 f
theorem Gw3_ok : ∀ f C, Gw3 f = some C → CSound Try.prog f C := gget_cons sclone_ok (gget_nil _)
theorem bytes_ok : CSound Try.prog 38 bytesC := by
  refine fsound' (G := Gw3) (c := codeOf Try.f38) mixed tyT Gw3_ok Try.func38 (by rfl) (by kernel_rfl) (by kernel_rfl) fun args M r hr hvc hw hm => ?_
  unfold bytesC at hr
  simp only at hr
  split at hr <;> cases hr
  · conv => cbv
    refine .yes ?_
    conv => cbv
    trivial
  · conv => cbv
    refine .no ?_
    conv => cbv
    trivial
  · rename_i lo len xs
    have hb : lo () = 0 ∧ len () = (xs ()).length ∧ (xs ()).length ≤ big := hvc _ (List.mem_singleton.2 rfl)
    clear hvc hm hw
    have hx : lo = fun _ => lo () := rfl
    generalize lo () = lo0 at hx hb
    subst hx
    have hx : len = fun _ => len () := rfl
    generalize len () = len0 at hx hb
    subst hx
    have hx : xs = fun _ => xs () := rfl
    generalize xs () = x at hx hb
    subst hx
    obtain ⟨h1, h2, hb⟩ := hb
    subst h1 h2
    conv => cbv
    refine .no ?_
    conv => cbv
    simp [Hold.iff, hb]
def wlenC : Contract := { modes := [.mut], fn := fun args M => match args, M with
  | [.nilp], [] => some ⟨[], .int .i64 fun _ => 0, []⟩
  | [.mp 0 0], [(0, .obj [.nils])] => some ⟨[], .int .i64 fun _ => 0, []⟩
  | [.mp 0 0], [(0, .obj [.ms 1 lo len]), (1, .row false [.int .u8] xs)] => some ⟨[], .int .i64 fun _ => (len () : Int), []⟩
  | _, _ => none }
theorem wlen_ok : CSound Try.prog 39 wlenC := by
  refine fsound' (G := G0) (c := codeOf Try.f39) mixed tyT (gget_nil _) Try.func39 (by rfl) (by kernel_rfl) (by kernel_rfl) fun args M r hr hvc hw hm => ?_
  unfold wlenC at hr
  simp only at hr
  split at hr <;> cases hr
  · conv => cbv
    refine .yes ?_
    conv => cbv
    exact ⟨rfl⟩
  · conv => cbv
    refine .no ?_
    conv => cbv
    exact ⟨rfl⟩
  · conv => cbv
    refine .no ?_
    conv => cbv
    simp [Hold.iff]
end Go.Am
/- alibilaw01.few; the reader that is not there; alibilaw01.VarintNone. -/
namespace Go.Am
set_option linter.all false
set_option linter.deprecated false
open Go.Proofs
set_option maxRecDepth 100000
set_option maxHeartbeats 4000000
abbrev ActS : List Sh := [.int .i64, .int .u64, .int .i64, .slice [.int .u8], .slice [.int .u64]]
def fewOk (c : List D) : Bool := !(decide (60 < (lk c 3).toList.length) || decide (60 < (lk c 4).toList.length) || (decide (100 < (lk c 2).toInt) && decide ((lk c 2).toInt < 1000000000)))
def fewS (xs : List (List D)) : Bool := (xs.take 31).all fewOk && decide (xs.length ≤ 30)
def fewC : Contract := { modes := [.ro], fn := fun args M => match args, M with
  | [.sl _ [.int .i64, .int .u64, .int .i64, .slice [.int .u8], .slice [.int .u64]] xs], [] => some ⟨[], .bool fun _ => fewS (xs ()), []⟩
  | _, _ => none }
structure FwI (x : List (List D)) where
  i : Nat
  hi : i ≤ x.length
  hk : i ≤ 31
  h : (x.take i).all fewOk = true
theorem few_bad {x : List (List D)} {i : Nat} (h1 : i < x.length) (h2 : i < 31) (h : fewOk (lk x i) = false) : fewS x = false := by
  have : (x.take 31).all fewOk = false := by
    rw [List.all_eq_false]
    refine ⟨lk x i, ?_, by rw [h]; simp⟩
    have e : lk x i = (x.take 31)[i]'(by simp; omega) := by simp [lk, List.getD, h1]
    rw [e]
    exact List.getElem_mem _
  rw [fewS, this]; rfl
theorem few_ok : CSound Try.prog 34 fewC := by
  refine fsound' (G := G0) (c := codeOf Try.f34) mixed tyT (gget_nil _) Try.func34 (by rfl) (by kernel_rfl) (by kernel_rfl) fun args M r hr hvc hw hm => ?_
  unfold fewC at hr
  simp only at hr
  split at hr <;> cases hr
  rename_i nn xs
  clear hvc hm
  have hx : xs = fun _ => xs () := rfl
  generalize xs () = x at hx
  subst hx
  simp only [WfVs, WfV, and_true] at hw
  have hx := hw.1
  conv => cbv
  refine LoopP.mk (FwI x) (fun s => ⟨ev 49 [(0, .sl false ActS fun _ => x), (2, .bool fun _ => false), (3, .int .i64 fun _ => (s.i : Int))], [], 8⟩) (fun s => 31 - s.i) ⟨0, Nat.zero_le _, Nat.zero_le _, by simp⟩ ?_ ?_
  · conv => cbv
    exact ⟨⟨rfl⟩, ⟨rfl⟩, ⟨rfl⟩⟩
  · intro ⟨i, hi, hk, h⟩
    have fin : ¬ (i < x.length ∧ i < 31) → fewS x = decide (x.length ≤ 30) := fun hn => by
      have : x.take 31 = x.take i := by
        by_cases h1 : i < x.length
        · have : i = 31 := by omega
          rw [this]
        · rw [List.take_of_length_le (by omega), List.take_of_length_le (by omega)]
      rw [fewS, this, h]; rfl
    conv => cbv
    refine Split.mk (fun h1 => ?_) (fun h1 => ?_)
    · have h1 : (i : Int) < (x.length : Int) := of_decide_eq_true h1
      have h1 : i < x.length := by omega
      conv => cbv
      refine Split.mk (fun h2 => ?_) (fun h2 => ?_)
      · have h2 : (i : Int) < 31 := of_decide_eq_true h2
        have h2 : i < 31 := by omega
        have v1 : 0 ≤ (i : Int) ∧ (i : Int) < (x.length : Int) := by omega
        have hw1 : IntKind.i64.wrap ((i : Int) + 1) = ((i + 1 : Nat) : Int) := by rw [wrap_i64 (by omega)]; omega
        have hlt : 31 - (i + 1) < 31 - i := by omega
        have hi1 : i + 1 ≤ x.length := by omega
        have hbad := few_bad h1 h2
        have hnext : fewOk (lk x i) = true → (x.take (i + 1)).all fewOk = true := fun hh => by
          rw [List.take_add_one, List.getElem?_eq_getElem h1, List.all_append, h]
          have : lk x i = x[i] := by simp [lk, List.getD, h1]
          rw [this] at hh
          simp [hh]
        conv => cbv
        refine ⟨⟨v1⟩, Split.mk (fun hA => ?_) (fun hA => ?_)⟩
        · have hA : (60 : Int) < ((lk (lk x ((i : Int)).toNat) 3).toList.length : Int) := of_decide_eq_true hA
          rw [Int.toNat_natCast] at hA
          have hA : 60 < (lk (lk x i) 3).toList.length := by omega
          have hb := hbad (by simp [fewOk, hA])
          conv => cbv
          repeat (refine .yes ?_; conv => cbv)
          exact ⟨hb.symm⟩
        · have hA : ¬ (60 : Int) < ((lk (lk x ((i : Int)).toNat) 3).toList.length : Int) := of_decide_eq_false hA
          rw [Int.toNat_natCast] at hA
          have hA : ¬ 60 < (lk (lk x i) 3).toList.length := by omega
          conv => cbv
          refine ⟨⟨v1⟩, Split.mk (fun hB => ?_) (fun hB => ?_)⟩
          · have hB : (60 : Int) < ((lk (lk x ((i : Int)).toNat) 4).toList.length : Int) := of_decide_eq_true hB
            rw [Int.toNat_natCast] at hB
            have hB : 60 < (lk (lk x i) 4).toList.length := by omega
            have hb := hbad (by simp [fewOk, hB])
            conv => cbv
            repeat (refine .yes ?_; conv => cbv)
            exact ⟨hb.symm⟩
          · have hB : ¬ (60 : Int) < ((lk (lk x ((i : Int)).toNat) 4).toList.length : Int) := of_decide_eq_false hB
            rw [Int.toNat_natCast] at hB
            have hB : ¬ 60 < (lk (lk x i) 4).toList.length := by omega
            conv => cbv
            refine ⟨⟨v1⟩, Split.mk (fun hC => ?_) (fun hC => ?_)⟩
            · have hC : (100 : Int) < (lk (lk x ((i : Int)).toNat) 2).toInt := of_decide_eq_true hC
              rw [Int.toNat_natCast] at hC
              conv => cbv
              refine ⟨⟨v1⟩, Split.mk (fun hD => ?_) (fun hD => ?_)⟩
              · have hD : (lk (lk x ((i : Int)).toNat) 2).toInt < 1000000000 := of_decide_eq_true hD
                rw [Int.toNat_natCast] at hD
                have hb := hbad (by simp [fewOk, hA, hB, hC, hD])
                conv => cbv
                repeat (refine .yes ?_; conv => cbv)
                exact ⟨hb.symm⟩
              · have hD : ¬ (lk (lk x ((i : Int)).toNat) 2).toInt < 1000000000 := of_decide_eq_false hD
                rw [Int.toNat_natCast] at hD
                have hn := hnext (by simp [fewOk, hA, hB, hC, hD])
                conv => cbv
                repeat (refine .no ?_; conv => cbv)
                refine ⟨⟨i + 1, hi1, h2, hn⟩, hlt, ?_⟩
                conv => cbv
                exact ⟨⟨rfl⟩, ⟨rfl⟩, ⟨hw1⟩⟩
            · have hC : ¬ (100 : Int) < (lk (lk x ((i : Int)).toNat) 2).toInt := of_decide_eq_false hC
              rw [Int.toNat_natCast] at hC
              have hn := hnext (by simp [fewOk, hA, hB, hC])
              conv => cbv
              repeat (refine .no ?_; conv => cbv)
              refine ⟨⟨i + 1, hi1, h2, hn⟩, hlt, ?_⟩
              conv => cbv
              exact ⟨⟨rfl⟩, ⟨rfl⟩, ⟨hw1⟩⟩
      · have h2 : ¬ (i : Int) < 31 := of_decide_eq_false h2
        have e := fin (by omega)
        have e2 : decide ((x.length : Int) ≤ 30) = fewS x := by rw [e, decide_eq_decide]; omega
        conv => cbv
        exact ⟨e2⟩
    · have h1 : ¬ (i : Int) < (x.length : Int) := of_decide_eq_false h1
      have e := fin (by omega)
      have e2 : decide ((x.length : Int) ≤ 30) = fewS x := by rw [e, decide_eq_decide]; omega
      conv => cbv
      refine .no ?_
      conv => cbv
      exact ⟨e2⟩
end Go.Am
/- bytes.Join, crc.Put, crc.Open keep their contracts. -/
namespace Go.Am
set_option linter.all false
set_option linter.deprecated false
open Go.Proofs
set_option maxRecDepth 100000
set_option maxHeartbeats 4000000
theorem noz : CSound Try.prog 89 nozC := noz_ok Try.func89 (by rfl) (by rfl) (by kernel_rfl) (ps := #[3]) (t := 23) (e := 5) (by kernel_rfl) Try.underlying23
def joinC0 : Contract := { modes := [.ro, .ro], fn := fun args M => match args, M with
  | [.sl _ [.slice [.int .u8]] xs, .sl _ [.int .u8] ys], [] => some ⟨[fun _ => (fl (xs ())).length ≤ big, fun _ => ys () = []], .ms 0 (fun _ => 0) (fun _ => (fl (xs ())).length), [(0, some (.row false U8 fun _ => fl (xs ())))]⟩
  | _, _ => none }
def Lj : List (Nat × Contract) := [(89, nozC)]
def Gj : Ctx := fun f => gget Lj f
theorem Gj_ok : ∀ f C, Gj f = some C → CSound Try.prog f C := gget_cons noz (gget_nil _)
theorem copy0 {α : Type} (R : List α) (lo len : Nat) : R.take lo ++ ([] : List α).take len ++ R.drop (lo + min len 0) = R := by simp
theorem copyY {α : Type} (A T Y : List α) (len : Nat) (h : Y.length ≤ len) (hA : A.length + len = T.length) : (A ++ T.drop A.length).take A.length ++ Y.take len ++ (A ++ T.drop A.length).drop (A.length + min len Y.length) = (A ++ Y) ++ T.drop (A ++ Y).length := by
  rw [List.take_left, List.take_of_length_le h, Nat.min_eq_right h, ← List.drop_drop, List.drop_left, List.drop_drop, List.length_append]
theorem join_ok0 : CSound Try.prog 79 joinC0 := by
  refine fsound' (G := Gj) (c := codeOf Try.f79) mixed tyT Gj_ok Try.func79 (by rfl) (by kernel_rfl) (by kernel_rfl) fun args M r hr hvc hw hm => ?_
  unfold joinC0 at hr
  simp only at hr
  split at hr <;> cases hr
  rename_i nn xs mm ys
  have hb : (fl (xs ())).length ≤ big := hvc _ List.mem_cons_self
  have hy : ys () = [] := hvc (fun _ => ys () = []) (List.mem_cons_of_mem _ List.mem_cons_self)
  clear hvc hm
  obtain ⟨x, rfl⟩ : ∃ x, xs = fun _ => x := ⟨xs (), rfl⟩
  obtain ⟨y, rfl⟩ : ∃ x, ys = fun _ => x := ⟨ys (), rfl⟩
  have hb : (fl x).length ≤ 1099511627776 := hb
  have hy : y = [] := hy
  subst hy
  simp only [WfVs, WfV, and_true] at hw
  have hx := hw.1.1
  conv => cbv
  refine Split.mk (fun h => ?_) (fun h => ?_)
  · have h : (x.length : Int) = 0 := eq_t h
    have h : x = [] := List.eq_nil_of_length_eq_zero (by omega)
    conv => cbv
    subst h
    simp [Hold.iff, fl, chunk]
  · have h : (x.length : Int) ≠ 0 := eq_f h
    conv => cbv
    refine Split.mk (fun h1 => ?_) (fun h1 => ?_)
    · have h1 : (x.length : Int) = 1 := eq_t h1
      have h2 : fl x = (lk (lk x 0) 0).toList := by
        match x, h1 with
        | [a], _ => simp [fl, lk]
      have hB : (0 : Int) ≤ 0 ∧ (0 : Int) < (x.length : Int) := by omega
      conv => cbv
      refine ⟨⟨hB⟩, ⟨?_⟩, ⟨rfl, ?_⟩, ⟨?_⟩⟩
      · show ((lk (lk x 0) 0).toList).length ≤ 1099511627776
        rw [← h2]; exact hb
      · show ((lk (lk x 0) 0).toList).length = (fl x).length
        rw [h2]
      · exact h2.symm
    · have h1 : (x.length : Int) ≠ 1 := eq_f h1
      conv => cbv
      refine .ofF (by decide) ?_
      conv => cbv
      refine LoopP.mk {i : Nat // i ≤ x.length} (fun i => ⟨ev 92 [(0, .sl false [.slice U8] fun _ => x), (1, .sl false U8 fun _ => []), (4, .nils), (5, .int .i64 fun _ => ((fl (x.take i.1)).length : Int)), (42, .sl false [.slice U8] fun _ => x), (43, .int .i64 fun _ => x.length), (44, .int .i64 fun _ => (i.1 : Int))], [], 8⟩) (fun i => x.length - i.1) ⟨0, Nat.zero_le _⟩ ?_ ?_
      · conv => cbv
        exact ⟨⟨rfl⟩, ⟨rfl⟩, ⟨rfl⟩, ⟨rfl⟩, ⟨rfl⟩, ⟨rfl⟩⟩
      · intro ⟨i, hi⟩
        conv => cbv
        refine Split.mk (fun h3 => ?_) (fun h3 => ?_)
        · have h3 : (i : Int) < x.length := of_decide_eq_true h3
          have h3 : i < x.length := by omega
          have hB : 0 ≤ (i : Int) ∧ (i : Int) < (x.length : Int) := by omega
          have h4 := fl_len_take h3
          have h5 := fl_take h3
          have hw1 : IntKind.i64.wrap ((i : Int) + 1) = ((i + 1 : Nat) : Int) := by rw [wrap_i64 (by omega)]; omega
          have hw2 : ¬ (IntKind.i64.wrap (9223372036854775807 - ((fl (x.take i)).length : Int)) < (((lk (lk x ((i : Int)).toNat) 0).toList).length : Int)) := by
            rw [wrap_i64 (by omega), Int.toNat_natCast]; omega
          have hlt : i + 1 ≤ x.length ∧ x.length - (i + 1) < x.length - i := by omega
          have hs2 : IntKind.i64.wrap (((fl (x.take i)).length : Int) + (((lk (lk x ((i : Int)).toNat) 0).toList).length : Int)) = ((fl (x.take (i + 1))).length : Int) := by
            rw [h5, Int.toNat_natCast, wrap_i64 (by omega)]; simp
          conv => cbv
          refine ⟨⟨hB⟩, .ofF (decide_eq_false hw2) ?_⟩
          conv => cbv
          refine ⟨⟨i + 1, hlt.1⟩, hlt.2, ?_⟩
          conv => cbv
          exact ⟨⟨rfl⟩, ⟨rfl⟩, ⟨hs2⟩, ⟨rfl⟩, ⟨rfl⟩, ⟨hw1⟩⟩
        · have h3 : ¬ (i : Int) < x.length := of_decide_eq_false h3
          have hi2 : i = x.length := by omega
          have e : x.take i = x := List.take_of_length_le (by omega)
          have hbig : ((big : Nat) : Int) = 1099511627776 := rfl
          have hp : 0 ≤ ((fl (x.take i)).length : Int) ∧ ((fl (x.take i)).length : Int) ≤ (big : Int) := by rw [e, hbig]; omega
          conv => cbv
          refine ⟨⟨hp⟩, fun d hd => ?_⟩
          have hdl : d.toList.length = (((fl (x.take i)).length : Int)).toNat := hd.1
          clear hd
          have hdl : d.toList.length = (fl x).length := by rw [hdl, e]; simp
          have v1 : (0 : Int) ≤ 0 ∧ (0 : Int) ≤ ((fl (x.take i)).length : Int) ∧ ((fl (x.take i)).length : Int) ≤ ((fl (x.take i)).length : Int) ∧ ((fl (x.take i)).length : Int) ≤ (((((fl (x.take i)).length : Int)).toNat : Nat) : Int) := by omega
          have v2 : (0 : Int) ≤ 0 ∧ (0 : Int) < (x.length : Int) := by omega
          have v3 : 0 + (0 : Int).toNat + ((((fl (x.take i)).length : Int)).toNat - (0 : Int).toNat) ≤ d.toList.length := by rw [hdl, e]; simp
          have v4 : (0 : Int) ≤ 1 ∧ (1 : Int) ≤ (x.length : Int) ∧ (x.length : Int) ≤ (x.length : Int) ∧ (x.length : Int) ≤ (x.length : Int) := by omega
          have hx0 : 0 < x.length := by omega
          have f1 := fl_take hx0
          have f2 := fl_len_take hx0
          simp only [List.take_zero, fl, List.map_nil, List.flatten_nil, List.nil_append, List.length_nil, Nat.zero_add] at f1 f2
          rw [← fl] at f1 f2
          conv => cbv
          refine ⟨⟨v1⟩, ⟨v2⟩, ⟨v3⟩, ⟨v4⟩, LoopP.mk {j : Nat // j + 1 ≤ x.length} (fun j => ⟨ev 92 [(0, .sl false [.slice U8] fun _ => x), (1, .sl false U8 fun _ => []), (8, .ms 0 (fun _ => 0) (fun _ => (fl x).length)), (9, .int .i64 fun _ => ((fl (x.take (j.1 + 1))).length : Int)), (70, .sl false [.slice U8] fun _ => x.drop 1), (71, .int .i64 fun _ => (x.length : Int) - 1), (72, .int .i64 fun _ => (j.1 : Int))],
            [(0, .row true U8 fun _ => fl (x.take (j.1 + 1)) ++ d.toList.drop (fl (x.take (j.1 + 1))).length)], 8⟩) (fun j => x.length - j.1) ⟨0, hx0⟩ ?_ ?_⟩
          · have w0 : (((fl (x.take i)).length : Int)).toNat - (0 : Int).toNat = (fl x).length := by rw [e]; simp
            have w1 : ((min ((((fl (x.take i)).length : Int)).toNat - (0 : Int).toNat) ((lk (lk x 0) 0).toList).length : Nat) : Int) = ((fl (x.take (0 + 1))).length : Int) := by
              rw [w0, f1]; omega
            have w2 : List.take ((x.length : Int).toNat - (1 : Int).toNat) (List.drop (1 : Int).toNat x) = x.drop 1 := List.take_of_length_le (by simp)
            have w3 : ((List.take ((x.length : Int).toNat - (1 : Int).toNat) (List.drop (1 : Int).toNat x)).length : Int) = (x.length : Int) - 1 := by rw [w2]; simp; omega
            have w4 := copyY [] d.toList (lk (lk x 0) 0).toList (fl x).length f2 (by simp; exact hdl.symm)
            simp only [List.length_nil, List.drop_zero, List.nil_append, List.take_zero, Nat.zero_add] at w4
            conv => cbv
            refine ⟨⟨rfl⟩, ⟨rfl⟩, ⟨rfl, w0⟩, ⟨w1⟩, ⟨w2⟩, ⟨w3⟩, ⟨rfl⟩, ⟨?_⟩⟩
            show d.toList.take (0 + (0 : Int).toNat) ++ ((lk (lk x 0) 0).toList).take ((((fl (x.take i)).length : Int)).toNat - (0 : Int).toNat) ++ d.toList.drop (0 + (0 : Int).toNat + min ((((fl (x.take i)).length : Int)).toNat - (0 : Int).toNat) ((lk (lk x 0) 0).toList).length) = fl (x.take (0 + 1)) ++ d.toList.drop (fl (x.take (0 + 1))).length
            rw [w0, f1]
            simpa using w4
          · intro ⟨j, hj⟩
            conv => cbv
            refine Split.mk (fun h4 => ?_) (fun h4 => ?_)
            · have h4 : (j : Int) < (x.length : Int) - 1 := of_decide_eq_true h4
              have hj1 : j + 1 < x.length := by omega
              have g1 := fl_take hj1
              have g2 := fl_len_take hj1
              have gd : lk (x.drop 1) j = lk x (j + 1) := by simp [lk, List.getD, List.getElem?_drop, Nat.add_comm]
              have y1 : 0 ≤ (j : Int) ∧ (j : Int) < ((x.drop 1).length : Int) := by simp; omega
              have y2 : 0 ≤ ((fl (x.take (j + 1))).length : Int) ∧ ((fl (x.take (j + 1))).length : Int) ≤ ((fl x).length : Int) ∧ ((fl x).length : Int) ≤ ((fl x).length : Int) ∧ ((fl x).length : Int) ≤ ((fl x).length : Int) := by omega
              have yl : (fl (x.take (j + 1)) ++ d.toList.drop (fl (x.take (j + 1))).length).length = (fl x).length := by simp; omega
              have y3 : 0 + (((fl (x.take (j + 1))).length : Int)).toNat + ((((fl x).length : Int)).toNat - (((fl (x.take (j + 1))).length : Int)).toNat) ≤ (fl (x.take (j + 1)) ++ d.toList.drop (fl (x.take (j + 1))).length).length := by rw [yl]; omega
              have yw : IntKind.i64.wrap (((fl (x.take (j + 1))).length : Int) + ((0 : Nat) : Int)) = ((fl (x.take (j + 1))).length : Int) := by rw [wrap_i64] <;> omega
              conv => cbv
              refine ⟨⟨y1⟩, ⟨y2⟩, ⟨y3⟩, ⟨?_⟩, ⟨?_⟩, ⟨j + 1, hj1⟩, ?_, ?_⟩
              · simp only [Int.toNat_natCast, List.length_nil, Nat.min_zero, yw]
                exact y2
              · simp only [Int.toNat_natCast, List.length_nil, Nat.min_zero, yw, List.take_nil, List.append_nil, Nat.add_zero, List.take_append_drop, yl]
                omega
              · simp only; omega
              · have k1 : IntKind.i64.wrap ((j : Int) + 1) = ((j + 1 : Nat) : Int) := by rw [wrap_i64 (by omega)]; omega
                have k2 : min ((fl x).length - (fl (x.take (j + 1))).length) ((lk (lk x (j + 1)) 0).toList).length = ((lk (lk x (j + 1)) 0).toList).length := by omega
                have k3 : IntKind.i64.wrap (((fl (x.take (j + 1))).length : Int) + (((lk (lk x (j + 1)) 0).toList).length : Int)) = ((fl (x.take (j + 1 + 1))).length : Int) := by
                  rw [g1, wrap_i64 (by omega)]; simp
                have k4 := copyY (fl (x.take (j + 1))) d.toList (lk (lk x (j + 1)) 0).toList ((fl x).length - (fl (x.take (j + 1))).length) (by omega) (by omega)
                rw [k2, ← g1] at k4
                conv => cbv
                refine ⟨⟨rfl⟩, ⟨rfl⟩, ⟨rfl, rfl⟩, ⟨?_⟩, ⟨rfl⟩, ⟨rfl⟩, ⟨k1⟩, ⟨?_⟩⟩
                · simp only [Int.toNat_natCast, List.length_nil, Nat.min_zero, yw, gd, k2]
                  exact k3
                · simp only [Int.toNat_natCast, List.length_nil, Nat.min_zero, yw, gd, k2, List.take_nil, List.append_nil, Nat.add_zero, Nat.zero_add, List.take_append_drop]
                  exact k4
            · have h4 : ¬ (j : Int) < (x.length : Int) - 1 := of_decide_eq_false h4
              have hjx : j + 1 = x.length := by omega
              have e2 : x.take (j + 1) = x := List.take_of_length_le (by omega)
              conv => cbv
              refine ⟨⟨rfl, rfl⟩, ⟨?_⟩⟩
              show fl (x.take (j + 1)) ++ d.toList.drop (fl (x.take (j + 1))).length = fl x
              rw [e2]
              simp [List.drop_of_length_le, hdl]
def joinC : Contract := { modes := [.ro, .ro], fn := fun args M => match args, M with
  | [.sl _ [.slice [.int .u8]] xs, .nils], [] => some ⟨[fun _ => (fl (xs ())).length ≤ big], .ms 0 (fun _ => 0) (fun _ => (fl (xs ())).length), [(0, some (.row false U8 fun _ => fl (xs ())))]⟩
  | _, _ => none }
theorem join_ok : CSound Try.prog 79 joinC := csound_weak join_ok0 fun args M r hr hvc hw => by
  unfold joinC at hr
  simp only at hr
  split at hr <;> cases hr
  rename_i nn xs
  have hb : (fl (xs ())).length ≤ big := hvc _ (List.mem_singleton.2 rfl)
  refine ⟨[.sl nn [.slice U8] xs, .sl false U8 fun _ => []], _, rfl, fun p hp => ?_, rfl, rfl, fun w I σ vs h => ?_⟩
  · rcases List.mem_cons.1 hp with rfl | hp
    · exact hb
    · rw [List.mem_singleton.1 hp]
  · simp only [VRs] at h ⊢
    obtain ⟨u, us, rfl, h1, u2, us2, rfl, h2, rfl⟩ := h
    exact ⟨u, [u2], rfl, h1, u2, [], rfl, nils_sl (by decide) h2, rfl⟩
end Go.Am
