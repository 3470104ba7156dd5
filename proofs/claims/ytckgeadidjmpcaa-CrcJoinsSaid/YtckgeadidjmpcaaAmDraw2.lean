/- The plan of a region: what each operation does, in the text's order. -/
import Derived.Test.YtckgeadidjmpcaaAmDraw
namespace Go.Am
set_option linter.all false
set_option linter.deprecated false
section
variable {P : Program} {w w' w0 : World} {I I' I0 : Nat → Prop} {σ σ' σ0 : Sig} {M M' M0 : MS} {T : TT} {G : Ctx}

def RF (res : List (Nat × Bool)) (env : List AV) : Prop := ∀ s b, rget res s = some b → ∃ f, lget env s = .bool f ∧ f () = b
def GYes (all : List Oper) (o : Oper) (env : List AV) : Prop := ∀ j want, o.guard = some (j, want) → ∃ d f, gslot all j = some d ∧ lget env d = .bool f ∧ f () = want
def GNo (all : List Oper) (o : Oper) (env : List AV) : Prop := ∃ j want d, o.guard = some (j, want) ∧ gslot all j = some d ∧ (lget env d = .udf ∨ ∃ f, lget env d = .bool f ∧ f () ≠ want)
def Step (T : TT) (G : Ctx) (all : List Oper) (key : Nat) (o : Oper) (x : Ent) (s : PS) : Prop :=
  x.dst = o.dst ∧
    ((∃ res e, RF res s.1 ∧ GYes all o s.1 ∧ aop T G s.1 res s.2 key o.op = some e ∧ (∀ p ∈ e.vc, p ()) ∧ x.val = e.val ∧ x.rd = e.rd ∧ x.upd = e.upd) ∨
     (GNo all o s.1 ∧ x.val = .udf ∧ x.rd = [] ∧ x.upd = []))
theorem RF.put {res : List (Nat × Bool)} {env : List AV} (h : RF res env) (d : Option Nat) (v : AV) : RF (rdel res d) (lset? env d v) := by
  intro s b hb
  rw [rget_rdel] at hb
  split at hb
  · cases hb
  · rename_i hd
    obtain ⟨f, h1, h2⟩ := h s b hb
    exact ⟨f, by rw [lset?_get, if_neg (fun q => hd q.1)]; exact h1, h2⟩
theorem RF.cons {res : List (Nat × Bool)} {env : List AV} (h : RF res env) {d : Nat} {f : Unit → Bool} {b : Bool} (h1 : lget env d = .bool f) (h2 : f () = b) : RF ((d, b) :: res) env := by
  intro s b' hb
  simp only [rget] at hb
  split at hb
  · rename_i hd
    have hd := Nat.eq_of_beq_eq_true hd
    subst hd
    cases hb
    exact ⟨f, h1, h2⟩
  · exact h s b' hb
def logX : List Ent → Nat → List (Nat × List Nat × List Nat) → List (Nat × List Nat × List Nat)
  | [], _, l => l
  | x :: xs, i, l => logX xs (i + 1) (logOf i ⟨[], .un, x.rd, x.upd⟩ l)
theorem wops_plan {all : List Oper} {base : Nat} {K : RS → Prop} : ∀ (os : List Oper) (i : Nat) (r : RS), wops T G all base os i r K → RF r.res r.env →
    ∃ xs r', K r' ∧ xs.length = os.length ∧ (r'.env, r'.M) = runS (fun _ => true) xs i (r.env, r.M) ∧ r'.log = logX xs i r.log ∧
      ∀ j o x, os[j]? = some o → xs[j]? = some x → Step T G all (base + 8 * (i + j)) o x (runS (fun _ => true) (xs.take j) i (r.env, r.M))
  | [], i, r, h, _ => ⟨[], r, h, rfl, rfl, rfl, fun j o x h => by simp at h⟩
  | o :: os, i, r, h, hr => by
    have mk : ∀ (x : Ent) (r1 : RS), Step T G all (base + 8 * i) o x (r.env, r.M) → (r1.env, r1.M) = x.app (r.env, r.M) → r1.log = logOf i ⟨[], .un, x.rd, x.upd⟩ r.log → RF r1.res r1.env → wops T G all base os (i + 1) r1 K →
        ∃ xs r', K r' ∧ xs.length = (o :: os).length ∧ (r'.env, r'.M) = runS (fun _ => true) xs i (r.env, r.M) ∧ r'.log = logX xs i r.log ∧
      ∀ j o' x, (o :: os)[j]? = some o' → xs[j]? = some x → Step T G all (base + 8 * (i + j)) o' x (runS (fun _ => true) (xs.take j) i (r.env, r.M)) := by
      intro x r1 hst h1 h2 h3 h4
      obtain ⟨xs, r', g1, g2, g3, g4, g5⟩ := wops_plan os (i + 1) r1 h4 h3
      refine ⟨x :: xs, r', g1, by simp [g2], ?_, ?_, fun j o' x' hj hx => ?_⟩
      · rw [g3, h1]; rfl
      · rw [g4, h2]; rfl
      · cases j with
        | zero =>
          simp only [List.getElem?_cons_zero, Option.some.injEq] at hj hx
          subst hj hx
          exact hst
        | succ j =>
          simp only [List.getElem?_cons_succ] at hj hx
          have := g5 j o' x' hj hx
          rw [h1] at this
          rw [show i + (j + 1) = i + 1 + j by omega]
          exact this
    have run : ∀ (r0 : RS), r0.env = r.env → r0.M = r.M → r0.log = r.log → RF r0.res r.env → GYes all o r.env → wop T G i base o r0 (fun r => wops T G all base os (i + 1) r K) → 
        ∃ xs r', K r' ∧ xs.length = (o :: os).length ∧ (r'.env, r'.M) = runS (fun _ => true) xs i (r.env, r.M) ∧ r'.log = logX xs i r.log ∧
      ∀ j o' x, (o :: os)[j]? = some o' → xs[j]? = some x → Step T G all (base + 8 * (i + j)) o' x (runS (fun _ => true) (xs.take j) i (r.env, r.M)) := by
      intro r0 e1 e2 e3 hr0 hg hw
      unfold wop at hw
      split at hw
      · exact hw.elim
      · rename_i e he
        obtain ⟨hvc, hw⟩ := vcs_iff _ _ hw
        rw [e1, e2] at he
        refine mk ⟨o.dst, e.val, e.rd, e.upd⟩ _ ⟨rfl, .inl ⟨r0.res, e, hr0, hg, he, hvc, rfl, rfl, rfl⟩⟩ ?_ ?_ ?_ hw
        · simp only [Ent.app, e1, e2]
        · simp only [e3]; rfl
        · simp only [e1]; exact hr0.put _ _
    have skip : ∀ (r0 : RS), r0.env = r.env → r0.M = r.M → r0.log = r.log → RF r0.res r.env → GNo all o r.env → wops T G all base os (i + 1) (skipR o r0) K → 
        ∃ xs r', K r' ∧ xs.length = (o :: os).length ∧ (r'.env, r'.M) = runS (fun _ => true) xs i (r.env, r.M) ∧ r'.log = logX xs i r.log ∧
      ∀ j o' x, (o :: os)[j]? = some o' → xs[j]? = some x → Step T G all (base + 8 * (i + j)) o' x (runS (fun _ => true) (xs.take j) i (r.env, r.M)) := by
      intro r0 e1 e2 e3 hr0 hg hw
      refine mk ⟨o.dst, .udf, [], []⟩ _ ⟨rfl, .inr ⟨hg, rfl, rfl, rfl⟩⟩ ?_ ?_ ?_ hw
      · simp only [skipR, Ent.app, e1, e2, mapply]
      · simp only [skipR, e3]; rfl
      · simp only [skipR, e1]; exact hr0.put _ _
    unfold wops at h
    split at h
    · rename_i hg
      exact run r rfl rfl rfl hr (fun j want q => by rw [hg] at q; cases q) h
    · rename_i j want hg
      split at h
      · exact h.elim
      · rename_i d hd
        have yes : ∀ f, lget r.env d = .bool f → f () = want → GYes all o r.env := fun f h1 h2 j' want' q => by
          rw [hg] at q
          cases q
          exact ⟨d, f, hd, h1, h2⟩
        split at h
        · rename_i b hb
          obtain ⟨f, h1, h2⟩ := hr d b hb
          split at h
          · rename_i hbb
            rw [beqB_iff, beq_iff_eq] at hbb
            exact run r rfl rfl rfl hr (yes f h1 (by rw [h2, hbb])) h
          · rename_i hbb
            rw [beqB_iff] at hbb
            exact skip r rfl rfl rfl hr ⟨j, want, d, hg, hd, .inr ⟨f, h1, by rw [h2]; simpa using hbb⟩⟩ h
        · split at h
          · rename_i f hf
            split at h
            · cases hfv : f () with
              | true => exact run ⟨r.env, r.M, (d, true) :: r.res, r.log⟩ rfl rfl rfl (hr.cons hf hfv) (yes f hf hfv) (h.t hfv)
              | false => exact skip ⟨r.env, r.M, (d, false) :: r.res, r.log⟩ rfl rfl rfl (hr.cons hf hfv) ⟨j, true, d, hg, hd, .inr ⟨f, hf, by simp [hfv]⟩⟩ (h.f hfv)
            · cases hfv : f () with
              | true => exact skip ⟨r.env, r.M, (d, true) :: r.res, r.log⟩ rfl rfl rfl (hr.cons hf hfv) ⟨j, false, d, hg, hd, .inr ⟨f, hf, by simp [hfv]⟩⟩ (h.t hfv)
              | false => exact run ⟨r.env, r.M, (d, false) :: r.res, r.log⟩ rfl rfl rfl (hr.cons hf hfv) (yes f hf hfv) (h.f hfv)
          · rename_i hf
            exact skip r rfl rfl rfl hr ⟨j, want, d, hg, hd, .inl hf⟩ h
          · exact h.elim

/-! the slots that an operation looks at -/
def tslot : Operand → Option Nat
  | .tmp t => some t
  | _ => none
def rslots (all : List Oper) (o : Oper) : List Nat := (opnds o.op).filterMap tslot ++ (match o.guard with | some (j, _) => (gslot all j).toList | none => [])
theorem rget_filter (l : List Nat) (t : Nat) : ∀ (res : List (Nat × Bool)), rget (res.filter fun p => nmem l p.1) t = if nmem l t = true then rget res t else none
  | [] => by simp [rget]
  | (k, b) :: res => by
    simp only [List.filter]
    cases hk : nmem l k with
    | true =>
      simp only [rget]
      split
      · rename_i he
        have he := Nat.eq_of_beq_eq_true he
        subst he
        rw [if_pos hk]
      · rw [rget_filter l t res]
    | false =>
      simp only
      rw [rget_filter l t res]
      split
      · rename_i ht
        simp only [rget]
        split
        · rename_i he
          have he := Nat.eq_of_beq_eq_true he
          subst he
          rw [hk] at ht
          cases ht
        · rfl
      · rfl
theorem Step.move {all : List Oper} {key : Nat} {o : Oper} {x : Ent} {s s' : PS} (h : Step T G all key o x s) (h1 : ∀ t ∈ rslots all o, lget s'.1 t = lget s.1 t) (h2 : ∀ k ∈ x.rd, mget s'.2 k = mget s.2 k) :
    Step T G all key o x s' := by
  have hg : ∀ j want d, o.guard = some (j, want) → gslot all j = some d → lget s'.1 d = lget s.1 d := fun j want d q1 q2 => h1 d (by
    simp only [rslots, List.mem_append]
    exact .inr (by simp [q1, q2]))
  have hop : ∀ x ∈ opnds o.op, opv s'.1 x = opv s.1 x := fun y hy => by
    cases y with
    | tmp t =>
      simp only [opv]
      exact h1 t (by simp only [rslots, List.mem_append, List.mem_filterMap]; exact .inl ⟨.tmp t, hy, rfl⟩)
    | const v => rfl
    | func f => rfl
    | global g => rfl
  obtain ⟨hd, h⟩ := h
  refine ⟨hd, ?_⟩
  rcases h with ⟨res, e, hr, hy, ha, hvc, e1, e2, e3⟩ | ⟨⟨j, want, d, q1, q2, q3⟩, r⟩
  · refine .inl ⟨res.filter (fun p => nmem (rslots all o) p.1), e, ?_, ?_, ?_, hvc, e1, e2, e3⟩
    · intro t b hb
      rw [rget_filter] at hb
      split at hb
      · rename_i ht
        rw [h1 t ((nmem_iff _ _).1 ht)]
        exact hr t b hb
      · cases hb
    · intro j want q
      obtain ⟨d, f, q1, q2, q3⟩ := hy j want q
      exact ⟨d, f, q1, by rw [hg j want d q q1]; exact q2, q3⟩
    · rw [aop_env (env := s.1) (res := res) hop fun y hy => ?_]
      · exact aop_loc ha (by rw [e2] at h2; exact h2)
      · cases y with
        | tmp t =>
          simp only [resOf]
          rw [rget_filter, if_pos]
          rw [nmem_iff]
          simp only [rslots, List.mem_append, List.mem_filterMap]
          exact .inl ⟨.tmp t, hy, rfl⟩
        | const v => cases v <;> rfl
        | func f => rfl
        | global g => rfl
  · exact .inr ⟨⟨j, want, d, q1, q2, by rw [hg j want d q1 q2]; exact q3⟩, r⟩
/-! the orders -/
def edges (o : Oper) : List Nat := (o.after.toList.filter (fun e => Region.binds .any e)).map (·.on)
def Closed (ops : List Oper) (S : Nat → Bool) : Prop := ∀ i o, ops[i]? = some o → S i = true → ∀ e ∈ edges o, S e = true
theorem ancGo_closed {ops : List Oper} {S : Nat → Bool} {j : Nat} (hc : Closed ops S) (hj : ∀ o, ops[j]? = some o → ∀ e ∈ edges o, S e = true) : ∀ (i : Nat) (acc : List Nat), (∀ k ∈ acc, k = j ∨ S k = true) → ∀ k ∈ ancGo ops i acc, k = j ∨ S k = true
  | 0, _, h, k, hk => h k hk
  | i + 1, acc, h, k, hk => by
    unfold ancGo at hk
    split at hk
    · exact ancGo_closed hc hj i acc h k hk
    · rename_i hm
      refine ancGo_closed hc hj i _ (fun k hk => ?_) k hk
      rcases List.mem_append.1 hk with hk | hk
      · exact h k hk
      · split at hk
        · rename_i o ho
          rcases h i ((nmem_iff _ _).1 hm) with rfl | hS
          · exact .inr (hj o ho k hk)
          · exact .inr (hc i o ho hS k hk)
        · cases hk
theorem anc_closed {ops : List Oper} {S : Nat → Bool} {j : Nat} (hc : Closed ops S) (hj : ∀ o, ops[j]? = some o → ∀ e ∈ edges o, S e = true) {k : Nat} (hk : nmem (anc ops j) k = true) : k = j ∨ S k = true :=
  ancGo_closed hc hj (j + 1) [j] (fun k hk => .inl (List.mem_singleton.1 hk)) k ((nmem_iff _ _).1 hk)
def edgesOk (ops : List Oper) : Bool := (List.range ops.length).all fun i => match ops[i]? with | some o => (edges o).all fun e => Nat.blt e i | none => true
theorem edgesOk_iff {ops : List Oper} (h : edgesOk ops = true) {i : Nat} {o : Oper} (ho : ops[i]? = some o) : ∀ e ∈ edges o, e < i := by
  intro e he
  have hi : i < ops.length := (List.getElem?_eq_some_iff.1 ho).1
  have := List.all_eq_true.1 h i (List.mem_range.2 hi)
  rw [ho] at this
  have := List.all_eq_true.1 this e he
  rw [Nat.blt] at this
  exact Nat.le_of_ble_eq_true this
def clash (all : List Oper) (x y : Oper) : Bool :=
  (match x.dst with | some d => nmem (rslots all y) d || (match y.dst with | some d' => Nat.beq d d' | none => false) | none => false) ||
  (match y.dst with | some d => nmem (rslots all x) d | none => false)
def slotsOk (ops : List Oper) : Bool := (List.range ops.length).all fun k => match ops[k]? with
  | some y => (List.range k).all fun j => match ops[j]? with | some x => !clash ops x y || nmem (anc ops k) j | none => true
  | none => true
theorem slotsOk_iff {ops : List Oper} (h : slotsOk ops = true) {j k : Nat} {x y : Oper} (hx : ops[j]? = some x) (hy : ops[k]? = some y) (hjk : j < k) (hc : clash ops x y = true) : nmem (anc ops k) j = true := by
  have hk : k < ops.length := (List.getElem?_eq_some_iff.1 hy).1
  have := List.all_eq_true.1 h k (List.mem_range.2 hk)
  rw [hy] at this
  have := List.all_eq_true.1 this j (List.mem_range.2 hjk)
  rw [hx] at this
  simpa [hc] using this
def apartL (x y : Nat × List Nat × List Nat) : Prop := (∀ k ∈ x.2.2, k ∉ y.2.1 ∧ k ∉ y.2.2) ∧ ∀ k ∈ y.2.2, k ∉ x.2.1
theorem okPair_iff {ops : List Oper} {x y : Nat × List Nat × List Nat} (h : okPair ops x y = true) : apartL x y ∨ nmem (anc ops y.1) x.1 = true ∨ nmem (anc ops x.1) y.1 = true := by
  simp only [okPair, Bool.or_eq_true, Bool.and_eq_true] at h
  rcases h with (⟨⟨h1, h2⟩, h3⟩ | h) | h
  · exact .inl ⟨fun k hk => ⟨disj_iff h1 k hk, disj_iff h2 k hk⟩, fun k hk => disj_iff h3 k hk⟩
  · exact .inr (.inl h)
  · exact .inr (.inr h)
theorem logX_suffix {ops : List Oper} : ∀ (xs : List Ent) (i : Nat) (l : List (Nat × List Nat × List Nat)), okLog ops (logX xs i l) = true → okLog ops l = true ∧
    ∀ j x, xs[j]? = some x → ∀ p ∈ l, apartL (i + j, x.rd, ukeys x.upd) p ∨ nmem (anc ops p.1) (i + j) = true ∨ nmem (anc ops (i + j)) p.1 = true
  | [], _, l, h => ⟨h, fun j x h => by simp at h⟩
  | x :: xs, i, l, h => by
    obtain ⟨h1, h2⟩ := logX_suffix xs (i + 1) _ h
    have hl : ∀ p ∈ l, p ∈ logOf i ⟨[], .un, x.rd, x.upd⟩ l := fun p hp => by
      unfold logOf
      split
      · exact hp
      · exact List.mem_cons_of_mem _ hp
    have h3 : okLog ops l = true ∧ ∀ p ∈ l, apartL (i, x.rd, ukeys x.upd) p ∨ nmem (anc ops p.1) i = true ∨ nmem (anc ops i) p.1 = true := by
      unfold logOf at h1
      split at h1
      · rename_i e1 e2
        simp only at e1 e2
        exact ⟨h1, fun p _ => .inl ⟨by simp [e2, ukeys], by simp [e1]⟩⟩
      · simp only [okLog, Bool.and_eq_true] at h1
        exact ⟨h1.2, fun p hp => okPair_iff (List.all_eq_true.1 h1.1 p hp)⟩
    refine ⟨h3.1, fun j y hj p hp => ?_⟩
    cases j with
    | zero =>
      simp only [List.getElem?_cons_zero, Option.some.injEq] at hj
      subst hj
      exact h3.2 p hp
    | succ j =>
      have := h2 j y (by simpa using hj) p (hl p hp)
      rwa [show i + 1 + j = i + (j + 1) by omega] at this
theorem logX_pair {ops : List Oper} : ∀ (xs : List Ent) (i : Nat) (l : List (Nat × List Nat × List Nat)), okLog ops (logX xs i l) = true → ∀ j k x y, xs[j]? = some x → xs[k]? = some y → j < k →
    apartL (i + k, y.rd, ukeys y.upd) (i + j, x.rd, ukeys x.upd) ∨ nmem (anc ops (i + j)) (i + k) = true ∨ nmem (anc ops (i + k)) (i + j) = true
  | [], _, _, _, j, _, _, _, hj, _, _ => by simp at hj
  | x0 :: xs, i, l, h, j, k, x, y, hj, hk, hjk => by
    cases k with
    | zero => omega
    | succ k =>
      simp only [List.getElem?_cons_succ] at hk
      cases j with
      | succ j =>
        simp only [List.getElem?_cons_succ] at hj
        have := logX_pair xs (i + 1) _ h j k x y hj hk (by omega)
        rwa [show i + 1 + j = i + (j + 1) by omega, show i + 1 + k = i + (k + 1) by omega] at this
      | zero =>
        simp only [List.getElem?_cons_zero, Option.some.injEq] at hj
        subst hj
        obtain ⟨_, h2⟩ := logX_suffix xs (i + 1) _ h
        by_cases he : x0.rd = [] ∧ x0.upd = []
        · exact .inl ⟨by simp [he.1, he.2, ukeys], by simp [he.2, ukeys]⟩
        · have hm : (i, x0.rd, ukeys x0.upd) ∈ logOf i ⟨[], .un, x0.rd, x0.upd⟩ l := by
            unfold logOf
            split
            · rename_i e1 e2
              exact (he ⟨e1, e2⟩).elim
            · exact List.mem_cons_self
          have := h2 k y hk _ hm
          rwa [show i + 1 + k = i + (k + 1) by omega] at this
end
end Go.Am
