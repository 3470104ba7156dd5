/- One operation: the scalar ones, joined. -/
import Derived.Test.YtckgeadidjmpcaaAmOps2
namespace Go.Am
set_option linter.all false
set_option linter.deprecated false
section
variable {P : Program} {o : Oper} {a : Act} {w : World} {I : Nat → Prop} {σ : Sig} {M : MS} {key : Nat} {env : List AV} {T : TT}

theorem size_of_data (s : ByteArray) : s.size = s.data.toList.length := by show s.data.size = _; rw [Array.length_toList]
/-- neither a number nor a text -/
def notNum : Value → Bool
  | .int .. | .float .. | .complex .. | .string _ => false
  | _ => true
theorem binOp_eql_run (t : TypeId) {u v : Value} (h : notNum u = true) : binOp .eql t u v = (do pure (.bool (← Op.equal t u v)) : Sem Value) := by
  cases u <;> first | (simp [notNum] at h; done) | (cases v <;> rfl)
theorem binOp_neq_run (t : TypeId) {u v : Value} (h : notNum u = true) : binOp .neq t u v = (do pure (.bool (!(← Op.equal t u v))) : Sem Value) := by
  cases u <;> first | (simp [notNum] at h; done) | (cases v <;> rfl)
/-- what '==' may be asked of, and its guard does nothing there -/
theorem eqAv_shape (hT : ∀ t i, T t = some i → TIok P t i) {d t : Nat} {p q : AV} {u v : Value} {b : Unit → Bool} (h : eqAv T d t p q = some b) (hp : VR w I σ p u) (hq : VR w I σ q v)
    (hn : ∀ k a k' b, p = .int k a → q = .int k' b → False) (hs : ∀ a b, p = .str a → q = .str b → False) (op : BinOp) (x y : Operand) :
    notNum u = true ∧ (eqGuard op t x y u v).run P w = .ok () w := by
  cases d with
  | zero => simp [eqAv] at h
  | succ d =>
    unfold eqAv at h
    split at h
    · cases h
    · rename_i ti ht
      split at h
      · simp only [VR] at hp; subst hp; rw [eqGuard_at_bool]; exact ⟨rfl, rfl⟩
      · exact (hn _ _ _ _ rfl rfl).elim
      · exact (hs _ _ rfl rfl).elim
      · rename_i htd
        simp only [VR] at hp hq
        obtain ⟨us, rfl, _⟩ := hp
        obtain ⟨vs, rfl, _⟩ := hq
        have hst := (hT t ti ht).stood
        rw [htd] at hst
        have hg := (hst rfl).2
        refine ⟨rfl, ?_⟩
        unfold eqGuard
        split <;> simp [hg]
      · split at h
        · rename_i bb hb
          unfold nilCmp at hb
          split at hb <;> (try (cases hb; done)) <;> simp only [VR] at hp
          · subst hp; rw [eqGuard_at_slice]; exact ⟨rfl, rfl⟩
          · obtain ⟨a, len, cap, rfl⟩ := hp.2 trivial
            rw [eqGuard_at_slice]; exact ⟨rfl, rfl⟩
          · subst hp; rw [eqGuard_at_pointer]; exact ⟨rfl, rfl⟩
          · obtain ⟨b, off, rfl, _⟩ := hp
            rw [eqGuard_at_pointer]; exact ⟨rfl, rfl⟩
          · unfold PtR at hp
            split at hp
            · subst hp; rw [eqGuard_at_pointer]; exact ⟨rfl, rfl⟩
            · exact hp.elim
          · subst hp; rw [eqGuard_at_nilFunc]; exact ⟨rfl, rfl⟩
          · obtain ⟨us, rfl, _⟩ := hp
            rw [eqGuard_at_func]; exact ⟨rfl, rfl⟩
        · cases h
theorem binAv_ok (hT : ∀ t i, T t = some i → TIok P t i) (op : BinOp) (t : TypeId) (x y : Operand) (p q : AV) (u v : Value) (e : Eff)
    (h : binAv T t op p q = some e) (hvc : ∀ p ∈ e.vc, p ()) (hp : VR w I σ p u) (hq : VR w I σ q v) :
    ∃ r, (do eqGuard op t x y u v; binOp op t u v : Sem Value).run P w = .ok r w ∧ VR w I σ e.val r ∧ e.upd = [] := by
  unfold binAv at h
  split at h
  · simp only [VR] at hp hq
    obtain ⟨rfl, hf⟩ := hp
    obtain ⟨rfl, _⟩ := hq
    exact ⟨_, binInt_ok op t _ _ x y _ _ hf e h hvc⟩
  · simp only [VR] at hp hq
    obtain ⟨s, rfl, hs, hs'⟩ := hp
    obtain ⟨s2, rfl, hs2, hs2'⟩ := hq
    rw [eqGuard_at_string, pure_bind]
    split at h <;> (try (cases h; done)) <;> simp only [Eff.pure, Eff.chk, Option.some.injEq] at h <;> subst h
    case h_3 =>
      rename_i f g _
      have hv : (f ()).length + (g ()).length ≤ 1099511627776 := hvc (fun _ => (f ()).length + (g ()).length ≤ 1099511627776) (List.mem_singleton.2 rfl)
      rw [← hs, ← hs2, ← size_of_data, ← size_of_data] at hv
      refine ⟨.string (s ++ s2), ?_, ?_, rfl⟩
      · simp only [binOp]
        exact run_string_add_sum _ s s2 (by omega)
      · simp only [VR]
        refine ⟨_, rfl, ?_, ?_⟩
        · simp [hs, hs2]
        · simp only [ByteArray.size_append]; unfold maxLen; omega
    all_goals
      refine ⟨_, rfl, ?_, rfl⟩
      simp only [VR, ByteArray.toList_eq, hs, hs2]
    · rfl
  · rename_i h1 h2
    split at h <;> (try (cases h; done)) <;> rename_i b hb <;> simp only [Eff.pure, Option.some.injEq] at h <;> subst h
    · have he := eqAv_ok (w := w) (I := I) (σ := σ) hT 40 Op.maxDepth t p q u v b (by decide) hb hp hq
      obtain ⟨h3, h4⟩ := eqAv_shape (w := w) (I := I) (σ := σ) hT hb hp hq (fun k a k' b e1 e2 => h1 k a k' b e1 e2) (fun a b e1 e2 => h2 a b e1 e2) .eql x y
      refine ⟨.bool (b ()), ?_, by simp only [VR], rfl⟩
      rw [Sem.run_bind, h4, Result.andThen_ok, binOp_eql_run t h3]
      simp only [Sem.run_bind, Op.equal, he, Result.andThen_ok, Sem.run_pure]
    · have he := eqAv_ok (w := w) (I := I) (σ := σ) hT 40 Op.maxDepth t p q u v b (by decide) hb hp hq
      obtain ⟨h3, h4⟩ := eqAv_shape (w := w) (I := I) (σ := σ) hT hb hp hq (fun k a k' b e1 e2 => h1 k a k' b e1 e2) (fun a b e1 e2 => h2 a b e1 e2) .neq x y
      refine ⟨.bool (!b ()), ?_, by simp only [VR], rfl⟩
      rw [Sem.run_bind, h4, Result.andThen_ok, binOp_neq_run t h3]
      simp only [Sem.run_bind, Op.equal, he, Result.andThen_ok, Sem.run_pure]
theorem unAv_ok (op : UnOp) (p : AV) (u : Value) (e : Eff) (h : unAv op p = some e) (hp : VR w I σ p u) :
    ∃ r, (Op.unary op u).run P w = .ok r w ∧ VR w I σ e.val r ∧ e.upd = [] := by
  unfold unAv at h
  split at h <;> (try (cases h; done)) <;> simp only [Eff.pure, Option.some.injEq] at h <;> subst h <;> simp only [VR] at hp
  · subst hp; exact ⟨_, rfl, by simp only [VR], rfl⟩
  · obtain ⟨rfl, _⟩ := hp
    exact ⟨_, rfl, by simp only [VR, true_and]; exact wrap_wf _ _, rfl⟩
  · obtain ⟨rfl, _⟩ := hp
    exact ⟨_, rfl, by simp only [VR]; exact ⟨rfl, (ibits_run (P := P) .xor _ _ _ (by simp) w).2⟩, rfl⟩
theorem len_wf {n : Nat} (h : n ≤ maxLen) : wfB .i64 (n : Int) = true := by
  rw [wf_iff]
  unfold maxLen at h
  simp [IntKind.min, IntKind.max, IntKind.signed, IntKind.bits]
  omega
theorem lenAv_ok (hT : ∀ t i, T t = some i → TIok P t i) {t : Nat} {ti : TI} (ht : tget T t = some ti) (ty : TypeId) (p : AV) (u : Value) (e : Eff) (h : lenAv ti.td p = some e) (hp : VR w I σ p u) :
    ∃ r, (Builtin.len_ #[t] ty #[u]).run P w = .ok r w ∧ VR w I σ e.val r ∧ e.upd = [] := by
  obtain ⟨d, hu, htd, _⟩ := under_of hT ht
  unfold lenAv at h
  split at h <;> (try (cases h; done)) <;> simp only [Eff.pure, Option.some.injEq] at h <;> subst h <;> simp only [VR] at hp <;> rw [‹ti.td = _›] at htd <;> simp only [TDok] at htd
  · obtain ⟨rfl, _⟩ := htd
    have h1 := hp.1
    simp only [Dat] at h1
    obtain ⟨a, len, cap, rfl, h2, h3, h4, _⟩ := h1
    refine ⟨.int .i64 len, ?_, ?_, rfl⟩
    · simp [Builtin.len_, run_under hu, goInt]
    · simp only [VR, D.toList] at h2 ⊢
      rw [← h2]
      exact ⟨rfl, len_wf (by omega)⟩
  · obtain ⟨rfl, _⟩ := htd
    unfold MsR at hp
    split at hp
    · exact hp.elim
    · obtain ⟨rfl, _, h0⟩ := hp
      refine ⟨.int .i64 0, ?_, ?_, rfl⟩
      · simp [Builtin.len_, run_under hu, goInt]
      · simp only [VR, h0]; exact ⟨rfl, by decide⟩
    · obtain ⟨off, cap, rfl, h1, h2, h3, h4⟩ := hp
      refine ⟨_, by simp [Builtin.len_, run_under hu, goInt]; rfl, ?_, rfl⟩
      simp only [VR, true_and]
      exact len_wf (by omega)
  · subst htd
    obtain ⟨s, rfl, h1, h2⟩ := hp
    refine ⟨.int .i64 (s.size : Nat), ?_, ?_, rfl⟩
    · simp [Builtin.len_, run_under hu, goInt]
    · simp only [VR, ← h1, ← size_of_data, true_and]
      exact len_wf h2
  · obtain ⟨rfl, _⟩ := htd
    subst hp
    refine ⟨.int .i64 0, ?_, ?_, rfl⟩
    · simp [Builtin.len_, run_under hu, goInt]
    · simp only [VR]; decide
theorem minInts_ok (k : IntKind) : ∀ (vs : List AV) (us : List Value) (a n : Unit → Int), minInts k a vs = some n → wfB k (a ()) = true → VRs w I σ vs us →
    (us.foldlM Builtin.min2 (Value.int k (a ()))).run P w = .ok (.int k (n ())) w ∧ wfB k (n ()) = true
  | [], us, a, n, h, ha, hr => by
    simp only [minInts, Option.some.injEq] at h
    simp only [VRs] at hr
    subst h hr
    exact ⟨rfl, ha⟩
  | v :: vs, us, a, n, h, ha, hr => by
    cases v with
    | int k' b =>
      simp only [minInts] at h
      split at h
      · rename_i hk
        simp only [decide_eq_true_eq] at hk
        subst hk
        simp only [VRs] at hr
        obtain ⟨u, us', rfl, hu, hr⟩ := hr
        simp only [VR] at hu
        obtain ⟨rfl, hb⟩ := hu
        have hm : (if b () < a () then b () else a ()) = min (a ()) (b ()) := by omega
        have ih := minInts_ok k vs us' (fun _ => min (a ()) (b ())) n h (by show wfB k (min (a ()) (b ())) = true; rw [← hm]; split <;> assumption) hr
        simp only [List.foldlM_cons, Builtin.min2, Sem.run_bind, Sem.run_pure, Result.andThen_ok, hm]
        exact ih
      · cases h
    | _ => simp [minInts] at h
end
end Go.Am
