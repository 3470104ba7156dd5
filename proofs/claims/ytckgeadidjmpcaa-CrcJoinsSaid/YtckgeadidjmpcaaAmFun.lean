/- A function by its body: its contract is kept. -/
import Derived.Test.YtckgeadidjmpcaaAmCode
namespace Go.Am
set_option linter.all false
set_option linter.deprecated false
section
variable {P : Program} {a : Act} {w w' w0 : World} {I I' I0 : Nat → Prop} {σ σ' σ0 : Sig} {M M' M0 : MS} {T : TT} {G : Ctx} {env : List AV}

def uns : Nat → List AV
  | 0 => []
  | n + 1 => .un :: uns n
def resV (T : TT) (M : MS) (env : List AV) : ResultVar → Option AV
  | .tmp t => some (lget env t)
  | .cell a t => match tget T t, lget env a with
    | some ti, .mp n off => match load1 M ti (.mp n off) with
      | some ⟨[], v, _, _⟩ => some v
      | _ => none
    | _, _ => none
def resVs (T : TT) (M : MS) (env : List AV) : List ResultVar → Option (List AV)
  | [] => some []
  | r :: rs => match resV T M env r, resVs T M env rs with
    | some v, some vs => some (v :: vs)
    | _, _ => none
def oneOr : List AV → AV
  | [v] => v
  | vs => .tup vs
def fend (T : TT) (m : Nat) (rs : List ResultVar) (val : AV) (M' : MS) : AExit → AState → Prop
  | .exit _, _ => False
  | _, s => match resVs T s.M s.env rs with
    | none => False
    | some vs => fit m ⟨[oneOr vs], s.M, s.nx⟩ ⟨[val], M', m + 8⟩
def finit (n : Nat) (args : List AV) : List AV := lapp args (uns (n - llen args))

theorem resVs_ok (hT : ∀ t i, T t = some i → TIok P t i) (hok : Ok w I σ M) (henv : EnvR w I σ env a.tmps) : ∀ (rs : List ResultVar) (vs : List AV), resVs T M env rs = some vs →
    ∃ us, VRs w I σ vs us ∧ ∀ g : ResultVar → Sem Value, (∀ t, g (.tmp t) = pure (a.tmps.getD t undef)) → (∀ b t, g (.cell b t) = do loadVar t (← asAddr (a.tmps.getD b undef))) → (rs.mapM g).run P w = .ok us w
  | [], vs, h => by
    simp only [resVs, Option.some.injEq] at h
    subst h
    exact ⟨[], by simp only [VRs], fun _ _ _ => rfl⟩
  | r :: rs, vs, h => by
    unfold resVs at h
    split at h <;> (try (cases h; done))
    rename_i v vs' h1 h2
    cases h
    obtain ⟨us, e2, e1⟩ := resVs_ok hT hok henv rs vs' h2
    have one : ∃ u, VR w I σ v u ∧ ∀ g : ResultVar → Sem Value, (∀ t, g (.tmp t) = pure (a.tmps.getD t undef)) → (∀ b t, g (.cell b t) = do loadVar t (← asAddr (a.tmps.getD b undef))) → (g r).run P w = .ok u w := by
      unfold resV at h1
      split at h1
      · rename_i t
        cases h1
        exact ⟨_, henv t, fun g q _ => by rw [q]; rfl⟩
      · rename_i b t
        split at h1 <;> (try (cases h1; done))
        rename_i ti n off ht hb
        split at h1 <;> (try (cases h1; done))
        rename_i v' _ _ hl
        cases h1
        have hv := henv b
        rw [hb] at hv
        obtain ⟨u, g1, g2, _⟩ := load1_ok (P := P) hok (hT _ _ ht) _ _ _ hl (by simp) hv
        refine ⟨u, g2, fun g _ q => ?_⟩
        simp only [VR] at hv
        rw [q]
        cases hs : σ n with
        | none => rw [hs] at hv; exact hv.elim
        | some q =>
          cases q with
          | none => rw [hs] at hv; exact hv.elim
          | some q =>
            rw [hs] at hv
            simp only [PtR] at hv
            rw [hv] at g1 ⊢
            simpa [Instr.loadAt, Instr.sureAddr, asAddr] using g1
    obtain ⟨u, g2, g1⟩ := one
    refine ⟨u :: us, ?_, fun g q1 q2 => ?_⟩
    · simp only [VRs]
      exact ⟨u, us, rfl, g2, e2⟩
    · simp only [List.mapM_cons, Sem.run_bind, g1 g q1 q2, Result.andThen_ok, e1 g q1 q2, Sem.run_pure]
theorem VRs.get : ∀ {vs : List AV} {us : List Value}, VRs w I σ vs us → ∀ (t : Nat), t < vs.length → VR w I σ (lget vs t) (us.getD t undef)
  | [], us, _, t, h => by simp at h
  | v :: vs, us, h, t, ht => by
    simp only [VRs] at h
    obtain ⟨u, us', rfl, h1, h⟩ := h
    cases t with
    | zero => exact h1
    | succ t => 
      have := VRs.get h t (by simpa using ht)
      simpa [lget] using this
theorem uns_get : ∀ (n t : Nat), lget (uns n) t = .un
  | 0, _ => rfl
  | n + 1, 0 => rfl
  | n + 1, t + 1 => uns_get n t
theorem uns_len : ∀ (n : Nat), (uns n).length = n
  | 0 => rfl
  | n + 1 => by simp [uns, uns_len n]
theorem lapp_get : ∀ (xs ys : List AV) (t : Nat), lget (lapp xs ys) t = if t < xs.length then lget xs t else lget ys (t - xs.length)
  | [], ys, t => by simp [lapp]
  | x :: xs, ys, 0 => by simp [lapp, lget]
  | x :: xs, ys, t + 1 => by
    simp only [lapp, lget, lapp_get xs ys t, List.length_cons, Nat.add_lt_add_iff_right, Nat.add_sub_add_right]
theorem fsound {f : FuncId} {fn : Func} {c : Code} {C : Contract} (hp : P.follows .mixedOrders = true) (hT : ∀ t i, T t = some i → TIok P t i) (hG : ∀ f C, G f = some C → CSound P f C)
    (hf : P.funcs[f]? = some fn) (hb : fn.body = some c) (hc : codeOk c = true) (hn : (fn.name == "runtime.NumGoroutine") = false)
    (h : ∀ args M r, C.fn args M = some r → (∀ p ∈ r.vc, p ()) → awp T G M.length c (fun e s => fend T M.length fn.results.toList r.val (mapply M r.objs) e s) ⟨finit fn.ntmps args, M, M.length⟩) (hn0 : ∀ args M, C.nfn args M = none := by intros; rfl) : CSound P f C := by
  refine ⟨fun args M r hr hvc => ?_, fun args M r hr => by rw [hn0] at hr; cases hr⟩
  intro w I σ vs hok hfree hargs o a K Q hK
  have hlen := hargs.length
  have hrun : (callFunc f vs.toArray).run P w = .ok (.enter f vs.toArray) w := by
    simp only [callFunc, Sem.run_bind, run_program, Result.andThen_ok, hf, hn, hb, Option.isNone_some, Bool.false_eq_true, if_false, Sem.run_pure]
  rw [hrun]
  refine calls_of_wp hf hb ?_
  have hst : St w I σ M (finit fn.ntmps args) M M.length { tmps := vs.toArray ++ Array.replicate (fn.ntmps - vs.toArray.size) undef, defers := [] } w I σ := by
    refine ⟨fun t => ?_, ?_, hok, hfree, Ext.refl hok, rfl⟩
    · simp only [finit, lapp_get]
      by_cases ht : t < args.length
      · rw [if_pos ht]
        have := hargs.get t ht
        simp only [Array.getD_eq_getD_getElem?, List.getD] at this ⊢
        rw [Array.getElem?_append_left (by simp; omega)]
        simpa using this
      · rw [if_neg ht, uns_get]
        simp only [VR]
    · have e1 : (lapp args (uns (fn.ntmps - llen args))).length = args.length + (fn.ntmps - llen args) := by
        have : ∀ (xs ys : List AV), (lapp xs ys).length = xs.length + ys.length := by
          intro xs
          induction xs with
          | nil => simp [lapp]
          | cons x xs ih => intro ys; simp [lapp, ih]; omega
        rw [this, uns_len]
      have e2 := llen_eq args
      rw [finit, e1, Array.size_append, Array.size_replicate, List.size_toArray]
      omega
  refine awp_ok hfree hp hT hG c hc _ _ _ _ _ I σ (h args M r hr hvc) hst fun e s' a' w' I' σ' hq hst' => ?_
  have done : (match resVs T s'.M s'.env fn.results.toList with
    | none => False
    | some vs => fit M.length ⟨[oneOr vs], s'.M, s'.nx⟩ ⟨[r.val], mapply M r.objs, M.length + 8⟩) → a'.defers = [] ∧ ∃ v, (results fn a'.tmps).run P w' = .ok v w' ∧ K (a.put o.dst v) w' := by
    intro hq
    refine ⟨hst'.def0, ?_⟩
    split at hq
    · exact hq.elim
    · rename_i vs' hvs
      obtain ⟨us, g2, g1⟩ := resVs_ok (P := P) (a := a') hT hst'.ok hst'.envr _ _ hvs
      have hus := g2.length
      obtain ⟨v, g3, g4⟩ : ∃ v, (results fn a'.tmps).run P w' = .ok v w' ∧ VR w' I' σ' (oneOr vs') v := by
        refine ⟨if h : us.toArray.size = 1 then us.toArray[0] else .tuple us.toArray, ?_, ?_⟩
        · simp only [results, Sem.run_bind, Array.mapM_eq_mapM_toList, Sem.run_map]
          rw [g1 _ (fun _ => rfl) (fun _ _ => rfl)]
          rfl
        · cases vs' with
          | nil =>
            cases us with
            | nil => simp only [oneOr, VR]; exact ⟨#[], by simp, by simp only [VRs]⟩
            | cons u us => simp at hus
          | cons v vs' =>
            cases vs' with
            | nil =>
              simp only [VRs] at g2
              obtain ⟨u, us', rfl, h1, rfl⟩ := g2
              simpa [oneOr] using h1
            | cons v2 vs' =>
              have hne : ¬ us.toArray.size = 1 := by simp; simp at hus; omega
              rw [dif_neg hne]
              simp only [oneOr, VR]
              exact ⟨us.toArray, rfl, g2⟩
      refine ⟨v, g3, ?_⟩
      have hst2 : St w I σ M [oneOr vs'] s'.M s'.nx { tmps := #[v], defers := [] } w' I' σ' := by
        refine ⟨fun t => ?_, by simp, hst'.ok, hst'.free, hst'.ext, rfl⟩
        cases t with
        | zero => exact g4
        | succ t => simp only [lget, VR]
      obtain ⟨J, τ, hf3⟩ := fit_ok (s := ⟨[oneOr vs'], s'.M, s'.nx⟩) hfree hst2 hq
      exact hK v w' ⟨J, τ, hf3.envr 0, hf3.ok, hf3.ext⟩
  cases e with
  | normal => exact done hq
  | ret => exact done hq
  | exit id => exact hq.elim
end
end Go.Am
