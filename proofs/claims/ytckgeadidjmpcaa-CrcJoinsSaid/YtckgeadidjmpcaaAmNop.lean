/- One operation that does one of several things. -/
import Derived.Test.YtckgeadidjmpcaaAmAop
namespace Go.Am
set_option linter.all false
set_option linter.deprecated false
section
variable {P : Program} {o : Oper} {a : Act} {w w' : World} {I I' : Nat → Prop} {σ σ' τ : Sig} {M : MS} {key : Nat} {env : List AV} {T : TT} {G : Ctx} {res : List (Nat × Bool)}
theorem run_nil_eql {t e : TypeId} (hu : P.underlying t = some (.slice e)) (ad : Option Addr) (l c : Nat) (x y : Operand) :
    (do eqGuard .eql t x y (.slice ad l c) (.slice none 0 0); binOp .eql t (.slice ad l c) (.slice none 0 0) : Sem Value).run P w = .ok (.bool (ad.isNone == true)) w := by
  rw [eqGuard_at_slice, pure_bind, binOp_eql_run t rfl]
  have e : Op.maxDepth = Op.maxDepth - 1 + 1 := by decide
  rw [Op.equal, e]
  simp only [Op.equalIn, Sem.run_bind, run_under hu, Result.andThen_ok]
  cases ad <;> rfl
theorem run_nil_neq {t e : TypeId} (hu : P.underlying t = some (.slice e)) (ad : Option Addr) (l c : Nat) (x y : Operand) :
    (do eqGuard .neq t x y (.slice ad l c) (.slice none 0 0); binOp .neq t (.slice ad l c) (.slice none 0 0) : Sem Value).run P w = .ok (.bool (ad.isNone == false)) w := by
  rw [eqGuard_at_slice, pure_bind, binOp_neq_run t rfl]
  have e : Op.maxDepth = Op.maxDepth - 1 + 1 := by decide
  rw [Op.equal, e]
  simp only [Op.equalIn, Sem.run_bind, run_under hu, Result.andThen_ok]
  cases ad <;> rfl
theorem nilN_ok (hT : ∀ t i, T t = some i → TIok P t i) (hok : Ok w I σ M) {t : Nat} {ti : TI} (ht : tget T t = some ti) {b : Bool} {p q : AV} {n : NEff} (h : nilN M b ti.td p q = some n) {u v : Value} (hp : VR w I σ p u) (hq : VR w I σ q v)
    (run : ∀ {e} (_ : P.underlying t = some (.slice e)) (ad : Option Addr) (l c : Nat), ∃ s : Sem Value, (execOp a.eval o).run P w = ((s >>= fun v => Pure.pure (Next.value v)) : Sem Next).run P w ∧ (u = .slice ad l c → v = .slice none 0 0 → s.run P w = .ok (.bool (ad.isNone == b)) w)) :
    Does P o a w fun v w' => ∃ d, n.ok d ∧ ∀ e, n.eff d = some e → Post w I σ M key e.val (mapply M e.upd) v w' := by
  obtain ⟨ds, hu, htd, _⟩ := under_of hT ht
  have sl : ∀ {el sz eb : Nat} {esh : List Sh}, ti.td = .slice el sz eb esh → P.underlying t = some (.slice el) := fun h => by
    rw [h] at htd
    obtain ⟨rfl, _⟩ := sz_of_slice htd
    exact hu
  have fin : ∀ (ad : Option Addr) (l c : Nat) {el sz eb : Nat} {esh : List Sh}, ti.td = .slice el sz eb esh → u = .slice ad l c → v = .slice none 0 0 → (∃ d, n.ok d ∧ ∀ e, n.eff d = some e → e.upd = [] ∧ VR w I σ e.val (.bool (ad.isNone == b))) →
      Does P o a w fun v w' => ∃ d, n.ok d ∧ ∀ e, n.eff d = some e → Post w I σ M key e.val (mapply M e.upd) v w' := by
    intro ad l c el sz eb esh htd' e1 e2 ⟨d, hd, hd2⟩
    obtain ⟨s, h1, h2⟩ := run (sl htd') ad l c
    refine Does.made (e := ⟨[], .un, [], []⟩) h1 (h2 e1 e2) ⟨d, hd, fun e he => ?_⟩
    obtain ⟨g1, g2⟩ := hd2 e he
    rw [g1]
    exact .same hok g2
  unfold nilN at h
  split at h <;> (try (cases h; done))
  · rename_i e xs htd'
    simp only [Option.some.injEq] at h
    subst h
    simp only [VR] at hp hq
    have h1 := hp.1
    simp only [Dat, D.toList] at h1
    obtain ⟨ad, l, c, rfl, h2, h3, h4, h5, _⟩ := h1
    refine fin ad l c htd' rfl hq ⟨.bool ad.isNone, fun hn => ?_, fun e he => ?_⟩
    · have hn : ad.isNone = true := hn
      have : ad = none := by simpa using hn
      have := h5 this
      exact List.eq_nil_of_length_eq_zero (by omega)
    · simp only [Option.some.injEq] at he
      subst he
      exact ⟨rfl, by simp only [VR, D.toBool]⟩
  · rename_i k lo len htd'
    simp only [VR] at hp hq
    have key2 : ∀ nn e xs, (mget M k = some (.row nn e xs) ∨ mget M k = some (.imm nn e xs)) → ∃ ad l c, u = .slice ad l c ∧ (ad.isNone = true → len () = 0) ∧ (nn = true → ad.isNone = false) := by
      intro nn e xs hm
      unfold MsR at hp
      split at hp
      · exact hp.elim
      · rename_i hs
        obtain ⟨rfl, _, h2⟩ := hp
        refine ⟨none, 0, 0, rfl, fun _ => h2, fun hn => ?_⟩
        exfalso
        subst hn
        rcases hm with hm | hm
        · obtain ⟨p, hp, ho⟩ := hok.obj k _ hm
          rw [hs] at hp; cases hp
          exact Bool.noConfusion ho.1
        · obtain ⟨p, hp, ho⟩ := hok.obj k _ hm
          rw [hs] at hp; cases hp
          exact Bool.noConfusion ho.1
      · obtain ⟨off, cap, rfl, _⟩ := hp
        exact ⟨_, _, _, rfl, by simp, by simp⟩
    split at h <;> (try (cases h; done)) <;> rename_i hm <;> simp only [Option.some.injEq] at h <;> subst h
    · obtain ⟨ad, l, c, hu', g1, g2⟩ := key2 _ _ _ (.inl hm)
      exact fin ad l c htd' hu' hq ⟨.bool ad.isNone, g2 rfl, fun e he => by simp only [Option.some.injEq] at he; subst he; exact ⟨rfl, by simp only [VR, D.toBool]⟩⟩
    · obtain ⟨ad, l, c, hu', g1, g2⟩ := key2 _ _ _ (.inr hm)
      exact fin ad l c htd' hu' hq ⟨.bool ad.isNone, g2 rfl, fun e he => by simp only [Option.some.injEq] at he; subst he; exact ⟨rfl, by simp only [VR, D.toBool]⟩⟩
    · obtain ⟨ad, l, c, hu', g1, g2⟩ := key2 _ _ _ (.inl hm)
      exact fin ad l c htd' hu' hq ⟨.bool ad.isNone, g1, fun e he => by simp only [Option.some.injEq] at he; subst he; exact ⟨rfl, by simp only [VR, D.toBool]⟩⟩
    · obtain ⟨ad, l, c, hu', g1, g2⟩ := key2 _ _ _ (.inr hm)
      exact fin ad l c htd' hu' hq ⟨.bool ad.isNone, g1, fun e he => by simp only [Option.some.injEq] at he; subst he; exact ⟨rfl, by simp only [VR, D.toBool]⟩⟩
theorem nop_ok (hT : ∀ t i, T t = some i → TIok P t i) (hG : ∀ f C, G f = some C → CSound P f C) (hok : Ok w I σ M) (henv : EnvR w I σ env a.tmps)
    (hfree : ∀ k, key ≤ k → k < key + 8 → σ k = none) {n : NEff} (h : nop T G env M key o.op = some n) (hvc : ∀ p ∈ n.pre, p ()) : Does P o a w fun v w' => ∃ d, n.ok d ∧ ∀ e, n.eff d = some e → Post w I σ M key e.val (mapply M e.upd) v w' := by
  unfold nop at h
  split at h <;> (try (cases h; done)) <;> rename_i hop
  · rename_i t x y t'
    split at h <;> (try (cases h; done))
    rename_i ti ht
    refine nilN_ok hT hok ht h (opv_ok henv x) (opv_ok henv y) fun hu ad l c => ⟨(do eqGuard .eql t x y (a.eval x) (a.eval y); binOp .eql t (a.eval x) (a.eval y) : Sem Value), by simp only [execOp, hop], fun e1 e2 => ?_⟩
    rw [e1, e2]
    exact run_nil_eql hu ad l c x y
  · rename_i t x y t'
    split at h <;> (try (cases h; done))
    rename_i ti ht
    refine nilN_ok hT hok ht h (opv_ok henv x) (opv_ok henv y) fun hu ad l c => ⟨(do eqGuard .neq t x y (a.eval x) (a.eval y); binOp .neq t (a.eval x) (a.eval y) : Sem Value), by simp only [execOp, hop], fun e1 e2 => ?_⟩
    rw [e1, e2]
    exact run_nil_neq hu ad l c x y
  · rename_i c
    have hargs := opvs_ok henv c.args.toList
    split at h <;> (try (cases h; done))
    rename_i f hcal
    split at h <;> (try (cases h; done))
    rename_i g caps hf
    split at h <;> (try (cases h; done))
    rename_i C hC
    have hfv := opv_ok henv f
    rw [hf] at hfv
    simp only [VR] at hfv
    obtain ⟨us, hus, hfv⟩ := hfv
    rw [lapp_eq] at h
    have := callN_ok hok hfree (hG g C hC) h hvc (hargs.append hfv)
    intro K Q hK
    unfold Oper.wp
    have := this o a K Q hK
    rw [show (execOp a.eval o).run P w = (callFunc g (c.args.toList.map a.eval ++ us.toList).toArray).run P w from ?_]
    · exact this
    · simp only [execOp, hop, resolve, hcal, hus, Deferred.ofValue, pure_bind, invoke]
      congr 2
      apply Array.ext'
      simp
end
end Go.Am
