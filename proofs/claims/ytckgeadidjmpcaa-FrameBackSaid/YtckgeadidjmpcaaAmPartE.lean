/- A range over a function: the code of the function that is ranged over. -/
import Derived.Test.YtckgeadidjmpcaaAmPartD
namespace Go.Am
set_option linter.all false
set_option linter.deprecated false
section
variable {P : Program} {a : Act} {w w' wb : World} {I I' Ib : Nat → Prop} {σ σ' σb : Sig} {M M' Mb : MS} {T : TT} {G : Ctx} {env : List AV} {l D : Nat} {rec : Option AExit → Loop}
theorem Oper.wpIn_q {F : Fence} {n : Nat} {o : Oper} {K K' : Act → World → Prop} {Q Q' : Exit → Act → World → Prop} (hK : ∀ a w, K a w → K' a w) (hQ : ∀ e a w, e ≠ .normal → Q e a w → Q' e a w) (h : o.wpIn F n P a w K Q) : o.wpIn F n P a w K' Q' := by
  refine ⟨h.1, ?_⟩
  have h := h.2
  revert h
  cases (o.semAt F.round a.eval).run P w with
  | ok v w' =>
    cases v <;> intro h <;> first | exact hK _ _ h | exact h.elim | skip
    · refine ⟨h.1, h.2.1, fun cs hr => ?_⟩
      obtain ⟨e, w2, fr, q, s⟩ := h.2.2 cs hr
      refine ⟨e, w2, fr, ?_, s⟩
      cases e with
      | returned v => exact hK _ _ q
      | panicked ch => exact hQ _ _ _ (by simp) q
      | outgrown => obtain ⟨x, y, q⟩ := q; exact ⟨x, y, hQ _ _ _ (by simp) q⟩
    · refine ⟨h.1, h.2.mono fun e w2 q => ?_⟩
      cases e with
      | returned v => exact hK _ _ q
      | panicked ch => exact hQ _ _ _ (by simp) q
      | outgrown => obtain ⟨x, y, q⟩ := q; exact ⟨x, y, hQ _ _ _ (by simp) q⟩
    · exact ⟨h.1, h.2.mono fun v w2 q => hK _ _ q⟩
  | halt h w' => cases h <;> intro q <;> first | exact hQ _ _ _ (by simp) q | exact q.elim
theorem wpListIn_app {F : Fence} {n : Nat} {ops : Array Oper} {Q Q' : Exit → Act → World → Prop} {ys : List Oper} (hn : ∀ a w, Q' .normal a w → wpListIn F n P ops Q ys a w) (hQ : ∀ e a w, e ≠ .normal → Q' e a w → Q e a w) :
    ∀ (xs : List Oper) (a : Act) (w : World), wpListIn F n P ops Q' xs a w → wpListIn F n P ops Q (xs ++ ys) a w
  | [], a, w, h => hn a w h
  | x :: xs, a, w, h => by
    simp only [List.cons_append]
    unfold wpListIn at h ⊢
    split
    · rename_i hw
      rw [if_pos hw] at h
      exact Oper.wpIn_q (fun a w h => wpListIn_app hn hQ xs a w h) hQ h
    · rename_i hw
      rw [if_neg hw] at h
      exact ⟨h.1, wpListIn_app hn hQ xs _ _ h.2⟩
structure Yst (wb : World) (Ib : Nat → Prop) (σb : Sig) (Mb : MS) (l D : Nat) (rec : Option AExit → Loop) (env : List AV) (M : MS) (nx : Nat) (p : Option AExit) (a : Act) (w : World) (I : Nat → Prop) (σ : Sig) : Prop where
  st : St [] wb Ib σb Mb env M nx a w I σ
  recd : Frn w I σ M l (.loop (rec p))
  dfr : Frn w I σ M D (.deferred (some []))
theorem Yst.base {nx : Nat} {p : Option AExit} (h : Yst wb Ib σb Mb l D rec env M nx p a w I σ) : St [] w I σ M env M nx a w I σ := ⟨h.st.envr, h.st.len, h.st.ok, h.st.free, Ext.refl h.st.ok, h.st.def0⟩
theorem Yst.next {env' : List AV} {nx nx' : Nat} {p : Option AExit} {a' : Act} (h : Yst wb Ib σb Mb l D rec env M nx p a w I σ) (k : St [] w I σ M env' M' nx' a' w' I' σ') : Yst wb Ib σb Mb l D rec env' M' nx' p a' w' I' σ' :=
  ⟨⟨k.envr, k.len, k.ok, k.free, h.st.ext.trans k.ext, k.def0⟩, h.recd.ext k.ext, h.dfr.ext k.ext⟩
theorem yld_run {o : Oper} {args : List AV} {l' : Nat} (henv : EnvR w I σ env a.tmps) (h : yldArgs env o.op = some (l', args)) :
    ∃ us : List Value, VRs w I σ args us ∧ (∀ c, o.op ≠ .defer c) ∧ (execOp a.eval o).run P w = (Instr.yield l' us.toArray).run P w := by
  unfold yldArgs at h
  split at h <;> (try (cases h; done))
  rename_i c hop
  split at h <;> (try (cases h; done))
  rename_i f hcal
  split at h <;> (try (cases h; done))
  rename_i l2 hf
  cases h
  have hfv := opv_ok henv f
  rw [hf] at hfv
  simp only [VR] at hfv
  refine ⟨c.args.toList.map a.eval, opvs_ok henv c.args.toList, fun c' hc => (by rw [hop] at hc; cases hc), ?_⟩
  simp only [execOp, hop, resolve, hcal, hfv, Deferred.ofValue, pure_bind, invoke]
  congr 2
  apply Array.ext'
  simp
theorem wopsY_ok (hT : ∀ t i, T t = some i → TIok P t i) (hG : ∀ f C, G f = some C → CSound P f C) {H : Hd} (hH : HdOk P wb Ib σb Mb l D rec H) {all : List Oper} {Q : Exit → Act → World → Prop} {K : Nat → RS → Option AExit → Prop} :
    ∀ (os : List Oper) (i base : Nat) (r : RS) (p : Option AExit) (a : Act) (w : World) (I : Nat → Prop) (σ : Sig), wopsY T G all l H os i base r p K → Yst wb Ib σb Mb l D rec r.env r.M (base + 8 * i) p a w I σ → ResOk r.res a.tmps →
      (∀ base' r' p' a' w' I' σ', K base' r' p' → Yst wb Ib σb Mb l D rec r'.env r'.M (base' + 8 * (i + os.length)) p' a' w' I' σ' → Q .normal a' w') → wpListIn (FW none) 0 P all.toArray Q os a w
  | [], i, base, r, p, a, w, I, σ, h, hs, _, hQ => hQ base r p a w I σ h (by simpa using hs)
  | o :: os, i, base, r, p, a, w, I, σ, h, hs, hres, hQ => by
    have hQ' : ∀ base' r' p' a' w' I' σ', K base' r' p' → Yst wb Ib σb Mb l D rec r'.env r'.M (base' + 8 * (i + 1 + os.length)) p' a' w' I' σ' → Q .normal a' w' := fun base' r' p' a' w' I' σ' hk hst => hQ base' r' p' a' w' I' σ' hk (by
      rw [show i + (o :: os).length = i + 1 + os.length by simp; omega]; exact hst)
    unfold wopsY at h
    split at h
    · rename_i l' args hy
      split at h <;> (try exact h.elim)
      rename_i hg hl
      have hl := (Nat.eq_of_beq_eq_true hl).symm
      subst hl
      obtain ⟨us, hus, hnd, hrun⟩ := yld_run (P := P) hs.st.envr hy
      obtain ⟨hz, hround⟩ := hH args r.M (base + 8 * i) _ h w I σ us ⟨hs.st.ok, hs.st.free, hs.st.ext, hs.recd, hs.dfr⟩ hus
      unfold wpListIn
      rw [if_pos (by simp [Region.wanted, hg])]
      refine ⟨fun f _ => FW_fn none f, ?_⟩
      rw [FW_round, Oper.semAt_eq none a.eval o hnd, hrun, run_yield hs.recd.here (by simpa using hz)]
      refine ⟨fun q => (by rw [FW_depth] at q; cases q), hround.mono fun e w' hq => ?_⟩
      obtain ⟨M', nx', p', I', σ', hk, rfl, hR, hK⟩ := hq
      refine wopsY_ok hT hG hH os (i + 1) (nx' - 8 * (i + 1)) _ p' _ w' I' σ' hk ⟨⟨?_, ?_, hR.ok, fun k hk => hR.free k (by omega), hR.ext, ?_⟩, hR.recd, hR.dfr⟩ (hres.put _ _) hQ'
      · exact EnvR.put (hs.st.envr.keep hK) hs.st.len (by simp only [VR])
      · show (lset? _ _ _).length ≤ _
        rw [lset?_length, put_size]; exact hs.st.len
      · rw [put_defers]; exact hs.st.def0
    · have := wopsN_seqIn (ρ := none) (ds := []) (w0 := w) (I0 := I) (σ0 := σ) (M0 := r.M) (Q := fun e a w => match e with | .normal => wpListIn (FW none) 0 P all.toArray Q os a w | e => Q e a w) hT hG [o] i r a w I σ h hs.base hres
        fun r' a' w' I' σ' hk hst hre => wopsY_ok hT hG hH os (i + 1) base r' p a' w' I' σ' hk (hs.next hst) hre hQ'
      refine wpListIn_app (ys := os) (fun a w h => h) (fun e a w hne h => ?_) [o] a w this
      cases e <;> first | exact h | exact absurd rfl hne
theorem ywp_ok {m : Nat} (hm : ∀ k, m ≤ k → σb k = none) (hp : P.follows .mixedOrders = true) (hT : ∀ t i, T t = some i → TIok P t i) (hG : ∀ f C, G f = some C → CSound P f C) {H : Hd} (hH : HdOk P wb Ib σb Mb l D rec H) :
    ∀ (c : Code), codeOk c = true → ∀ (Qa : AExit → YS → Prop) (Qm : Exit → Act → World → Prop) (s : YS) (a : Act) (w : World) (I : Nat → Prop) (σ : Sig),
      ywp T G m l H c Qa s → Yst wb Ib σb Mb l D rec s.s.env s.s.M s.s.nx s.pend a w I σ → (∀ e s' a' w' I' σ', Qa e s' → Yst wb Ib σb Mb l D rec s'.s.env s'.s.M s'.s.nx s'.pend a' w' I' σ' → Qm e.to a' w') → c.wpIn (FW none) 0 P Qm a w := by
  intro c
  induction c with
  | skip => intro _ Qa Qm s a w I σ h hs hQ; exact wpIn_skip (hQ .normal s a w I σ h hs)
  | ret => intro _ Qa Qm s a w I σ h hs hQ; exact wpIn_ret (hQ .ret s a w I σ h hs)
  | exit id => intro _ Qa Qm s a w I σ h hs hQ; exact wpIn_exit (hQ (.exit id) s a w I σ h hs)
  | region id ops draw =>
    intro hc Qa Qm s a w I σ h hs hQ
    cases draw with
    | false =>
      simp only [ywp] at h
      refine wpIn_region_list ?_
      have := wopsY_ok (Q := Qm) hT hG hH ops.toList 0 s.s.nx ⟨s.s.env, s.s.M, [], []⟩ s.pend a w I σ h (by simpa using hs) (fun s b hb => by simp [rget] at hb)
        fun base' r' p' a' w' I' σ' hk hst => hQ .normal ⟨⟨r'.env, r'.M, base' + 8 * ops.toList.length⟩, p'⟩ a' w' I' σ' hk (by simpa using hst)
      simpa using this
    | true =>
      simp only [ywp] at h
      refine region_okIn (ρ := none) (ds := []) (w0 := w) (I0 := I) (σ0 := σ) (M0 := s.s.M) (draw := true) (K := fun s' => Qa .normal ⟨s', s.pend⟩) hp hT hG hc h hs.base fun s' a' w' I' σ' hk hst => hQ .normal ⟨s', s.pend⟩ a' w' I' σ' hk (hs.next hst)
  | seq x y ihx ihy =>
    intro hc Qa Qm s a w I σ h hs hQ
    simp only [codeOk, Bool.and_eq_true] at hc
    refine wpIn_seq (ihx hc.1 _ _ s a w I σ h hs fun e s' a' w' I' σ' hq hst => ?_)
    cases e with
    | normal => exact ihy hc.2 Qa Qm s' a' w' I' σ' hq hst hQ
    | exit id => exact hQ _ s' a' w' I' σ' hq hst
    | ret => exact hQ _ s' a' w' I' σ' hq hst
  | cond c x y ihx ihy =>
    intro hc Qa Qm s a w I σ h hs hQ
    simp only [codeOk, Bool.and_eq_true] at hc
    simp only [ywp] at h
    split at h
    · rename_i b hb
      have hv := opv_ok hs.st.envr c
      rw [hb] at hv
      simp only [VR] at hv
      exact wpIn_cond_split hv (fun ht => ihx hc.1 Qa Qm s a w I σ (h.t ht) hs hQ) fun hf => ihy hc.2 Qa Qm s a w I σ (h.f hf) hs hQ
    · exact h.elim
  | block id c ih =>
    intro hc Qa Qm s a w I σ h hs hQ
    simp only [codeOk] at hc
    refine wpIn_block (ih hc _ _ s a w I σ h hs fun e s' a' w' I' σ' hq hst => ?_)
    cases e with
    | normal => exact hQ .normal s' a' w' I' σ' hq hst
    | exit i =>
      simp only at hq
      simp only [AExit.to, Exit.inBlock]
      split at hq
      · rename_i hb
        rw [if_pos (Nat.eq_of_beq_eq_true hb)]
        exact hQ .normal s' a' w' I' σ' hq hst
      · rename_i hb
        rw [if_neg (Nat.ne_of_beq_eq_false hb)]
        exact hQ (.exit i) s' a' w' I' σ' hq hst
    | ret => exact hQ .ret s' a' w' I' σ' hq hst
  | loop c ih =>
    intro hc Qa Qm s a w I σ h hs hQ
    simp only [codeOk] at hc
    obtain ⟨ι, inv, μ, x, pend, start, round⟩ := h
    have into : ∀ {s1 s2 : AState} {a : Act} {w : World} {I : Nat → Prop} {σ : Sig}, Yst wb Ib σb Mb l D rec s1.env s1.M s1.nx none a w I σ → fit m s1 s2 → ∃ J τ, Yst wb Ib σb Mb l D rec s2.env s2.M s2.nx none a w J τ := by
      intro s1 s2 a w I σ hy hf
      obtain ⟨J, τ, h1, h2, h3⟩ := fit_ok2 hm hy.st hf
      refine ⟨J, τ, h1, ⟨hy.recd.here, fun q => hy.recd.own (h3 _ q), fun q => ?_⟩, ⟨hy.dfr.here, fun q => hy.dfr.own (h3 _ q), fun q => ?_⟩⟩
      · rcases h2 _ q with q | q
        · exact hy.recd.imm q
        · exact hy.recd.own q
      · rcases h2 _ q with q | q
        · exact hy.dfr.imm q
        · exact hy.dfr.own q
    refine wpIn_loop_ghost (fun n a w => ∃ x, μ x = n ∧ ∃ I σ, Yst wb Ib σb Mb l D rec (inv x).env (inv x).M (inv x).nx none a w I σ) (μ x) ⟨x, rfl, into (by rw [pend] at hs; exact hs) start⟩ ?_
    rintro n a w ⟨y, rfl, I, σ, hst⟩
    refine ih hc _ _ ⟨inv y, none⟩ a w I σ (round y) hst fun e s' a' w' I' σ' hq hst' => ?_
    cases e with
    | normal =>
      simp only at hq
      split at hq
      · rename_i hpn
        obtain ⟨z, hz, hf⟩ := hq
        exact ⟨μ z, hz, z, rfl, into (by rw [hpn] at hst'; exact hst') hf⟩
      · exact hq.elim
    | exit id => exact hQ (.exit id) s' a' w' I' σ' hq hst'
    | ret => exact hQ .ret s' a' w' I' σ' hq hst'
  | rangeFunc f ps asg b _ _ => intro _ Qa Qm s a w I σ h; exact h.elim
  | scope b _ => intro _ Qa Qm s a w I σ h; exact h.elim
  | label l => intro _ Qa Qm s a w I σ h; exact h.elim
  | goto l => intro _ Qa Qm s a w I σ h; exact h.elim
  | refuse y => intro _ Qa Qm s a w I σ h; exact h.elim
end
end Go.Am
/- A range over a function: the statement, and a function that holds it. -/
namespace Go.Am
set_option linter.all false
set_option linter.deprecated false
def codeOkR : Code → Bool
  | .region _ ops true => edgesOk ops.toList && slotsOk ops.toList
  | .seq a b => codeOkR a && codeOkR b
  | .cond _ a b => codeOkR a && codeOkR b
  | .block _ c => codeOkR c
  | .loop c => codeOkR c
  | .rangeFunc _ _ a b => codeOk a && codeOk b
  | _ => true
abbrev markOf (D : Nat) : Deferred := { target := .collected D, args := #[] }
section
variable {ds : List Deferred} {P : Program} {a : Act} {w w' w0 : World} {I I' I0 : Nat → Prop} {σ σ' σ0 : Sig} {M M' M0 : MS} {T : TT} {G : Ctx} {env : List AV} {key nx : Nat}
def Marks (B : Nat) (w : World) (I : Nat → Prop) (σ : Sig) (M : MS) (ds : List Deferred) : Prop := ∃ Ds : List Nat, ds = Ds.map markOf ∧ Ds.Nodup ∧ ∀ D ∈ Ds, B ≤ D ∧ Frn w I σ M D (.deferred (some []))
theorem Marks.ext {B : Nat} (h : Marks B w I σ M ds) (e : Ext w I σ M w' I' σ' M') : Marks B w' I' σ' M' ds := let ⟨Ds, h1, h2, h3⟩ := h; ⟨Ds, h1, h2, fun D hD => ⟨(h3 D hD).1, (h3 D hD).2.ext e⟩⟩
theorem Marks.of {B : Nat} {J : Nat → Prop} {τ : Sig} {N : MS} (h : Marks B w I σ M ds) (h2 : ∀ b, J b → I b ∨ Owned σ M b) (h3 : ∀ b, Owned τ N b → Owned σ M b) : Marks B w J τ N ds := by
  obtain ⟨Ds, e1, e2, e3⟩ := h
  refine ⟨Ds, e1, e2, fun D hD => ⟨(e3 D hD).1, (e3 D hD).2.here, fun q => (e3 D hD).2.own (h3 _ q), fun q => ?_⟩⟩
  rcases h2 _ q with q | q
  · exact (e3 D hD).2.imm q
  · exact (e3 D hD).2.own q
theorem finit_ok {args : List AV} {vs : List Value} (n : Nat) (h : VRs w I σ args vs) : EnvR w I σ (finit n args) (vs.toArray ++ Array.replicate (n - vs.toArray.size) undef) ∧ (finit n args).length ≤ (vs.toArray ++ Array.replicate (n - vs.toArray.size) undef).size := by
  have hlen := h.length
  refine ⟨fun t => ?_, ?_⟩
  · simp only [finit, lapp_get]
    by_cases ht : t < args.length
    · rw [if_pos ht]
      have := h.get t ht
      simp only [Array.getD_eq_getD_getElem?, List.getD] at this ⊢
      rw [Array.getElem?_append_left (by simp; omega)]
      simpa using this
    · rw [if_neg ht, uns_get]
      simp only [VR]
  · have e1 : (lapp args (uns (n - llen args))).length = args.length + (n - llen args) := by
      have : ∀ (xs ys : List AV), (lapp xs ys).length = xs.length + ys.length := by
        intro xs
        induction xs with
        | nil => simp [lapp]
        | cons x xs ih => intro ys; simp [lapp, ih]; omega
      rw [this, uns_len]
    have e2 := llen_eq args
    rw [finit, e1, Array.size_append, Array.size_replicate, List.size_toArray]
    omega
/-- the functions that may be ranged over -/
structure FnOk (P : Program) (g : Nat) (c : Code) (n : Nat) : Prop where
  func : ∃ fn : Func, P.funcs[g]? = some fn ∧ fn.body = some c ∧ fn.ntmps = n ∧ fn.results = #[] ∧ (fn.name == "runtime.NumGoroutine") = false
  code : codeOk c = true
def FnsOk (P : Program) (FT : Fns) : Prop := ∀ g c n, FT g = some (c, n) → FnOk P g c n
theorem rwp_ok {m : Nat} {FT : Fns} (hm : ∀ k, m ≤ k → σ0 k = none) (hp : P.follows .mixedOrders = true) (hT : ∀ t i, T t = some i → TIok P t i) (hG : ∀ f C, G f = some C → CSound P f C) (hFT : FnsOk P FT) :
    ∀ (c : Code), codeOkR c = true → ∀ (Qa : AExit → AState → Prop) (Qm : Exit → Act → World → Prop) (s : AState) (ds : List Deferred) (a : Act) (w : World) (I : Nat → Prop) (σ : Sig),
      rwp T G FT m c Qa s → St ds w0 I0 σ0 M0 s.env s.M s.nx a w I σ → Marks w0.heap.size w I σ s.M ds →
      (∀ e s' ds' a' w' I' σ', Qa e s' → St ds' w0 I0 σ0 M0 s'.env s'.M s'.nx a' w' I' σ' → Marks w0.heap.size w' I' σ' s'.M ds' → Qm e.to a' w') → c.wpIn (FW none) 0 P Qm a w := by
  intro c
  induction c with
  | skip => intro _ Qa Qm s ds a w I σ h hs hk hQ; exact wpIn_skip (hQ .normal s ds a w I σ h hs hk)
  | ret => intro _ Qa Qm s ds a w I σ h hs hk hQ; exact wpIn_ret (hQ .ret s ds a w I σ h hs hk)
  | exit id => intro _ Qa Qm s ds a w I σ h hs hk hQ; exact wpIn_exit (hQ (.exit id) s ds a w I σ h hs hk)
  | region id ops draw =>
    intro hc Qa Qm s ds a w I σ h hs hk hQ
    have hb : St ds w I σ s.M s.env s.M s.nx a w I σ := ⟨hs.envr, hs.len, hs.ok, hs.free, Ext.refl hs.ok, hs.def0⟩
    refine region_okIn (ρ := none) (ds := ds) (w0 := w) (I0 := I) (σ0 := σ) (M0 := s.M) (draw := draw) (K := fun s => Qa .normal s) hp hT hG (by cases draw <;> simpa [codeOkR, codeOk] using hc) (by simp only [rwp] at h; cases draw <;> exact h) hb fun s' a' w' I' σ' hq hst => ?_
    exact hQ .normal s' ds a' w' I' σ' hq ⟨hst.envr, hst.len, hst.ok, hst.free, hs.ext.trans hst.ext, hst.def0⟩ (hk.ext hst.ext)
  | seq x y ihx ihy =>
    intro hc Qa Qm s ds a w I σ h hs hk hQ
    simp only [codeOkR, Bool.and_eq_true] at hc
    refine wpIn_seq (ihx hc.1 _ _ s ds a w I σ h hs hk fun e s' ds' a' w' I' σ' hq hst hk' => ?_)
    cases e with
    | normal => exact ihy hc.2 Qa Qm s' ds' a' w' I' σ' hq hst hk' hQ
    | exit id => exact hQ _ s' ds' a' w' I' σ' hq hst hk'
    | ret => exact hQ _ s' ds' a' w' I' σ' hq hst hk'
  | cond c x y ihx ihy =>
    intro hc Qa Qm s ds a w I σ h hs hk hQ
    simp only [codeOkR, Bool.and_eq_true] at hc
    simp only [rwp] at h
    split at h
    · rename_i b hb
      have hv := opv_ok hs.envr c
      rw [hb] at hv
      simp only [VR] at hv
      exact wpIn_cond_split hv (fun ht => ihx hc.1 Qa Qm s ds a w I σ (h.t ht) hs hk hQ) fun hf => ihy hc.2 Qa Qm s ds a w I σ (h.f hf) hs hk hQ
    · exact h.elim
  | block id c ih =>
    intro hc Qa Qm s ds a w I σ h hs hk hQ
    simp only [codeOkR] at hc
    refine wpIn_block (ih hc _ _ s ds a w I σ h hs hk fun e s' ds' a' w' I' σ' hq hst hk' => ?_)
    cases e with
    | normal => exact hQ .normal s' ds' a' w' I' σ' hq hst hk'
    | exit i =>
      simp only at hq
      simp only [AExit.to, Exit.inBlock]
      split at hq
      · rename_i hb
        rw [if_pos (Nat.eq_of_beq_eq_true hb)]
        exact hQ .normal s' ds' a' w' I' σ' hq hst hk'
      · rename_i hb
        rw [if_neg (Nat.ne_of_beq_eq_false hb)]
        exact hQ (.exit i) s' ds' a' w' I' σ' hq hst hk'
    | ret => exact hQ .ret s' ds' a' w' I' σ' hq hst hk'
  | loop c ih =>
    intro hc Qa Qm s ds a w I σ h hs hk hQ
    simp only [codeOkR] at hc
    obtain ⟨ι, inv, μ, x, start, round⟩ := h
    have into : ∀ {s1 s2 : AState} {ds : List Deferred} {a : Act} {w : World} {I : Nat → Prop} {σ : Sig}, St ds w0 I0 σ0 M0 s1.env s1.M s1.nx a w I σ → Marks w0.heap.size w I σ s1.M ds → fit m s1 s2 → ∃ J τ, St ds w0 I0 σ0 M0 s2.env s2.M s2.nx a w J τ ∧ Marks w0.heap.size w J τ s2.M ds := by
      intro s1 s2 ds a w I σ hy hk hf
      obtain ⟨J, τ, h1, h2, h3⟩ := fit_ok2 hm hy hf
      exact ⟨J, τ, h1, hk.of h2 h3⟩
    refine wpIn_loop_ghost (fun n a w => ∃ x, μ x = n ∧ ∃ ds I σ, St ds w0 I0 σ0 M0 (inv x).env (inv x).M (inv x).nx a w I σ ∧ Marks w0.heap.size w I σ (inv x).M ds) (μ x) ⟨x, rfl, ds, into hs hk start⟩ ?_
    rintro n a w ⟨y, rfl, ds, I, σ, hst, hk⟩
    refine ih hc _ _ (inv y) ds a w I σ (round y) hst hk fun e s' ds' a' w' I' σ' hq hst' hk' => ?_
    cases e with
    | normal =>
      obtain ⟨z, hz, hf⟩ := hq
      exact ⟨μ z, hz, z, rfl, ds', into hst' hk' hf⟩
    | exit id => exact hQ (.exit id) s' ds' a' w' I' σ' hq hst' hk'
    | ret => exact hQ .ret s' ds' a' w' I' σ' hq hst' hk'
  | rangeFunc f ps asg b _ _ =>
    intro hc Qa Qm s ds a w I σ h hs hk hQ
    simp only [codeOkR, Bool.and_eq_true] at hc
    simp only [rwp] at h
    split at h <;> (try exact h.elim)
    rename_i g caps hfv
    split at h <;> (try exact h.elim)
    rename_i c n hg
    have hv := opv_ok hs.envr f
    rw [hfv] at hv
    simp only [VR] at hv
    obtain ⟨us, hus, hcaps⟩ := hv
    obtain ⟨⟨fn, hfn, hbody, rfl, hres, hname⟩, hcode⟩ := hFT g c n hg
    refine wpIn_rangeFunc ?_
    intro fc _
    obtain ⟨W1, hW1⟩ : ∃ W1, W1 = (w.alloc (.deferred (some []))).alloc (.loop (recOf fc a.tmps ps asg b w.heap.size none)) := ⟨_, rfl⟩
    have hz1 : (w.alloc (.deferred (some []))).heap.size = w.heap.size + 1 := World.size_alloc ..
    have s1 : Side w I σ s.M (w.alloc (.deferred (some []))) := Side.alloc hs.ok _
    have ok1 := s1.ok hs.ok
    have s2 : Side (w.alloc (.deferred (some []))) I σ s.M W1 := by rw [hW1]; exact Side.alloc ok1 _
    have d1 : Frn (w.alloc (.deferred (some []))) I σ s.M w.heap.size (.deferred (some [])) := Frn.new hs.ok _
    have at1 : ∀ b, b < w.heap.size → (w.alloc (.deferred (some []))).heap[b]? = w.heap[b]? := fun b hb => by
      show (w.heap.push _)[b]? = _
      rw [Array.getElem?_push, if_neg (by omega)]
    have at2 : ∀ b, b < w.heap.size + 1 → W1.heap[b]? = (w.alloc (.deferred (some []))).heap[b]? := fun b hb => by
      rw [hW1]
      show ((w.alloc _).heap.push _)[b]? = _
      rw [Array.getElem?_push, if_neg (by omega)]
    have d2 : Frn W1 I σ s.M w.heap.size (.deferred (some [])) := d1.side (at2 _ (by omega))
    have r2 : Frn W1 I σ s.M (w.heap.size + 1) (.loop (recOf fc a.tmps ps asg b w.heap.size none)) := by
      have := Frn.new (o := .loop (recOf fc a.tmps ps asg b w.heap.size none)) ok1
      rw [hz1] at this
      rw [hW1]; exact this
    have x2 : Ext w I σ s.M W1 I σ s.M := s2.ext (s1.ext (Ext.refl hs.ok) at1) fun b hb => at2 b (by omega)
    have K2 : Keep w I σ W1 I σ := s1.keep.tr s2.keep
    refine ⟨w.heap.size + 1, [markOf w.heap.size], W1, { target := .fn (.func g) us, args := #[.func (.yield (w.heap.size + 1)) #[] #[]] }, W1, g, #[.func (.yield (w.heap.size + 1)) #[] #[]] ++ us, W1, ?_, ?_, fun f' _ => FW_fn none f', ?_, fun q => (by rw [FW_depth] at q; cases q), ?_⟩
    · rw [hW1, FW_round]; exact run_enterLoop_outer _ _ _ _ _
    · simp [resolve, hus, Deferred.ofValue]
      rfl
    · simp only [invoke, callFunc, Sem.run_bind, run_program, Result.andThen_ok, hfn, hname, hbody, Option.isNone_some, Bool.false_eq_true, if_false, Sem.run_pure]
    · have hy := h (w.heap.size + 1)
      have hH : HdOk P w I σ s.M (w.heap.size + 1) w.heap.size (recOf fc a.tmps ps asg b w.heap.size) (bodyH T G asg b s.env ps.toList) :=
        bodyH_ok hp hT hG hc.1 hc.2 hs.ok hs.envr hs.len (Nat.le_refl _) (by omega) (by omega)
      have hargs : VRs W1 I σ (lapp [.yl (w.heap.size + 1)] caps) (.func (.yield (w.heap.size + 1)) #[] #[] :: us.toList) := by
        simp only [lapp, VRs]
        exact ⟨_, _, rfl, by simp only [VR], VRs.keep K2 _ _ hcaps⟩
      obtain ⟨f1, f2⟩ := finit_ok fn.ntmps hargs
      have ez : (#[.func (.yield (w.heap.size + 1)) #[] #[]] ++ us : Array Value) = (.func (.yield (w.heap.size + 1)) #[] #[] :: us.toList).toArray := by
        apply Array.ext'; simp
      rw [ez]
      refine callsIn_of_wp (F := FW none) hfn hbody (FW_fn none _) ?_
      refine ywp_ok (m := s.nx) hs.free hp hT hG hH c hcode _ _ ⟨⟨finit fn.ntmps (lapp [.yl (w.heap.size + 1)] caps), s.M, s.nx⟩, none⟩ _ W1 I σ hy ⟨⟨f1, f2, s2.ok ok1, hs.free, x2, rfl⟩, r2, d2⟩ fun e ys a' w' I' σ' hq hst => ?_
      have hst' := hst
      have x3 := hst.st.ext
      obtain ⟨w4, hw4⟩ : ∃ w4, w4 = w'.putObj (w.heap.size + 1) (.loop { recOf fc a.tmps ps asg b w.heap.size ys.pend with state := .exhausted }) := ⟨_, rfl⟩
      have s4 : Side w' I' σ' ys.s.M w4 := by rw [hw4]; exact Side.putObj hst.recd _
      have done : (match ys.pend with
            | none => Qa .normal ⟨s.env, ys.s.M, ys.s.nx⟩
            | some p => Qa p ⟨s.env, ys.s.M, ys.s.nx⟩) → a'.defers = [] ∧ ∃ v, (results fn a'.tmps).run P w' = .ok v w' ∧ rangePost (FW none) 0 P (w.heap.size + 1) Qm { a with defers := [markOf w.heap.size] ++ a.defers } (.returned v) w' := by
        intro hq
        refine ⟨hst.st.def0, .tuple #[], ?_, ?_⟩
        · simp [results, hres]
        · refine ⟨_, w4, by rw [hw4]; exact run_endLoop hst.recd.here (by cases ys.pend <;> simp [recOf]), ?_⟩
          have go : ∀ p, Qa p ⟨s.env, ys.s.M, ys.s.nx⟩ → Qm p.to { a with defers := [markOf w.heap.size] ++ a.defers } w4 := by
            intro p hq
            refine hQ p ⟨s.env, ys.s.M, ys.s.nx⟩ (markOf w.heap.size :: ds) _ w4 I' σ' hq ⟨?_, hs.len, s4.ok hst.st.ok, hst.st.free, ?_, ?_⟩ ?_
            · exact (hs.envr.keep (x3.keep hs.ok)).keep s4.keep
            · refine s4.ext (hs.ext.trans x3) fun c hc => ?_
              have := hs.ext.size
              rw [hw4]; exact World.putObj_heap_other (by omega)
            · show [markOf w.heap.size] ++ a.defers = _
              rw [hs.def0]; rfl
            · obtain ⟨Ds, e1, e2, e3⟩ := hk
              refine ⟨w.heap.size :: Ds, by rw [e1]; rfl, List.nodup_cons.2 ⟨fun hm => absurd (e3 _ hm).2.lt (by omega), e2⟩, fun D hD => ?_⟩
              have hne : D ≠ w.heap.size + 1 := by
                rcases List.mem_cons.1 hD with rfl | hD
                · omega
                · have := (e3 D hD).2.lt; omega
              rcases List.mem_cons.1 hD with rfl | hD
              · exact ⟨hs.ext.size, hst.dfr.side (by rw [hw4]; exact World.putObj_heap_other hne)⟩
              · exact ⟨(e3 D hD).1, ((e3 D hD).2.ext x3).side (by rw [hw4]; exact World.putObj_heap_other hne)⟩
          cases hpd : ys.pend with
          | none => rw [hpd] at hq; exact go .normal hq
          | some p =>
            rw [hpd] at hq
            cases p with
            | normal => exact wpIn_skip (go _ hq)
            | exit id => exact wpIn_exit (go _ hq)
            | ret => exact wpIn_ret (go _ hq)
      cases e with
      | normal => exact done hq
      | ret => exact done hq
      | exit id => exact hq.elim
  | scope b _ => intro _ Qa Qm s ds a w I σ h; exact h.elim
  | label l => intro _ Qa Qm s ds a w I σ h; exact h.elim
  | goto l => intro _ Qa Qm s ds a w I σ h; exact h.elim
  | refuse y => intro _ Qa Qm s ds a w I σ h; exact h.elim
end
end Go.Am
/- A function that ranges over functions keeps its contract. -/
namespace Go.Am
set_option linter.all false
set_option linter.deprecated false
section
variable {ds : List Deferred} {P : Program} {a : Act} {w w' w0 : World} {I I' I0 : Nat → Prop} {σ σ' σ0 : Sig} {M M' M0 : MS} {T : TT} {G : Ctx} {env : List AV} {key nx : Nat}
/-- the marks are taken off, one behind the other -/
theorem marks_leave {fn : Func} {tmps : Array Value} {R : Ending → World → Prop} : ∀ (Ds : List Nat) (w : World), Ok w I σ M → Ds.Nodup → (∀ D ∈ Ds, Frn w I σ M D (.deferred (some []))) →
    (∀ w', Side w I σ M w' → (∀ b, b ∉ Ds → w'.heap[b]? = w.heap[b]?) → ∃ v, (results fn tmps).run P w' = .ok v w' ∧ R (.returned v) w') → LeavesInM (FW none) 0 P fn tmps R (Ds.map markOf) .returning w
  | [], w, _, _, _, h => h w ⟨rfl, rfl, rfl, Nat.le_refl _, fun _ _ => rfl⟩ fun _ _ => rfl
  | D :: Ds, w, hok, hd, hD, h => by
    have h0 := hD D List.mem_cons_self
    have hn := List.nodup_cons.1 hd
    have s : Side w I σ M (w.putObj D (.deferred none)) := Side.putObj h0 _
    refine ⟨by simp, .inl ⟨D, w.putObj D (.deferred none), rfl, run_takeDeferred h0.here, ?_⟩⟩
    refine marks_leave Ds _ (s.ok hok) hn.2 (fun E hE => (hD E (List.mem_cons_of_mem _ hE)).side (World.putObj_heap_other (fun q => hn.1 (by rw [← q]; exact hE)))) fun w' hs hb => ?_
    refine h w' ⟨hs.os.trans s.os, hs.tape.trans s.tape, hs.output.trans s.output, Nat.le_trans s.size hs.size, fun b hb => (hs.blk b hb).trans (s.blk b hb)⟩ fun b hnb => ?_
    simp only [List.mem_cons, not_or] at hnb
    exact (hb b hnb.2).trans (World.putObj_heap_other hnb.1)
theorem fsoundR {f : FuncId} {fn : Func} {c : Code} {C : Contract} {FT : Fns} (hp : P.follows .mixedOrders = true) (hT : ∀ t i, T t = some i → TIok P t i) (hG : ∀ f C, G f = some C → CSound P f C) (hFT : FnsOk P FT)
    (hf : P.funcs[f]? = some fn) (hb : fn.body = some c) (hc : codeOkR c = true) (hn : (fn.name == "runtime.NumGoroutine") = false)
    (h : ∀ args M r, C.fn args M = some r → (∀ p ∈ r.vc, p ()) → WfVs args → (nodupK M → WfM M) →
      rwp T G FT M.length c (fun e s => fend T M.length fn.results.toList r.val (mapply M r.objs) e s) ⟨finit fn.ntmps args, M, M.length⟩) (hn0 : ∀ args M, C.nfn args M = none := by intros; rfl) : CSound P f C := by
  refine ⟨fun args M r hr hvc => ?_, fun args M r hr => by rw [hn0] at hr; cases hr⟩
  intro w I σ vs hok hfree hargs o a K Q hK
  have hrun : (callFunc f vs.toArray).run P w = .ok (.enter f vs.toArray) w := by
    simp only [callFunc, Sem.run_bind, run_program, Result.andThen_ok, hf, hn, hb, Option.isNone_some, Bool.false_eq_true, if_false, Sem.run_pure]
  rw [hrun]
  show Calls P f vs.toArray w _
  refine (callsIn_wide (n := 0)).1 ?_
  refine callsIn_of_wp_marks (F := FW none) hf hb (FW_fn none _) ?_
  obtain ⟨f1, f2⟩ := finit_ok fn.ntmps hargs
  have hst : St [] w I σ M (finit fn.ntmps args) M M.length { tmps := vs.toArray ++ Array.replicate (fn.ntmps - vs.toArray.size) undef, defers := [] } w I σ :=
    ⟨f1, f2, hok, hfree, Ext.refl hok, rfl⟩
  refine rwp_ok hfree hp hT hG hFT c hc _ _ _ [] _ _ I σ (h args M r hr hvc hargs.wf fun hd => hok.wfM M (fun _ _ h => h) hd) hst ⟨[], rfl, List.nodup_nil, fun _ h => by cases h⟩ fun e s' ds' a' w' I' σ' hq hst' hk' => ?_
  have done : (match resVs T s'.M s'.env fn.results.toList with
    | none => False
    | some vs => fit M.length ⟨[oneOr vs], s'.M, s'.nx⟩ ⟨[r.val], mapply M r.objs, M.length + 8⟩) → LeavesInM (FW none) 0 P fn a'.tmps (fun
      | .returned v, w'' => K (a.put o.dst v) w''
      | .panicked chain, w'' => Q (.panic chain) a w''
      | .outgrown, _ => LetsOut Q) a'.defers .returning w' := by
    intro hq
    obtain ⟨Ds, e1, e2, e3⟩ := hk'
    rw [hst'.def0, e1]
    refine marks_leave Ds w' hst'.ok e2 (fun D hD => (e3 D hD).2) fun w'' hs hbl => ?_
    have hst2 : St ds' w I σ M s'.env s'.M s'.nx a' w'' I' σ' := hs.st hst' fun b hb => hbl b fun hm => by have := (e3 b hm).1; omega
    have hst2 : St [] w I σ M s'.env s'.M s'.nx { a' with defers := [] } w'' I' σ' := ⟨hst2.envr, hst2.len, hst2.ok, hst2.free, hst2.ext, rfl⟩
    split at hq
    · exact hq.elim
    · rename_i vs' hvs
      obtain ⟨us, g2, g1⟩ := resVs_ok (P := P) (a := a') hT hst2.ok hst2.envr _ _ hvs
      have hus := g2.length
      obtain ⟨v, g3, g4⟩ : ∃ v, (results fn a'.tmps).run P w'' = .ok v w'' ∧ VR w'' I' σ' (oneOr vs') v := by
        refine ⟨if h : us.toArray.size = 1 then us.toArray[0] else .tuple us.toArray, ?_, ?_⟩
        · simp only [results, Sem.run_bind, Array.mapM_eq_mapM_toList, Sem.run_map]
          rw [g1 _ (fun _ => rfl) (fun _ _ => rfl)]
          rfl
        · cases vs' with
          | nil =>
            cases us with
            | nil => simp only [oneOr, VR]; exact ⟨#[], by simp, by simp only [VRs]⟩
            | cons u us => simp at hus
          | cons v vs' =>
            cases vs' with
            | nil =>
              simp only [VRs] at g2
              obtain ⟨u, us', rfl, h1, rfl⟩ := g2
              simpa [oneOr] using h1
            | cons v2 vs' =>
              have hne : ¬ us.toArray.size = 1 := by simp; simp at hus; omega
              rw [dif_neg hne]
              simp only [oneOr, VR]
              exact ⟨us.toArray, rfl, g2⟩
      refine ⟨v, g3, ?_⟩
      have hst3 : St [] w I σ M [oneOr vs'] s'.M s'.nx { tmps := #[v], defers := [] } w'' I' σ' := by
        refine ⟨fun t => ?_, by simp, hst2.ok, hst2.free, hst2.ext, rfl⟩
        cases t with
        | zero => exact g4
        | succ t => simp only [lget, VR]
      obtain ⟨J, τ, hf3⟩ := fit_ok (s := ⟨[oneOr vs'], s'.M, s'.nx⟩) hfree hst3 hq
      exact hK v w'' ⟨J, τ, hf3.envr 0, hf3.ok, hf3.ext⟩
  cases e with
  | normal => exact done hq
  | ret => exact done hq
  | exit id => exact hq.elim
end
end Go.Am
/- frame's reader: to, next; All and Split keep their contracts. -/
namespace Go.Am
set_option linter.all false
set_option linter.deprecated false
open Go.Proofs
set_option maxRecDepth 100000
set_option maxHeartbeats 4000000
theorem fgetG_fit {x : List (List D)} {a : Int} {g : Nat × Int × Int} (h0 : 0 ≤ a) (hf : g.2.2 = 0 → 0 ≤ a + 1 ∧ a + 1 < g.2.1 ∧ g.2.1 ≤ (x.length : Int) ∧ g.1 < 18446744073709551616) (h : (fgetG x a g).r = 0) :
    0 ≤ a ∧ a + 6 ≤ (fgetG x a g).n ∧ (fgetG x a g).n ≤ (x.length : Int) ∧ (fgetG x a g).p.length ≤ x.length := by
  by_cases h1 : g.2.2 = 10
  · simp only [fgetG, if_pos h1] at h
    exact absurd h (by decide)
  · by_cases h2 : g.2.2 = 0 ∧ 4 ≤ (x.length : Int) - g.2.1 ∧ (g.1 : Int) ≤ (x.length : Int) - g.2.1 - 4
    · by_cases h3 : bn (ckR ((x.drop a.toNat).take ((g.2.1 + g.1).toNat - a.toNat))) = bn ((x.drop (g.2.1 + g.1).toNat).take 4)
      · simp only [fgetG, if_neg h1, if_pos h2, if_pos h3]
        clear h3 h
        have hf := hf h2.1
        obtain ⟨q1, q2, q3, q4⟩ := hf
        obtain ⟨r1, r2, r3⟩ := h2
        refine ⟨h0, by omega, by omega, ?_⟩
        rw [List.length_take, List.length_drop]; omega
      · simp only [fgetG, if_neg h1, if_pos h2, if_neg h3] at h
        exact absurd h (by decide)
    · simp only [fgetG, if_neg h1, if_neg h2] at h
      exact absurd h (by decide)
theorem fgetR_fit {x : List (List D)} {a : Int} (h : (fgetR x a).r = 0) : 0 ≤ a ∧ a + 6 ≤ (fgetR x a).n ∧ (fgetR x a).n ≤ (x.length : Int) ∧ (fgetR x a).p.length ≤ x.length := by
  by_cases h1 : a < 0 ∨ (x.length : Int) ≤ a
  · simp only [fgetR, if_pos h1] at h
    exact absurd h (by decide)
  · simp only [fgetR, if_neg h1] at h ⊢
    refine fgetG_fit (by clear h; omega) (fun he => ?_) h
    have hf := @getS_fit (bn x) (a + 1) he
    rw [show (bn x).length = x.length by simp] at hf
    exact hf
theorem fgetG_bad {x : List (List D)} {a : Int} {g : Nat × Int × Int} (h : ¬ (fgetG x a g).r = 0) : fgetG x a g = ⟨0, [], 0, (fgetG x a g).r⟩ := by
  by_cases h1 : g.2.2 = 10
  · simp only [fgetG, if_pos h1]
  · by_cases h2 : g.2.2 = 0 ∧ 4 ≤ (x.length : Int) - g.2.1 ∧ (g.1 : Int) ≤ (x.length : Int) - g.2.1 - 4
    · by_cases h3 : bn (ckR ((x.drop a.toNat).take ((g.2.1 + g.1).toNat - a.toNat))) = bn ((x.drop (g.2.1 + g.1).toNat).take 4)
      · simp only [fgetG, if_neg h1, if_pos h2, if_pos h3] at h
        exact absurd trivial h
      · simp only [fgetG, if_neg h1, if_pos h2, if_neg h3]
    · simp only [fgetG, if_neg h1, if_neg h2]
theorem fgetR_bad {x : List (List D)} {a : Int} (h : ¬ (fgetR x a).r = 0) : fgetR x a = ⟨0, [], 0, (fgetR x a).r⟩ := by
  by_cases h1 : a < 0 ∨ (x.length : Int) ≤ a
  · simp only [fgetR, if_pos h1]
  · simp only [fgetR, if_neg h1] at h ⊢
    exact fgetG_bad h
def ftoC : Contract := { modes := [.mut, .ro], fn := fun args M => match args, M with
  | [.mp 0 0, .int .i64 v], [(0, .obj [.int .i64 _, .ms 1 lo len]), (1, .row false [.int .u8] _)] => some ⟨[], .tup [], [(0, some (.obj [.int .i64 v, .ms 1 lo len]))]⟩
  | _, _ => none }
theorem fto_ok : CSound Try.prog 90 ftoC := by
  refine fsound' (G := G0) (c := codeOf Try.f90) mixed tyT (gget_nil _) Try.func90 (by rfl) (by kernel_rfl) (by kernel_rfl) fun args M r hr hvc hw hm => ?_
  unfold ftoC at hr
  simp only at hr
  split at hr <;> cases hr
  rename_i v a lo len xs
  clear hvc hm hw
  conv => cbv
  simp [Hold.iff]
def fnextC : Contract := { modes := [.mut], fn := fun args M => match args, M with
  | [.mp 0 0], [(0, .obj [.int .i64 a, .ms 1 lo len]), (1, .row false [.int .u8] xs)] => some ⟨[fun _ => lo () = 0 ∧ len () = (xs ()).length ∧ (xs ()).length + 64 ≤ big],
      .tup [.agg [.int .u8 fun _ => (fgetR (xs ()) (a ())).k, .ms 2 (fun _ => 0) fun _ => (fgetR (xs ()) (a ())).p.length, .int .i64 a, .int .i64 fun _ => (fgetR (xs ()) (a ())).n], .int .i64 fun _ => (fgetR (xs ()) (a ())).r],
      [(0, some (.obj [.int .i64 fun _ => (fgetR (xs ()) (a ())).n, .ms 1 lo len])), (2, some (.row false U8 fun _ => (fgetR (xs ()) (a ())).p))]⟩
  | _, _ => none }
def LGfn : List (Nat × Contract) := [(60, fgetC), (90, ftoC)]
def Gfn : Ctx := fun f => gget LGfn f
theorem Gfn_ok : ∀ f C, Gfn f = some C → CSound Try.prog f C := gget_cons fget_ok (gget_cons fto_ok (gget_nil _))
theorem fnext_ok : CSound Try.prog 86 fnextC := by
  refine fsound' (G := Gfn) (c := codeOf Try.f86) mixed tyT Gfn_ok Try.func86 (by rfl) (by kernel_rfl) (by kernel_rfl) fun args M r hr hvc hw hm => ?_
  unfold fnextC at hr
  simp only at hr
  split at hr <;> cases hr
  rename_i a lo len x
  have hb : lo () = 0 ∧ len () = (x ()).length ∧ (x ()).length + 64 ≤ big := hvc _ (List.mem_singleton.2 rfl)
  clear hvc hm hw
  have hx : lo = fun _ => lo () := rfl
  generalize lo () = lo at hx hb
  subst hx
  have hx : len = fun _ => len () := rfl
  generalize len () = len at hx hb
  subst hx
  have hx : x = fun _ => x () := rfl
  generalize x () = x at hx hb
  subst hx
  have hx : a = fun _ => a () := rfl
  generalize a () = a at hx
  subst hx
  have h1 := hb.1
  have h2 := hb.2.1
  have hb := hb.2.2
  subst h1 h2
  have ht : List.take x.length (List.drop 0 x) = x := by simp
  conv => cbv
  rw [ht]
  generalize fgetR x a = f
  simp [Hold.iff, hb]
def fallC : Contract := { modes := [.ro], fn := fun args M => match args, M with
  | [.nils], [] => some ⟨[], .fn 85 [.mp 0 0], [(0, some (.obj [.ms 1 (fun _ => 0) fun _ => 0])), (1, some (.row false U8 fun _ => []))]⟩
  | [.sl _ [.int .u8] xs], [] => some ⟨[fun _ => (xs ()).length ≤ big], .fn 85 [.mp 0 0], [(0, some (.obj [.ms 1 (fun _ => 0) fun _ => (xs ()).length])), (1, some (.row false U8 xs))]⟩
  | _, _ => none }
def LGfa : List (Nat × Contract) := [(80, cloneC)]
def Gfa : Ctx := fun f => gget LGfa f
theorem Gfa_ok : ∀ f C, Gfa f = some C → CSound Try.prog f C := gget_cons sclone_ok (gget_nil _)
theorem fall_ok : CSound Try.prog 59 fallC := by
  refine fsound' (G := Gfa) (c := codeOf Try.f59) mixed tyT Gfa_ok Try.func59 (by rfl) (by kernel_rfl) (by kernel_rfl) fun args M r hr hvc hw hm => ?_
  unfold fallC at hr
  simp only at hr
  split at hr <;> cases hr
  · clear hvc hm hw
    conv => cbv
    simp [Hold.iff]
  · rename_i nn x
    have hb : (x ()).length ≤ big := hvc _ (List.mem_singleton.2 rfl)
    clear hvc hm hw
    conv => cbv
    refine ⟨⟨hb⟩, ?_⟩
    simp [Hold.iff]
end Go.Am
/- frame.Split keeps its contract. -/
namespace Go.Am
set_option linter.all false
set_option linter.deprecated false
open Go.Proofs
set_option maxRecDepth 100000
set_option maxHeartbeats 4000000
abbrev PlS : List Sh := [.int .u8, .slice [.int .u8], .int .i64, .int .i64]
def plc (f : FG) (a : Int) : List D := [D.int f.k, D.list f.p, D.int a, D.int f.n]
/-- the frames from a place on -/
def fspl (x : List (List D)) : Nat → Int → List (List D) → List (List D) × Int × Int
  | 0, a, o => (o, a, 0)
  | f + 1, a, o => if a < (x.length : Int) then (if (fgetR x a).r = 0 then fspl x f (fgetR x a).n (o ++ [plc (fgetR x a) a]) else (o, a, (fgetR x a).r)) else (o, (x.length : Int), 0)
def fspR (x : List (List D)) : List (List D) × Int × Int := fspl x (x.length + 1) 0 []
structure SpY (x : List (List D)) where
  f : Nat
  a : Int
  o : List (List D)
  h0 : 0 ≤ a
  h1 : a ≤ (x.length : Int)
  hf : (x.length : Int) - a < (f : Int)
  ho : (o.length : Int) ≤ a
  e : fspl x f a o = fspR x
theorem SpY.next {x : List (List D)} (s : SpY x) (h : s.a < (x.length : Int)) (hr : (fgetR x s.a).r = 0) : ∃ s' : SpY x, s'.a = (fgetR x s.a).n ∧ s'.o = s.o ++ [plc (fgetR x s.a) s.a] ∧ s'.f < s.f := by
  have hg := fgetR_fit hr
  obtain ⟨f, a, o, h0, h1, hf, ho, e⟩ := s
  simp only at h hr hg ⊢
  cases f with
  | zero => exact absurd hf (by omega)
  | succ f =>
    rw [fspl, if_pos h, if_pos hr] at e
    exact ⟨⟨f, _, _, by omega, hg.2.2.1, by omega, by simp only [List.length_append, List.length_singleton]; omega, e⟩, rfl, rfl, Nat.lt_succ_self f⟩
theorem SpY.bad {x : List (List D)} (s : SpY x) (h : s.a < (x.length : Int)) (hr : ¬ (fgetR x s.a).r = 0) : fspR x = (s.o, s.a, (fgetR x s.a).r) := by
  obtain ⟨f, a, o, h0, h1, hf, ho, e⟩ := s
  simp only at h hr ⊢
  cases f with
  | zero => exact absurd hf (by omega)
  | succ f =>
    rw [fspl, if_pos h, if_neg hr] at e
    exact e.symm
theorem SpY.done {x : List (List D)} (s : SpY x) (h : ¬ s.a < (x.length : Int)) : fspR x = (s.o, (x.length : Int), 0) := by
  obtain ⟨f, a, o, h0, h1, hf, ho, e⟩ := s
  simp only at h ⊢
  cases f with
  | zero => exact absurd hf (by omega)
  | succ f =>
    rw [fspl, if_neg h] at e
    exact e.symm
def fsplitC : Contract := { modes := [.ro], fn := fun args M => match args, M with
  | [.sl _ [.int .u8] xs], [] => some ⟨[fun _ => (xs ()).length + 64 ≤ big],
      .tup [.ms 0 (fun _ => 0) fun _ => (fspR (xs ())).1.length, .int .i64 fun _ => (fspR (xs ())).2.1, .int .i64 fun _ => (fspR (xs ())).2.2],
      [(0, some (.row false PlS fun _ => (fspR (xs ())).1))]⟩
  | _, _ => none }
noncomputable def FTf : Fns := fun g => match Nat.beq g 85 with | true => some (codeOf Try.f85, 34) | false => none
theorem FTf_ok : FnsOk Try.prog FTf := by
  intro g c n h
  unfold FTf at h
  split at h <;> (try (cases h; done))
  rename_i hg
  have hg := Nat.eq_of_beq_eq_true hg
  subst hg
  cases h
  exact ⟨⟨Try.f85, Try.func85, by rfl, by kernel_rfl, by kernel_rfl, by kernel_rfl⟩, by kernel_rfl⟩
def LGfz : List (Nat × Contract) := [(59, fallC), (86, fnextC)]
def Gfz : Ctx := fun f => gget LGfz f
theorem Gfz_ok : ∀ f C, Gfz f = some C → CSound Try.prog f C := gget_cons fall_ok (gget_cons fnext_ok (gget_nil _))
theorem fsplit_ok : CSound Try.prog 63 fsplitC := by
  refine fsoundR (G := Gfz) (FT := FTf) (c := codeOf Try.f63) mixed tyT Gfz_ok FTf_ok Try.func63 (by rfl) (by kernel_rfl) (by kernel_rfl) fun args M r hr hvc hw hm => ?_
  unfold fsplitC at hr
  simp only at hr
  split at hr <;> cases hr
  rename_i nn x
  have hb : (x ()).length + 64 ≤ big := hvc _ (List.mem_singleton.2 rfl)
  clear hvc hm hw
  have hx : x = fun _ => x () := rfl
  generalize x () = x at hx hb
  subst hx
  have v1 : x.length ≤ big := by omega
  conv => cbv
  refine ⟨⟨v1⟩, ?_⟩
  intro l
  have hl : Nat.beq l l = true := Nat.beq_refl l
  conv at hl => lhs; cbv
  conv => cbv
  refine YLoopP.mk (SpY x) (fun s => ⟨ev 34 [(0, .yl l), (1, .mp 32 0), (3, .mp 42 0)],
    [(0, .obj [.ms 41 (fun _ => 0) fun _ => s.o.length]), (8, .obj [.int .i64 fun _ => 0]), (16, .obj [.int .i64 fun _ => 0]), (32, .obj [.ms 33 (fun _ => 0) fun _ => x.length]), (33, .row false U8 fun _ => x), (41, .row false PlS fun _ => s.o), (42, .obj [.int .i64 fun _ => s.a, .ms 33 (fun _ => 0) fun _ => x.length])], 48⟩) (fun s => s.f) ⟨x.length + 1, 0, [], by omega, by omega, by omega, by simp, rfl⟩ rfl ?_ ?_
  · conv => cbv
    rw [hl]
    conv => cbv
    simp [Hold.iff]
  · intro s
    have hs1 := s.h1
    have hs0 := s.h0
    have hso := s.ho
    conv => cbv
    refine .d (fun h => ?_) (fun h => ?_)
    · conv => cbv
      rw [hl]
      conv => cbv
      refine ⟨⟨(by simp [hb])⟩, ?_⟩
      by_cases hr : (fgetR x s.a).r = 0
      · refine .ofF (by simp [hr]) ?_
        have hf := fgetR_fit hr
        have hn := (s.next h hr).choose_spec
        generalize (s.next h hr).choose = y at hn
        have hna := hn.1
        have hno := hn.2.1
        conv => cbv
        refine ⟨⟨(by simp)⟩, ?_⟩
        refine ⟨⟨(by simp)⟩, ?_⟩
        refine ⟨⟨(by simp)⟩, ?_⟩
        refine ⟨⟨(by simp; omega)⟩, ?_⟩
        refine ⟨⟨(by simp [chunk])⟩, ?_⟩
        refine .ofF rfl ?_
        conv => cbv
        refine .ofF (by simp [hr]) ?_
        conv => cbv
        refine ⟨y, hn.2.2, ?_⟩
        conv => cbv
        rw [hl]
        conv => cbv
        rw [hna, hno]
        simp [Hold.iff, chunk, plc, dall]
      · refine .ofT (by simp [hr]) ?_
        have hn := s.bad h hr
        have hn2 := fgetR_bad hr
        conv => cbv
        refine .ofT rfl ?_
        conv => cbv
        refine .ofT rfl ?_
        conv => cbv
        rw [hn]
        simp [Hold.iff]
    · have hn := s.done h
      conv => cbv
      rw [hn]
      simp [Hold.iff]
end Go.Am
/- alibilaw03.works keeps its contract: it returns true. -/
namespace Go.Am
set_option linter.all false
set_option linter.deprecated false
open Go.Proofs
set_option maxRecDepth 100000
set_option maxHeartbeats 4000000
def fgetC' : Contract := { modes := [.ro, .ro], fn := fun args M => match args, M with
  | [.nils, .int .i64 a], [] => some ⟨[],
      .tup [.agg [.int .u8 fun _ => (fgetR [] (a ())).k, .ms 0 (fun _ => 0) fun _ => (fgetR [] (a ())).p.length], .int .i64 fun _ => (fgetR [] (a ())).n, .int .i64 fun _ => (fgetR [] (a ())).r],
      [(0, some (.row false U8 fun _ => (fgetR [] (a ())).p))]⟩
  | [.sl _ [.int .u8] xs, .int .i64 a], [] => some ⟨[fun _ => (xs ()).length + 64 ≤ big],
      .tup [.agg [.int .u8 fun _ => (fgetR (xs ()) (a ())).k, .ms 0 (fun _ => 0) fun _ => (fgetR (xs ()) (a ())).p.length], .int .i64 fun _ => (fgetR (xs ()) (a ())).n, .int .i64 fun _ => (fgetR (xs ()) (a ())).r],
      [(0, some (.row false U8 fun _ => (fgetR (xs ()) (a ())).p))]⟩
  | _, _ => none }
theorem fget_ok' : CSound Try.prog 60 fgetC' := by
  have h := fget_ok
  have h2 : CSound Try.prog 60 { fgetC with modes := [.ro, .ro] } := ⟨h.det, h.nd⟩
  refine csound_weak h2 fun args M r hr hvc hw => ?_
  unfold fgetC' at hr
  simp only at hr
  split at hr <;> cases hr
  · rename_i a
    refine ⟨[.sl false U8 fun _ => [], .int .i64 a], _, rfl, by simp [big], rfl, rfl, fun w I σ vs h => ?_⟩
    simp only [VRs] at h ⊢
    obtain ⟨u2, us2, rfl, h2, u3, us3, rfl, h3, rfl⟩ := h
    exact ⟨u2, _, rfl, nils_sl (by decide) h2, u3, _, rfl, h3, rfl⟩
  · exact ⟨_, _, rfl, hvc, rfl, rfl, fun w I σ vs h => h⟩
def LGwf : List (Nat × Contract) := [(60, fgetC'), (63, fsplitC), (68, fsizeC), (70, fputC)]
def Gwf : Ctx := fun f => gget LGwf f
theorem Gwf_ok : ∀ f C, Gwf f = some C → CSound Try.prog f C := gget_cons fget_ok' (gget_cons fsplit_ok (gget_cons fsize_ok (gget_cons fput_ok (gget_nil _))))
theorem works3_ok : CSound Try.prog 57 trueC := by
  refine fsound' (G := Gwf) (c := codeOf Try.f57) mixed tyT Gwf_ok Try.func57 (by rfl) (by kernel_rfl) (by kernel_rfl) fun args M r hr hvc hw hm => ?_
  unfold trueC at hr
  simp only at hr
  split at hr <;> cases hr
  clear hvc hm hw
  conv => cbv
  repeat (first | refine ⟨⟨by decide +kernel⟩, ?_⟩ | (refine .ofT (by decide +kernel) ?_; conv => cbv) | (refine .ofF (by decide +kernel) ?_; conv => cbv))
  exact ⟨by decide +kernel⟩
end Go.Am
/- FramePuts keeps its contract: it returns true. -/
namespace Go.Am
set_option linter.all false
set_option linter.deprecated false
open Go.Proofs
set_option maxRecDepth 100000
set_option maxHeartbeats 4000000
theorem WfR.pay {x : List (List D)} (h : WfR FrS x) {i : Nat} (hi : i < x.length) : WfR U8 (lk (lk x i) 1).toList := by
  have h1 := h.2 i hi
  simp only [WfDs, WfD, and_true] at h1
  exact ⟨h1.2.1, fun j hj => by simp only [WfDs, WfD, and_true]; exact h1.2.2 j hj⟩
theorem few_pay {x : List (List D)} (h : fewF x = true) {i : Nat} (hi : i < x.length) : (lk (lk x i) 1).toList.length ≤ 200 ∧ x.length ≤ 12 := by
  simp only [fewF, Bool.and_eq_true, decide_eq_true_eq, List.all_eq_true] at h
  have e : lk x i = (x.take 13)[i]'(by simp; omega) := by simp [lk, List.getD, hi]
  have h1 := h.1 (lk x i) (by rw [e]; exact List.getElem_mem _)
  exact ⟨by simpa [fewOkF] using h1, h.2⟩
def frK (x : List (List D)) (i : Nat) : Int := (lk (lk x i) 0).toInt
def frP (x : List (List D)) (i : Nat) : List (List D) := (lk (lk x i) 1).toList
def frS (x : List (List D)) (i : Nat) : List UInt8 := ofRow (frP x i)
/-- the reference's bytes of the first frames -/
def frT (x : List (List D)) : Nat → List (List D)
  | 0 => []
  | i + 1 => frT x i ++ frR (frK x i) (sRow (frS x i))
def frV (x : List (List D)) : Nat → List (List D)
  | 0 => []
  | i + 1 => frV x i ++ [[D.int (frK x i), D.str (frS x i)]]
@[simp] theorem frV_len (x : List (List D)) (i : Nat) : (frV x i).length = i := by
  induction i with
  | zero => rfl
  | succ i ih => simp [frV, ih]
theorem frV_at (x : List (List D)) {i n : Nat} (h : i < n) : lk (frV x n) i = [D.int (frK x i), D.str (frS x i)] := by
  induction n with
  | zero => omega
  | succ n ih =>
    rw [frV]
    by_cases e : i < n
    · rw [← ih e]; simp [lk, List.getD, List.getElem?_append_left, e]
    · have : i = n := by omega
      subst this
      simp [lk, List.getD, List.getElem?_append_right]
theorem bn_app (a b : List (List D)) : bn (a ++ b) = bn a ++ bn b := by simp [bn]
theorem bn_frR {p q : List (List D)} (k : Int) (h : bn p = bn q) : bn (frR k p) = bn (frR k q) := by
  have hl := len_bn h
  have e : bn (frH k p) = bn (frH k q) := by simp only [frH, bn_app, h, hl]
  simp only [frR, bn_app, e, ckR]
theorem bn_frT {x : List (List D)} (hx : WfR FrS x) {i : Nat} (h : i ≤ x.length) : bn (frT x i) = bn (frRs (x.take i)) := by
  induction i with
  | zero => simp [frT, frRs]
  | succ i ih =>
    rw [frT, frRs_next (by omega), bn_app, bn_app, ih (by omega)]
    congr 1
    exact bn_frR _ (bn_ofRow (hx.pay (by omega)))
theorem frT_len {x : List (List D)} (hf : fewF x = true) {i : Nat} (h : i ≤ x.length) : (frT x i).length ≤ 215 * i := by
  induction i with
  | zero => simp [frT]
  | succ i ih =>
    have h1 := few_pay hf (i := i) (by omega)
    have h2 := ih (by omega)
    have h3 := put1_len 9 (frP x i).length
    rw [← putB] at h3
    have h4 : (frP x i).length ≤ 200 := h1.1
    rw [frT, List.length_append, frR_len, sRow_len, frS, ofRow_len]
    omega
theorem frRs_len {x : List (List D)} (hx : WfR FrS x) (hf : fewF x = true) : (frRs x).length ≤ 2580 := by
  have h := congrArg List.length (bn_frT hx (i := x.length) (Nat.le_refl _))
  have h2 := frT_len hf (i := x.length) (Nat.le_refl _)
  have h3 : x.length ≤ 12 := by simp only [fewF, Bool.and_eq_true, decide_eq_true_eq] at hf; exact hf.2
  rw [List.take_length] at h
  simp only [bn_len] at h
  omega
def fputsC : Contract := { modes := [.ro, .ro], fn := fun args M => match args, M with
  | [.sl _ [.int .u8, .slice [.int .u8]] _, .agg [.int .u8 _, .sl _ [.int .u8] _]], [] => some ⟨[], .bool (fun _ => true), []⟩
  | _, _ => none }
def LGfp2 : List (Nat × Contract) := [(22, sameC), (25, spoilC), (57, trueC), (62, fconvC), (66, ffewC), (67, frputC), (68, fsizeC), (69, fsameC), (70, fputC)]
def Gfp2 : Ctx := fun f => gget LGfp2 f
theorem Gfp2_ok : ∀ f C, Gfp2 f = some C → CSound Try.prog f C := gget_cons same_ok (gget_cons spoil_ok (gget_cons works3_ok (gget_cons fconv_ok (gget_cons ffew_ok (gget_cons frput_ok (gget_cons fsize_ok (gget_cons fsame_ok (gget_cons fput_ok (gget_nil _)))))))))
theorem fputs_ok : CSound Try.prog 15 fputsC := by
  refine fsound' (G := Gfp2) (c := codeOf Try.f15) mixed tyT Gfp2_ok Try.func15 (by rfl) (by kernel_rfl) (by kernel_rfl) fun args M r hr hvc hw hm => ?_
  unfold fputsC at hr
  simp only at hr
  split at hr <;> cases hr
  rename_i n1 x k n2 p
  clear hvc hm
  have hx : x = fun _ => x () := rfl
  generalize x () = x at hx
  subst hx
  have hx : p = fun _ => p () := rfl
  generalize p () = p at hx
  subst hx
  have hx : k = fun _ => k () := rfl
  generalize k () = k at hx
  subst hx
  simp only [WfVs, WfV, and_true] at hw

  conv => cbv
  by_cases hf : fewF x = true
  · refine .ofF (by simp [hf]) ?_
    conv => cbv
    refine .d (fun h => ?_) (fun h => ?_)
    · conv => cbv
      exact ⟨rfl⟩
    · refine LoopP.mk {i : Nat // i ≤ x.length} (fun s => ⟨ev 98 [(0, .sl false FrS fun _ => x), (3, .mp 0 0), (4, .bool fun _ => false), (5, .ms 9 (fun _ => 0) fun _ => (frT x s.1).length), (6, .ms 10 (fun _ => 0) fun _ => s.1), (7, .int .i64 fun _ => (s.1 : Int))],
        [(0, .obj [.int .u8 fun _ => k, .sl false U8 fun _ => p]), (9, .row false U8 fun _ => frT x s.1), (10, .row false [.int .u8, .str] fun _ => frV x s.1)], 16⟩) (fun s => x.length - s.1) ⟨0, by omega⟩ ?_ ?_
      · conv => cbv
        simp [Hold.iff, frT, frV]
      · intro s
        have hi := s.2
        have hto := frT_len hf hi
        conv => cbv
        refine .d (fun h => ?_) (fun h => ?_)
        · have h : (s.1 : Int) < (x.length : Int) := h
          have h4 : s.1 < x.length := by omega
          have v1 : 0 ≤ (s.1 : Int) ∧ (s.1 : Int) < (x.length : Int) := by omega
          have hfp := few_pay hf h4
          have hfq := hfp.1
          have hfx := hfp.2
          have hwq := hw.1.pay h4
          have hnt : frT x (s.1 + 1) = frT x s.1 ++ frR (lk (lk x s.1) 0).toInt (sRow (ofRow (lk (lk x s.1) 1).toList)) := rfl
          have hnv : frV x (s.1 + 1) = frV x s.1 ++ [[D.int (lk (lk x s.1) 0).toInt, D.str (ofRow (lk (lk x s.1) 1).toList)]] := rfl
          have hc : lk x ((s.1 : Int)).toNat = lk x s.1 := by rw [Int.toNat_natCast]
          have hvl := frV_len x s.1
          have hw1 : IntKind.i64.wrap ((s.1 : Int) + 1) = ((s.1 + 1 : Nat) : Int) := by rw [wrap_i64 (by omega)]; omega
          have hn : s.1 + 1 ≤ x.length ∧ x.length - (s.1 + 1) < x.length - s.1 := by omega
          conv => cbv
          rw [hc]
          generalize hq : (lk (lk x s.1) 1).toList = q at hnt hnv hwq hfq ⊢
          generalize hkk : (lk (lk x s.1) 0).toInt = kk at hnt hnv ⊢
          generalize frT x s.1 = o at hnt hto ⊢
          generalize frV x s.1 = ov at hnv hvl ⊢
          have e3 : (frR kk (sRow (ofRow q))).length = 1 + (putB q.length).length + q.length + 4 := by rw [frR_len, sRow_len, ofRow_len]
          have hsm : (ofRow q == ofRow p) = (bn q == bn p) := bytes_eq hwq hw.2.2
          have hpl := put1_len 9 q.length
          rw [← putB] at hpl
          generalize frR kk (sRow (ofRow q)) = fr at hnt e3 ⊢
          have ho : o.length ≤ 2580 := by omega
          have htk : List.take s.1 ov = ov := List.take_of_length_le (by omega)
          have hfr : fr.length ≤ 215 := by omega
          clear hfp
          repeat (first | (refine ⟨⟨?_⟩, ?_⟩; (focus (first | exact v1 | (simp [chunk, big, hvl]; done) | (simp [chunk, big, hvl]; omega)))))
          refine .ofF (by simp [e3]) ?_
          conv => cbv
          repeat (first | (refine ⟨⟨?_⟩, ?_⟩; (focus (first | exact v1 | (simp [chunk, big, hvl]; done) | (simp [chunk, big, hvl]; omega)))))
          refine .ofF (by simp [hsm, hq, hkk]) ?_
          conv => cbv
          refine ⟨⟨s.1 + 1, hn.1⟩, hn.2, ?_⟩
          conv => cbv
          rw [hnt, hnv]
          simp [Hold.iff, chunk, dall, hw1, hvl, htk]
        · have h : ¬ (s.1 : Int) < (x.length : Int) := h
          have h4 : s.1 = x.length := by omega
          have hbb := frRs_len hw.1 hf
          have hbt := frT_len hf (i := x.length) (Nat.le_refl _)
          have hx12 : x.length ≤ 12 := by simp only [fewF, Bool.and_eq_true, decide_eq_true_eq] at hf; exact hf.2
          have hbn := bn_frT hw.1 (i := x.length) (Nat.le_refl _)
          rw [List.take_length] at hbn
          rw [h4]
          refine LoopP.mk {i : Nat // i ≤ 2} (fun s => ⟨ev 98 [(0, .sl false FrS fun _ => x), (3, .mp 0 0), (4, .bool fun _ => false), (5, .ms 9 (fun _ => 0) fun _ => (frT x x.length).length), (6, .ms 10 (fun _ => 0) fun _ => x.length), (10, .int .i64 fun _ => (s.1 : Int))],
            [(0, .obj [.int .u8 fun _ => k, .sl false U8 fun _ => p]), (9, .row false U8 fun _ => frT x x.length), (10, .row false [.int .u8, .str] fun _ => frV x x.length)], 16⟩) (fun s => 2 - s.1) ⟨0, by omega⟩ ?_ ?_
          · conv => cbv
            simp [Hold.iff]
          · intro s
            have hi := s.2
            conv => cbv
            refine .d (fun h => ?_) (fun h => ?_)
            · have h : (s.1 : Int) < 2 := h
              have hw1 : IntKind.i64.wrap ((s.1 : Int) + 1) = ((s.1 + 1 : Nat) : Int) := by rw [wrap_i64 (by omega)]; omega
              have hn : s.1 + 1 ≤ 2 ∧ 2 - (s.1 + 1) < 2 - s.1 := by omega
              conv => cbv
              generalize frRs x = g at hbb hbn ⊢
              generalize frT x x.length = o at hbt hbn ⊢
              repeat (first | (refine ⟨⟨?_⟩, ?_⟩; (focus (first | (simp [chunk, big]; done) | (simp [chunk, big]; omega)))))
              refine .ofF (by simp [hbn]) ?_
              conv => cbv
              repeat (first | (refine ⟨⟨?_⟩, ?_⟩; (focus (first | (simp [chunk, big]; done) | (simp [chunk, big]; omega)))))
              refine ⟨⟨s.1 + 1, hn.1⟩, hn.2, ?_⟩
              conv => cbv
              simp [Hold.iff, hw1]
            · refine LoopP.mk {i : Nat // i ≤ x.length} (fun s => ⟨ev 98 [(0, .sl false FrS fun _ => x), (3, .mp 0 0), (4, .bool fun _ => false), (5, .ms 9 (fun _ => 0) fun _ => (frT x x.length).length), (6, .ms 10 (fun _ => 0) fun _ => x.length), (12, .int .i64 fun _ => (s.1 : Int))],
                [(0, .obj [.int .u8 fun _ => k, .sl false U8 fun _ => p]), (9, .row false U8 fun _ => frT x x.length), (10, .row false [.int .u8, .str] fun _ => frV x x.length)], 16⟩) (fun s => x.length - s.1) ⟨0, by omega⟩ ?_ ?_
              · conv => cbv
                simp [Hold.iff]
              · intro s
                have hi := s.2
                conv => cbv
                refine .d (fun h => ?_) (fun h => ?_)
                · have h : (s.1 : Int) < (x.length : Int) := h
                  have h4 : s.1 < x.length := by omega
                  have v1 : 0 ≤ (s.1 : Int) ∧ (s.1 : Int) < (x.length : Int) := by omega
                  have hw1 : IntKind.i64.wrap ((s.1 : Int) + 1) = ((s.1 + 1 : Nat) : Int) := by rw [wrap_i64 (by omega)]; omega
                  have hn : s.1 + 1 ≤ x.length ∧ x.length - (s.1 + 1) < x.length - s.1 := by omega
                  have hat := frV_at x h4
                  have hat1 : (lk (lk (frV x x.length) s.1) 0).toInt = (lk (lk x s.1) 0).toInt := by rw [hat]; rfl
                  have hat2 : (lk (lk (frV x x.length) s.1) 1).toStr = ofRow (lk (lk x s.1) 1).toList := by rw [hat]; rfl
                  conv => cbv
                  repeat (first | (refine ⟨⟨?_⟩, ?_⟩; (focus (first | exact v1 | (simp [chunk, big]; done) | (simp [chunk, big]; omega)))))
                  refine .ofF (by simp [hat1, hat2]) ?_
                  conv => cbv
                  refine ⟨⟨s.1 + 1, hn.1⟩, hn.2, ?_⟩
                  conv => cbv
                  simp [Hold.iff, hw1]
                · conv => cbv
                  refine .ofT (by simp) ?_
                  conv => cbv
                  simp [Hold.iff]
  · refine .ofT (by simp [hf]) ?_
    conv => cbv
    refine .ofT rfl ?_
    conv => cbv
    exact ⟨rfl⟩
end Go.Am
/- frames, the plain law: what was put is got; what is got is what Put makes; a short change is seen. -/
namespace Go.Am
set_option linter.all false
set_option linter.deprecated false
open Go.Proofs
set_option maxRecDepth 100000
set_option maxHeartbeats 4000000
theorem fgetR_in {x : List (List D)} {B C : List Nat} {k n : Nat} (hx : bn x = B ++ [k] ++ putB n ++ C) (hn : n < 18446744073709551616) :
    fgetR x (B.length : Int) = fgetG x (B.length : Int) (n, (B.length : Int) + 1 + (putB n).length, 0) := by
  have hl := congrArg List.length hx
  have hp := put1_len 9 n
  rw [← putB] at hp
  simp only [bn_len, List.length_append, List.length_singleton] at hl
  have e := getS_put hn (B ++ [k]) C
  rw [List.length_append, List.length_singleton] at e
  rw [fgetR, if_neg (by omega), hx]
  rw [show (B.length : Int) + 1 = ((B.length + 1 : Nat) : Int) by omega, e]
theorem fgetR_put {B C p : List (List D)} {k : Int} (hp : p.length < 4611686018427387904) :
    fgetR (B ++ frR k p ++ C) (B.length : Int) = ⟨k, p, ((B.length + (frR k p).length : Nat) : Int), 0⟩ := by
  have hl := frR_len k p
  have hh := frH_len k p
  have e := fgetR_in (x := B ++ frR k p ++ C) (B := bn B) (C := bn p ++ bn (ckR (frH k p)) ++ bn C) (k := k.toNat) (n := p.length) (by
    simp only [bn_app, frR, frH, bn_rowB, List.append_assoc]; rfl) (by omega)
  rw [bn_len] at e
  rw [e, fgetG]
  generalize hm : (putB p.length).length = m at *
  have h1 : B ++ frR k p ++ C = B ++ (frH k p ++ (ckR (frH k p) ++ C)) := by simp [frR]
  have h2 : B ++ frR k p ++ C = (B ++ [[D.int k]] ++ rowB (putB p.length)) ++ (p ++ (ckR (frH k p) ++ C)) := by simp [frR, frH]
  have a1 : ((B.length : Int) + 1 + (m : Int) + (p.length : Int)).toNat = (B ++ frH k p).length := by rw [List.length_append]; omega
  have a2 : ((B.length : Int) + 1 + (m : Int)).toNat = (B ++ [[D.int k]] ++ rowB (putB p.length)).length := by simp; omega
  have a3 : (B ++ frH k p).length - ((B.length : Int)).toNat = (frH k p).length := by rw [List.length_append]; omega
  have c1 : (List.drop (B.length : Int).toNat (B ++ frR k p ++ C)).take (frH k p).length = frH k p := by
    rw [h1, Int.toNat_natCast, List.drop_left, List.take_left]
  have c2 : (List.drop (B ++ frH k p).length (B ++ frR k p ++ C)).take 4 = ckR (frH k p) := by
    rw [h1, ← List.append_assoc, List.drop_left]
    exact List.take_left' (by simp)
  have c3 : (List.drop (B ++ [[D.int k]] ++ rowB (putB p.length)).length (B ++ frR k p ++ C)).take p.length = p := by
    rw [h2, List.drop_left, List.take_left]
  have c4 : (lk (lk (B ++ frR k p ++ C) (B.length : Int).toNat) 0).toInt = k := by
    rw [h1, Int.toNat_natCast]
    simp [lk, List.getD, frH, D.toInt]
  have hlx : (B ++ frR k p ++ C).length = B.length + (frR k p).length + C.length := by simp [Nat.add_assoc]
  rw [if_neg (show ¬ (0 : Int) = 10 by decide), if_pos (by rw [hlx]; refine ⟨rfl, ?_, ?_⟩ <;> simp only <;> omega), a1, a2, a3, c1, c2, c3, c4, if_pos rfl]
  simp only [FG.mk.injEq, true_and, and_true]
  omega
theorem frRs_cut (x : List (List D)) {i : Nat} (h : i < x.length) : frRs x = frRs (x.take i) ++ frR (frK x i) (frP x i) ++ frRs (x.drop (i + 1)) := by
  rw [frK, frP, ← frRs_next h]
  conv => lhs; rw [← List.take_append_drop (i + 1) x]
  rw [frRs, List.flatMap_append]; rfl
def plS (x : List (List D)) : Nat → List (List D)
  | 0 => []
  | i + 1 => plS x i ++ [plc ⟨frK x i, frP x i, ((frRs (x.take (i + 1))).length : Nat), 0⟩ ((frRs (x.take i)).length : Nat)]
@[simp] theorem plS_len (x : List (List D)) (i : Nat) : (plS x i).length = i := by
  induction i with
  | zero => rfl
  | succ i ih => simp [plS, ih]
theorem plS_at (x : List (List D)) {i n : Nat} (h : i < n) : lk (plS x n) i = plc ⟨frK x i, frP x i, ((frRs (x.take (i + 1))).length : Nat), 0⟩ ((frRs (x.take i)).length : Nat) := by
  induction n with
  | zero => omega
  | succ n ih =>
    rw [plS]
    by_cases e : i < n
    · rw [← ih e]; simp [lk, List.getD, List.getElem?_append_left, e]
    · have : i = n := by omega
      subst this
      simp [lk, List.getD, List.getElem?_append_right]
def payOk (l : List (List D)) : Prop := ∀ i, i < l.length → (frP l i).length < 4611686018427387904
theorem fsp_go {l : List (List D)} (hp : payOk l) (z : List (List D)) (f : Nat) : ∀ i, i ≤ l.length →
    fspl (frRs l ++ z) (f + l.length) 0 [] = fspl (frRs l ++ z) (f + (l.length - i)) ((frRs (l.take i)).length : Nat) (plS l i) := by
  intro i
  induction i with
  | zero => intro _; simp [frRs, plS]
  | succ i ih =>
    intro h
    rw [ih (by omega)]
    have hi : i < l.length := by omega
    have e : f + (l.length - i) = (f + (l.length - (i + 1))) + 1 := by omega
    have hc : frRs l ++ z = frRs (l.take i) ++ frR (frK l i) (frP l i) ++ (frRs (l.drop (i + 1)) ++ z) := by
      conv => lhs; rw [frRs_cut l hi]
      simp
    have hl := frR_len (frK l i) (frP l i)
    have hg := fgetR_put (B := frRs (l.take i)) (C := frRs (l.drop (i + 1)) ++ z) (k := frK l i) (hp i hi)
    rw [← hc] at hg
    have hn : (frRs (l.take (i + 1))).length = (frRs (l.take i)).length + (frR (frK l i) (frP l i)).length := by
      rw [frRs_next hi, List.length_append]; rfl
    have hx : (frRs l ++ z).length = (frRs (l.take i)).length + (frR (frK l i) (frP l i)).length + (frRs (l.drop (i + 1)) ++ z).length := by
      conv => lhs; rw [hc]
      simp only [List.length_append]
    rw [e, fspl, if_pos (by rw [hx]; omega), hg, if_pos rfl, plS, hn]
theorem frRs_six (l : List (List D)) : 6 * l.length ≤ (frRs l).length := by
  induction l with
  | nil => simp
  | cons c l ih =>
    have h := frR_len (lk c 0).toInt (lk c 1).toList
    have hp := put1_len 9 (lk c 1).toList.length
    rw [← putB] at hp
    rw [frRs, List.flatMap_cons, List.length_append, List.length_cons]
    rw [frRs] at ih
    omega
theorem fspR_frRs {l : List (List D)} (hp : payOk l) : fspR (frRs l) = (plS l l.length, ((frRs l).length : Int), 0) := by
  have h6 := frRs_six l
  have h := fsp_go hp [] ((frRs l).length + 1 - l.length) l.length (Nat.le_refl _)
  rw [List.append_nil, show (frRs l).length + 1 - l.length + l.length = (frRs l).length + 1 by omega] at h
  rw [fspR, h]
  have e : (frRs l).length + 1 - l.length + (l.length - l.length) = ((frRs l).length - l.length) + 1 := by omega
  rw [e, fspl, if_neg (by rw [List.take_length]; omega)]
/-- the frames of what Split told, as rows of frames -/
def unP (y : List (List D)) : List (List D) := y.map fun c => [D.int (lk c 0).toInt, D.list (lk c 1).toList]
theorem frRs_unP_snoc (o : List (List D)) (f : FG) (a : Int) : frRs (unP (o ++ [plc f a])) = frRs (unP o) ++ frR f.k f.p := by
  simp [frRs, unP, plc, lk, D.toInt, D.toList]
theorem fget_back {x : List (List D)} {a : Int} (h : (fgetR x a).r = 0) :
    bn (frR (fgetR x a).k (fgetR x a).p) = ((bn x).drop a.toNat).take ((fgetR x a).n.toNat - a.toNat) ∧ 0 ≤ a ∧ a ≤ (fgetR x a).n := by
  have hfit := fgetR_fit h
  by_cases h1 : a < 0 ∨ (x.length : Int) ≤ a
  · simp only [fgetR, if_pos h1] at h
    exact absurd h (by decide)
  have hR : fgetR x a = fgetG x a (getS (bn x) (a + 1)) := by rw [fgetR, if_neg h1]
  rw [hR] at h hfit ⊢
  have hok := @getS_ok (bn x) (a + 1)
  have hlt := getS_lt (bn x) (a + 1)
  generalize getS (bn x) (a + 1) = g at h hfit hok hlt ⊢
  by_cases h2 : g.2.2 = 10
  · simp only [fgetG, if_pos h2] at h
    exact absurd h (by decide)
  by_cases h3 : g.2.2 = 0 ∧ 4 ≤ (x.length : Int) - g.2.1 ∧ (g.1 : Int) ≤ (x.length : Int) - g.2.1 - 4
  rotate_left
  · simp only [fgetG, if_neg h2, if_neg h3] at h
    exact absurd h (by decide)
  by_cases h4 : bn (ckR ((x.drop a.toNat).take ((g.2.1 + g.1).toNat - a.toNat))) = bn ((x.drop (g.2.1 + g.1).toNat).take 4)
  rotate_left
  · simp only [fgetG, if_neg h2, if_pos h3, if_neg h4] at h
    exact absurd h (by decide)
  have hG : fgetG x a g = ⟨(lk (lk x a.toNat) 0).toInt, (x.drop g.2.1.toNat).take g.1, g.2.1 + g.1 + 4, 0⟩ := by rw [fgetG, if_neg h2, if_pos h3, if_pos h4]
  rw [hG] at hfit ⊢
  simp only at hfit ⊢
  have hok := hok h3.1
  have k0 := hok.1
  have ⟨m, hm1, hm2, hm3⟩ := hok.2
  clear hok h
  rw [bn_len] at hm1
  have ha : 0 ≤ a := hfit.1
  have ⟨A, hA⟩ := Int.eq_ofNat_of_zero_le ha
  subst hA
  have e1 : ((A : Int) + 1).toNat = A + 1 := by omega
  rw [e1] at hm1 hm3
  rw [Int.toNat_natCast] at h4 ⊢
  have e2 : (g.2.1).toNat = A + 1 + m := by omega
  have e3 : (g.2.1 + (g.1 : Int)).toNat = A + 1 + m + g.1 := by omega
  have e4 : (g.2.1 + (g.1 : Int) + 4).toNat = A + 1 + m + g.1 + 4 := by omega
  have hpl : (List.take g.1 (List.drop (A + 1 + m) x)).length = g.1 := by rw [List.length_take, List.length_drop]; omega
  rw [e3] at h4
  rw [e2, e4]
  have hH : bn (frH (lk (lk x A) 0).toInt (List.take g.1 (List.drop (A + 1 + m) x))) = bn ((x.drop A).take (A + 1 + m + g.1 - A)) := by
    have s1 : A + 1 + m + g.1 - A = 1 + (m + g.1) := by omega
    have s2 : x.drop A = lk x A :: x.drop (A + 1) := by
      have hA : A < x.length := by omega
      rw [List.drop_eq_getElem_cons hA]
      simp [lk, List.getD, hA]
    rw [frH, hpl, bn_app, bn_app, bn_rowB, hm3, s1, s2, Nat.add_comm 1, List.take_succ_cons, List.take_add]
    simp only [bn, List.map_append, List.map_cons, List.map_take, List.map_drop, List.drop_drop]
    rfl
  refine ⟨?_, by omega, by omega⟩
  have hck : ckR (frH (lk (lk x A) 0).toInt (List.take g.1 (List.drop (A + 1 + m) x))) = ckR ((x.drop A).take (A + 1 + m + g.1 - A)) := by rw [ckR, ckR, hH]
  rw [frR, bn_app, hck, h4, hH]
  have s3 : A + 1 + m + g.1 + 4 - A = (A + 1 + m + g.1 - A) + 4 := by omega
  rw [s3, List.take_add, List.drop_drop, bn_take, bn_take, bn_drop, bn_drop, show A + (A + 1 + m + g.1 - A) = A + 1 + m + g.1 by omega]
theorem fspl_back {x : List (List D)} : ∀ (f : Nat) (a : Int) (o : List (List D)), 0 ≤ a → a ≤ (x.length : Int) → (x.length : Int) - a < (f : Int) → bn (frRs (unP o)) = (bn x).take a.toNat → (fspl x f a o).2.2 = 0 → (fspl x f a o).2.1 = (x.length : Int) ∧ bn (frRs (unP (fspl x f a o).1)) = bn x
  | 0, a, o => fun _ _ h => absurd h (by omega)
  | f + 1, a, o => fun h0 h1 hf ho hr => by
    rw [fspl] at hr ⊢
    by_cases h : a < (x.length : Int)
    · rw [if_pos h] at hr ⊢
      by_cases hg : (fgetR x a).r = 0
      · rw [if_pos hg] at hr ⊢
        have hft := fgetR_fit hg
        have hb := fget_back hg
        refine fspl_back f _ _ (by omega) hft.2.2.1 (by omega) ?_ hr
        rw [frRs_unP_snoc, bn_app, ho, hb.1, ← List.take_add]
        congr 1
        omega
      · rw [if_neg hg] at hr
        exact absurd hr hg
    · rw [if_neg h]
      refine ⟨rfl, ?_⟩
      simp only
      rw [ho, List.take_of_length_le (by rw [bn_len]; omega)]
theorem fspR_back {x : List (List D)} (h : (fspR x).2.2 = 0) : (fspR x).2.1 = (x.length : Int) ∧ bn (frRs (unP (fspR x).1)) = bn x :=
  fspl_back _ _ _ (by omega) (by omega) (by omega) (by simp [unP, frRs, bn]) h
/-! a short change -/
theorem bytes_num : ∀ (n : Nat) (e : Nat → Nat), (∀ i, e i < 256) → ∃ c, c < 256 ^ n ∧ ∀ t, t < 8 * n → c.testBit t = (e (t / 8)).testBit (t % 8)
  | 0, e, _ => ⟨0, by simp, fun t ht => absurd ht (by omega)⟩
  | n + 1, e, he => by
    have ⟨c, h1, h2⟩ := bytes_num n (fun i => e (i + 1)) fun i => he (i + 1)
    refine ⟨2 ^ 8 * c + e 0, ?_, fun t ht => ?_⟩
    · have := he 0
      rw [Nat.pow_succ]
      omega
    · rw [Nat.testBit_two_pow_mul_add _ (he 0)]
      by_cases h : t < 8
      · rw [if_pos h, Nat.div_eq_of_lt h, Nat.mod_eq_of_lt h]
      · rw [if_neg h, h2 _ (by omega), show (t - 8) / 8 + 1 = t / 8 by omega, show (t - 8) % 8 = t % 8 by omega]
theorem crc_four {o b : List Nat} {q : Nat} (ho : ∀ x ∈ o, x < 256) (hb : ∀ x ∈ b, x < 256) (hl : o.length = b.length) (hq : q + 4 ≤ b.length)
    (h : ∀ j, (j < q ∨ q + 4 ≤ j) → o.getD j 0 = b.getD j 0) (he : crcs 0 o = crcs 0 b) : o = b := by
  have lo : ∀ (l : List Nat), (∀ x ∈ l, x < 256) → ∀ i, l.getD i 0 < 256 := fun l hl i => by
    by_cases h : i < l.length
    · simp only [List.getD, List.getElem?_eq_getElem h, Option.getD_some]; exact hl _ (List.getElem_mem h)
    · simp only [List.getD, List.getElem?_eq_none (Nat.le_of_not_lt h), Option.getD_none]; omega
  have ⟨c, hc, ht⟩ := bytes_num 4 (fun i => o.getD (q + i) 0 ^^^ b.getD (q + i) 0) fun i => Nat.xor_lt_two_pow (n := 8) (lo o ho _) (lo b hb _)
  have hf := (crc_finds (o := o) (b := b) (a := 8 * q) (c := c) ho hb hl (by omega) fun p hp => by
    by_cases hp2 : 8 * q ≤ p ∧ p < 8 * q + 32
    · rw [decide_eq_true hp2, Bool.true_and, ht _ (by omega), show q + (p - 8 * q) / 8 = p / 8 by omega, show (p - 8 * q) % 8 = p % 8 by omega, Nat.testBit_xor]
      rw [← Bool.xor_assoc, Bool.xor_comm ((b.getD (p / 8) 0).testBit (p % 8)), Bool.xor_assoc, Bool.xor_self, Bool.xor_false]
    · rw [decide_eq_false hp2, Bool.false_and, Bool.xor_false, h (p / 8) (by omega)]).1 he
  rw [show min 32 (8 * b.length - 8 * q) = 32 by omega, Nat.mod_eq_of_lt (by rw [show (2 : Nat) ^ 32 = 256 ^ 4 by decide]; exact hc)] at hf
  subst hf
  apply List.ext_getElem hl
  intro j hj hj2
  have hz : o.getD j 0 = b.getD j 0 := by
    by_cases hjq : j < q ∨ q + 4 ≤ j
    · exact h j hjq
    · have hx : o.getD j 0 ^^^ b.getD j 0 = 0 := by
        apply Nat.eq_of_testBit_eq
        intro t
        rw [Nat.zero_testBit]
        by_cases h8 : t < 8
        · have := ht (8 * (j - q) + t) (by omega)
          rw [Nat.zero_testBit, show (8 * (j - q) + t) / 8 = j - q by omega, show (8 * (j - q) + t) % 8 = t by omega, show q + (j - q) = j by omega] at this
          exact this.symm
        · exact Nat.testBit_lt_two_pow (Nat.lt_of_lt_of_le (Nat.xor_lt_two_pow (n := 8) (lo o ho _) (lo b hb _)) (Nat.pow_le_pow_right (by decide) (by omega)))
      have e : o.getD j 0 = (o.getD j 0 ^^^ b.getD j 0) ^^^ b.getD j 0 := by rw [Nat.xor_assoc, Nat.xor_self, Nat.xor_zero]
      rw [e, hx, Nat.zero_xor]
  simpa [List.getD, hj, hj2] using hz
end Go.Am
/- frames: up to four bytes that are other ones, in a frame behind its length: it is refused. -/
namespace Go.Am
set_option linter.all false
set_option linter.deprecated false
open Go.Proofs
set_option maxRecDepth 100000
set_option maxHeartbeats 4000000
structure FbI (x : List (List D)) (q e : Nat) (Y : Nat → Nat) where
  i : Nat
  o : List (List D)
  c : Bool
  hi : i ≤ 4
  hl : o.length = x.length
  ho : WfR U8 o
  h : ∀ j, (bn o).getD j 0 = if q ≤ j ∧ j < q + i then (bn x).getD j 0 ^^^ Y (j - q) else (bn x).getD j 0
  hs : ∀ j, j < q → o[j]? = x[j]?
  hc : c = true ↔ ∃ m, m < i ∧ Y m ≠ 0
  hb : i = 0 ∨ q + i ≤ e
theorem FbI.next {x : List (List D)} {q e : Nat} {Y : Nat → Nat} (hY : ∀ m, Y m < 256) (he : e ≤ x.length) (s : FbI x q e Y) (h1 : s.i < 4) (h2 : q + s.i < e) :
    ∃ s' : FbI x q e Y, s'.i = s.i + 1 ∧ s'.o = s.o.set (q + s.i) [D.int (((bn s.o).getD (q + s.i) 0 ^^^ Y s.i : Nat) : Int)] ∧ s'.c = (s.c || decide (Y s.i ≠ 0)) := by
  obtain ⟨i, o, c, hi, hl, ho, h, hs, hc, hb⟩ := s
  simp only at h1 h2 ⊢
  have hk : q + i < o.length := by omega
  have hv : (bn o).getD (q + i) 0 < 256 := bn_lt ho _ (by simp [List.getD, hk])
  have hv2 : (bn o).getD (q + i) 0 ^^^ Y i < 256 := Nat.xor_lt_two_pow (n := 8) hv (hY i)
  refine ⟨⟨i + 1, o.set (q + i) [D.int (((bn o).getD (q + i) 0 ^^^ Y i : Nat) : Int)], c || decide (Y i ≠ 0), by omega, by simpa using hl, ho.set8 _ _ hv2, fun j => ?_, fun j hj => ?_, ?_, by omega⟩, rfl, rfl, rfl⟩
  · have hk' : q + i < (bn o).length := by simpa using hk
    rw [bn_set]
    by_cases hq : j = q + i
    · subst hq
      have e1 : ((bn o).set (q + i) ((bn o).getD (q + i) 0 ^^^ Y i)).getD (q + i) 0 = (bn o).getD (q + i) 0 ^^^ Y i := by
        simp only [List.getD]
        rw [List.getElem?_set_self hk']
        rfl
      rw [e1, h (q + i), if_neg (by omega), if_pos (by omega), Nat.add_sub_cancel_left]
    · have e1 : ((bn o).set (q + i) ((bn o).getD (q + i) 0 ^^^ Y i)).getD j 0 = (bn o).getD j 0 := by
        simp only [List.getD]
        rw [List.getElem?_set_ne (Ne.symm hq)]
      rw [e1, h j]
      by_cases hj : q ≤ j ∧ j < q + i
      · rw [if_pos hj, if_pos (by omega)]
      · rw [if_neg hj, if_neg (by omega)]
  · rw [List.getElem?_set_ne (by omega)]
    exact hs j hj
  · rw [Bool.or_eq_true, hc, decide_eq_true_iff]
    constructor
    · rintro (⟨m, hm, hy⟩ | hy)
      · exact ⟨m, by omega, hy⟩
      · exact ⟨i, by omega, hy⟩
    · rintro ⟨m, hm, hy⟩
      by_cases hmi : m < i
      · exact .inl ⟨m, hmi, hy⟩
      · have : m = i := by omega
        subst this
        exact .inr hy
theorem le4_inj {a b : Nat} (ha : a < 4294967296) (hb : b < 4294967296) (h : le4 a = le4 b) : a = b := by
  simp only [le4, List.cons.injEq, and_true] at h
  omega
theorem getD_cut {l m : List Nat} {a n j : Nat} (h : (l.drop a).take n = (m.drop a).take n) (h1 : a ≤ j) (h2 : j < a + n) : l.getD j 0 = m.getD j 0 := by
  have := congrArg (fun z : List Nat => z.getD (j - a) 0) h
  simpa [List.getD, List.getElem?_take, show j - a < n by omega, show a + (j - a) = j by omega] using this
theorem cut_getD {l m : List Nat} {a n : Nat} (hl : l.length = m.length) (h : ∀ j, a ≤ j → j < a + n → l.getD j 0 = m.getD j 0) : (l.drop a).take n = (m.drop a).take n := by
  apply List.ext_getElem (by simp [hl])
  intro i h1 h2
  rw [List.length_take, List.length_drop] at h1
  have := h (a + i) (by omega) (by omega)
  have g1 : a + i < l.length := by omega
  have g2 : a + i < m.length := by omega
  simpa [List.getD, g1, g2] using this
theorem fb_end {l : List (List D)} (hp : payOk l) {k q : Nat} (hk : k < l.length) {Y : Nat → Nat} (s : FbI (frRs l) q (frRs (l.take (k + 1))).length Y)
    (hw : WfR U8 (frRs l)) (h1 : (frRs (l.take (k + 1))).length ≤ q + 4 + (frP l k).length) (h3 : s.i = 4 ∨ (frRs (l.take (k + 1))).length ≤ q + s.i) (hc : s.c = true)
    (h4 : ¬ (q < (frRs (l.take (k + 1))).length - 4 ∧ (frRs (l.take (k + 1))).length - 4 ≤ q + 3)) :
    (fspR s.o).2 = (((frRs (l.take k)).length : Int), 3) := by
  have ⟨m, hm, hy⟩ := s.hc.1 hc
  have hsl := s.hl
  have hsb := s.hb
  have hsi := s.hi
  have hcut := frRs_cut l hk
  have hn : (frRs (l.take (k + 1))).length = (frRs (l.take k)).length + (frR (frK l k) (frP l k)).length := by
    rw [frRs_next hk, List.length_append]; rfl
  have hrl := frR_len (frK l k) (frP l k)
  have hhl := frH_len (frK l k) (frP l k)
  have hpl := put1_len 9 (frP l k).length
  rw [← putB] at hpl
  have hpk := hp k hk
  have hpay : payOk (l.take k) := fun i hi => by
    rw [List.length_take] at hi
    have e : frP (l.take k) i = frP l i := by
      simp only [frP, lk, List.getD]
      rw [List.getElem?_take_of_lt (by omega)]
    rw [e]
    exact hp i (by omega)
  have hk6 := frRs_six (l.take k)
  have htk : (l.take k).length = k := by rw [List.length_take]; omega
  have hxl := congrArg List.length hcut
  simp only [List.length_append] at hxl
  have hoB : s.o = frRs (l.take k) ++ s.o.drop (frRs (l.take k)).length := by
    have e : s.o.take (frRs (l.take k)).length = frRs (l.take k) := by
      have e2 : (frRs l).take (frRs (l.take k)).length = frRs (l.take k) := by
        conv => lhs; rw [hcut]
        rw [List.append_assoc, List.take_left]
      rw [← e2]
      apply List.ext_getElem?
      intro j
      simp only [List.getElem?_take]
      by_cases hj : j < (frRs (l.take k)).length
      · have hjq : j < q := by omega
        simp only [e2, hj, if_true]
        rw [s.hs j hjq]
      · simp only [e2, hj, if_false]
    conv => lhs; rw [← List.take_append_drop (frRs (l.take k)).length s.o]
    rw [e]
  have hbx : bn (frRs l) = bn (frRs (l.take k)) ++ bn (frH (frK l k) (frP l k)) ++ bn (ckR (frH (frK l k) (frP l k))) ++ bn (frRs (l.drop (k + 1))) := by
    rw [hcut, frR]; simp only [bn_app, List.append_assoc]
  -- the changed bytes against the old ones
  have hsame : ∀ j, j < q → (bn s.o).getD j 0 = (bn (frRs l)).getD j 0 := fun j hj => by rw [s.h j, if_neg (by omega)]
  have hsame2 : ∀ j, q + s.i ≤ j → (bn s.o).getD j 0 = (bn (frRs l)).getD j 0 := fun j hj => by rw [s.h j, if_neg (by omega)]
  have hbl : (bn s.o).length = (bn (frRs l)).length := by simp [hsl]
  generalize hB : (frRs (l.take k)).length = B at *
  generalize hE : (frRs (l.take (k + 1))).length = E at *
  have hP0 : ((bn (frRs l)).drop B).take (E - 4 - B) = bn (frH (frK l k) (frP l k)) := by
    rw [hbx, List.append_assoc, List.append_assoc]
    have e1 : B = (bn (frRs (l.take k))).length := by rw [bn_len, hB]
    have e2 : E - 4 - B = (bn (frH (frK l k) (frP l k))).length := by rw [bn_len]; omega
    rw [e2]
    conv => lhs; rw [e1]
    rw [List.drop_left, List.take_left]
  have hC0 : ((bn (frRs l)).drop (E - 4)).take 4 = bn (ckR (frH (frK l k) (frP l k))) := by
    rw [hbx]
    have e1 : E - 4 = (bn (frRs (l.take k)) ++ bn (frH (frK l k) (frP l k))).length := by rw [List.length_append, bn_len, bn_len, hB]; omega
    have e2 : 4 = (bn (ckR (frH (frK l k) (frP l k)))).length := by simp
    rw [List.append_assoc (bn (frRs (l.take k)) ++ bn (frH (frK l k) (frP l k))), e1, List.drop_left]
    exact List.take_left' e2.symm
  have hno : ¬ (∀ j, B ≤ j → j < E → (bn s.o).getD j 0 = (bn (frRs l)).getD j 0) := fun hall => by
    have hj := hall (q + m) (by omega) (by omega)
    rw [s.h (q + m), if_pos (by omega), Nat.add_sub_cancel_left] at hj
    apply hy
    have e : Y m = (bn (frRs l)).getD (q + m) 0 ^^^ ((bn (frRs l)).getD (q + m) 0 ^^^ Y m) := by rw [← Nat.xor_assoc, Nat.xor_self, Nat.zero_xor]
    rw [e, hj, Nat.xor_self]
  have hbad : ¬ bn (ckR ((s.o.drop B).take (E - 4 - B))) = bn ((s.o.drop (E - 4)).take 4) := fun he => by
    rw [ckR, bn_rowB, bn_take, bn_drop, bn_take, bn_drop] at he
    by_cases hq : q < E - 4
    · have hC : ((bn s.o).drop (E - 4)).take 4 = ((bn (frRs l)).drop (E - 4)).take 4 := cut_getD hbl fun j g1 g2 => hsame2 j (by omega)
      rw [hC, hC0, ckR, bn_rowB, ← hP0] at he
      have hcr := BitVec.eq_of_toNat_eq (le4_inj (crcs 0 _).isLt (crcs 0 _).isLt he)
      have hgd : ∀ (z : List Nat) (j : Nat), j < E - 4 - B → (List.take (E - 4 - B) (List.drop B z)).getD j 0 = z.getD (B + j) 0 := fun z j hj => by
        simp [List.getD, List.getElem?_take, hj]
      have hf := crc_four (q := q - B) (fun v hv => bn_lt s.ho v (List.mem_of_mem_drop (List.mem_of_mem_take hv))) (fun v hv => bn_lt hw v (List.mem_of_mem_drop (List.mem_of_mem_take hv)))
        (by rw [List.length_take, List.length_take, List.length_drop, List.length_drop, hbl]) (by rw [List.length_take, List.length_drop, bn_len]; omega) (fun j hj => by
          by_cases hjl : j < E - 4 - B
          · rw [hgd _ j hjl, hgd _ j hjl]
            by_cases hjq : j < q - B
            · exact hsame _ (by omega)
            · exact hsame2 _ (by omega)
          · simp [List.getD, List.getElem?_take, hjl]) hcr
      refine hno fun j g1 g2 => ?_
      by_cases hj : j < E - 4
      · exact getD_cut hf g1 (by omega)
      · exact hsame2 j (by omega)
    · have hP : ((bn s.o).drop B).take (E - 4 - B) = ((bn (frRs l)).drop B).take (E - 4 - B) := cut_getD hbl fun j g1 g2 => hsame j (by omega)
      rw [hP, hP0] at he
      have hC : ((bn s.o).drop (E - 4)).take 4 = ((bn (frRs l)).drop (E - 4)).take 4 := by rw [hC0, ckR, bn_rowB, ← he]
      refine hno fun j g1 g2 => ?_
      by_cases hj : j < E - 4
      · exact hsame j (by omega)
      · exact getD_cut hC (by omega) (by omega)
  have hget : fgetR s.o (B : Int) = ⟨0, [], 0, 3⟩ := by
    have hbo : bn s.o = bn (frRs (l.take k)) ++ [(frK l k).toNat] ++ putB (frP l k).length ++ (bn s.o).drop (B + 1 + (putB (frP l k).length).length) := by
      have e1 : (bn s.o).take (B + 1 + (putB (frP l k).length).length) = bn (frRs (l.take k)) ++ [(frK l k).toNat] ++ putB (frP l k).length := by
        have e2 : (bn s.o).take (B + 1 + (putB (frP l k).length).length) = (bn (frRs l)).take (B + 1 + (putB (frP l k).length).length) := by
          have := cut_getD (a := 0) (n := B + 1 + (putB (frP l k).length).length) hbl fun j g1 g2 => hsame j (by omega)
          simpa using this
        rw [e2, hbx, frH]
        simp only [bn_app, bn_rowB, List.append_assoc]
        have e3 : bn (frRs (l.take k)) ++ (bn [[D.int (frK l k)]] ++ (putB (frP l k).length ++ (bn (frP l k) ++ (bn (ckR ([[D.int (frK l k)]] ++ (rowB (putB (frP l k).length) ++ frP l k))) ++ bn (frRs (l.drop (k + 1))))))) = (bn (frRs (l.take k)) ++ ([(frK l k).toNat] ++ putB (frP l k).length)) ++ (bn (frP l k) ++ (bn (ckR ([[D.int (frK l k)]] ++ (rowB (putB (frP l k).length) ++ frP l k))) ++ bn (frRs (l.drop (k + 1))))) := by
          simp only [List.append_assoc]; rfl
        rw [e3]
        refine List.take_left' ?_
        simp [hB]
        omega
      rw [← e1, List.take_append_drop]
    have h := fgetR_in hbo (by omega)
    rw [bn_len, hB] at h
    rw [h, fgetG, if_neg (show ¬ (0 : Int) = 10 by decide), if_pos (by rw [hsl]; refine ⟨rfl, ?_, ?_⟩ <;> simp only <;> omega)]
    have a1 : ((B : Int) + 1 + ((putB (frP l k).length).length : Int) + ((frP l k).length : Int)).toNat = E - 4 := by omega
    rw [a1, Int.toNat_natCast, if_neg hbad]
  have hgo := fsp_go hpay (s.o.drop B) (s.o.length + 1 - k) k (by omega)
  rw [← hoB, htk, List.take_take, Nat.min_self, hB, show s.o.length + 1 - k + k = s.o.length + 1 by omega, show s.o.length + 1 - k + (k - k) = (s.o.length - k) + 1 by omega] at hgo
  rw [fspR, hgo, fspl, if_pos (by omega), hget]
  rfl
end Go.Am
/- frame.Split, of bytes that stay the caller's own, keeps its contract. -/
namespace Go.Am
set_option linter.all false
set_option linter.deprecated false
open Go.Proofs
set_option maxRecDepth 100000
set_option maxHeartbeats 4000000
/-- Split, of bytes that stay the caller's own -/
def fsplitC2 : Contract := { modes := [.mut], fn := fun args M => match args, M with
  | [.sl _ [.int .u8] xs], [] => some ⟨[fun _ => (xs ()).length + 64 ≤ big],
      .tup [.ms 0 (fun _ => 0) fun _ => (fspR (xs ())).1.length, .int .i64 fun _ => (fspR (xs ())).2.1, .int .i64 fun _ => (fspR (xs ())).2.2],
      [(0, some (.row false PlS fun _ => (fspR (xs ())).1))]⟩
  | [.ms 0 lo len], [(0, .row false [.int .u8] xs)] => some ⟨[fun _ => lo () = 0 ∧ len () = (xs ()).length ∧ (xs ()).length + 64 ≤ big],
      .tup [.ms 1 (fun _ => 0) fun _ => (fspR (xs ())).1.length, .int .i64 fun _ => (fspR (xs ())).2.1, .int .i64 fun _ => (fspR (xs ())).2.2],
      [(1, some (.row false PlS fun _ => (fspR (xs ())).1))]⟩
  | _, _ => none }
theorem fsplit_ok2 : CSound Try.prog 63 fsplitC2 := by
  refine fsoundR (G := Gfz) (FT := FTf) (c := codeOf Try.f63) mixed tyT Gfz_ok FTf_ok Try.func63 (by rfl) (by kernel_rfl) (by kernel_rfl) fun args M r hr hvc hw hm => ?_
  unfold fsplitC2 at hr
  simp only at hr
  split at hr <;> cases hr
  · rename_i nn x
    have hb : (x ()).length + 64 ≤ big := hvc _ (List.mem_singleton.2 rfl)
    clear hvc hm hw
    have hx : x = fun _ => x () := rfl
    generalize x () = x at hx hb
    subst hx
    have v1 : x.length ≤ big := by omega
    conv => cbv
    refine ⟨⟨v1⟩, ?_⟩
    intro l
    have hl : Nat.beq l l = true := Nat.beq_refl l
    conv at hl => lhs; cbv
    conv => cbv
    refine YLoopP.mk (SpY x) (fun s => ⟨ev 34 [(0, .yl l), (1, .mp 32 0), (3, .mp 42 0)],
      [(0, .obj [.ms 41 (fun _ => 0) fun _ => s.o.length]), (8, .obj [.int .i64 fun _ => 0]), (16, .obj [.int .i64 fun _ => 0]), (32, .obj [.ms 33 (fun _ => 0) fun _ => x.length]), (33, .row false U8 fun _ => x), (41, .row false PlS fun _ => s.o), (42, .obj [.int .i64 fun _ => s.a, .ms 33 (fun _ => 0) fun _ => x.length])], 48⟩) (fun s => s.f) ⟨x.length + 1, 0, [], by omega, by omega, by omega, by simp, rfl⟩ rfl ?_ ?_
    · conv => cbv
      rw [hl]
      conv => cbv
      simp [Hold.iff]
    · intro s
      have hs1 := s.h1
      have hs0 := s.h0
      have hso := s.ho
      conv => cbv
      refine .d (fun h => ?_) (fun h => ?_)
      · conv => cbv
        rw [hl]
        conv => cbv
        refine ⟨⟨(by simp [hb])⟩, ?_⟩
        by_cases hr : (fgetR x s.a).r = 0
        · refine .ofF (by simp [hr]) ?_
          have hf := fgetR_fit hr
          have hn := (s.next h hr).choose_spec
          generalize (s.next h hr).choose = y at hn
          have hna := hn.1
          have hno := hn.2.1
          conv => cbv
          refine ⟨⟨(by simp)⟩, ?_⟩
          refine ⟨⟨(by simp)⟩, ?_⟩
          refine ⟨⟨(by simp)⟩, ?_⟩
          refine ⟨⟨(by simp; omega)⟩, ?_⟩
          refine ⟨⟨(by simp [chunk])⟩, ?_⟩
          refine .ofF rfl ?_
          conv => cbv
          refine .ofF (by simp [hr]) ?_
          conv => cbv
          refine ⟨y, hn.2.2, ?_⟩
          conv => cbv
          rw [hl]
          conv => cbv
          rw [hna, hno]
          simp [Hold.iff, chunk, plc, dall]
        · refine .ofT (by simp [hr]) ?_
          have hn := s.bad h hr
          have hn2 := fgetR_bad hr
          conv => cbv
          refine .ofT rfl ?_
          conv => cbv
          refine .ofT rfl ?_
          conv => cbv
          rw [hn]
          simp [Hold.iff]
      · have hn := s.done h
        conv => cbv
        rw [hn]
        simp [Hold.iff]
  · rename_i lo len x
    have hb := hvc _ (List.mem_singleton.2 rfl)
    have h1 := hb.1
    have h2 := hb.2.1
    have hb : (x ()).length + 64 ≤ big := hb.2.2
    clear hvc hm hw
    have hx : lo = fun _ => lo () := rfl
    generalize lo () = lo at hx h1
    subst hx h1
    have hx : x = fun _ => x () := rfl
    generalize x () = x at hx hb h2
    subst hx
    have hx : len = fun _ => len () := rfl
    generalize len () = len at hx h2
    subst hx h2
    have v1 : x.length ≤ big := by omega
    have ht : List.take x.length (List.drop 0 x) = x := by simp
    conv => cbv
    rw [ht]
    refine ⟨⟨(by simp)⟩, ⟨v1⟩, ?_⟩
    intro l
    have hl : Nat.beq l l = true := Nat.beq_refl l
    conv at hl => lhs; cbv
    conv => cbv
    refine YLoopP.mk (SpY x) (fun s => ⟨ev 34 [(0, .yl l), (1, .mp 33 0), (3, .mp 43 0)],
      [(0, .row false U8 fun _ => x), (1, .obj [.ms 42 (fun _ => 0) fun _ => s.o.length]), (9, .obj [.int .i64 fun _ => 0]), (17, .obj [.int .i64 fun _ => 0]), (33, .obj [.ms 34 (fun _ => 0) fun _ => x.length]), (34, .row false U8 fun _ => x), (42, .row false PlS fun _ => s.o), (43, .obj [.int .i64 fun _ => s.a, .ms 34 (fun _ => 0) fun _ => x.length])], 48⟩) (fun s => s.f) ⟨x.length + 1, 0, [], by omega, by omega, by omega, by simp, rfl⟩ rfl ?_ ?_
    · conv => cbv
      rw [hl]
      conv => cbv
      simp [Hold.iff]
    · intro s
      have hs1 := s.h1
      have hs0 := s.h0
      have hso := s.ho
      conv => cbv
      refine .d (fun h => ?_) (fun h => ?_)
      · conv => cbv
        rw [hl]
        conv => cbv
        refine ⟨⟨(by simp [hb])⟩, ?_⟩
        by_cases hr : (fgetR x s.a).r = 0
        · refine .ofF (by simp [hr]) ?_
          have hf := fgetR_fit hr
          have hn := (s.next h hr).choose_spec
          generalize (s.next h hr).choose = y at hn
          have hna := hn.1
          have hno := hn.2.1
          conv => cbv
          refine ⟨⟨(by simp)⟩, ?_⟩
          refine ⟨⟨(by simp)⟩, ?_⟩
          refine ⟨⟨(by simp)⟩, ?_⟩
          refine ⟨⟨(by simp; omega)⟩, ?_⟩
          refine ⟨⟨(by simp [chunk])⟩, ?_⟩
          refine .ofF rfl ?_
          conv => cbv
          refine .ofF (by simp [hr]) ?_
          conv => cbv
          refine ⟨y, hn.2.2, ?_⟩
          conv => cbv
          rw [hl]
          conv => cbv
          rw [hna, hno]
          simp [Hold.iff, chunk, plc, dall]
        · refine .ofT (by simp [hr]) ?_
          have hn := s.bad h hr
          have hn2 := fgetR_bad hr
          conv => cbv
          refine .ofT rfl ?_
          conv => cbv
          refine .ofT rfl ?_
          conv => cbv
          rw [hn]
          simp [Hold.iff]
      · have hn := s.done h
        conv => cbv
        rw [hn]
        simp [Hold.iff]
end Go.Am
/- alibilaw03.FrameBack keeps its contract: it returns true. -/
namespace Go.Am
set_option linter.all false
set_option linter.deprecated false
open Go.Proofs
set_option maxRecDepth 100000
set_option maxHeartbeats 4000000
def fbackC : Contract := { modes := [.ro, .ro, .ro, .ro, .ro], fn := fun args M => match args, M with
  | [.sl _ [.int .u8, .slice [.int .u8]] _, .sl _ [.int .u8] _, .int .i64 _, .int .i64 _, .agg [.int .u8 _, .int .u8 _, .int .u8 _, .int .u8 _]], [] => some ⟨[], .bool (fun _ => true), []⟩
  | _, _ => none }
def LGfb : List (Nat × Contract) := [(22, sameC), (32, pickC), (57, trueC), (63, fsplitC2), (66, ffewC), (68, fsizeC), (69, fsameC), (70, fputC)]
def Gfb : Ctx := fun f => gget LGfb f
theorem Gfb_ok : ∀ f C, Gfb f = some C → CSound Try.prog f C := gget_cons same_ok (gget_cons pick_ok (gget_cons works3_ok (gget_cons fsplit_ok2 (gget_cons ffew_ok (gget_cons fsize_ok (gget_cons fsame_ok (gget_cons fput_ok (gget_nil _))))))))
theorem unP_next {y : List (List D)} {i : Nat} (h : i < y.length) : unP (y.take (i + 1)) = unP (y.take i) ++ [[D.int (lk (lk y i) 0).toInt, D.list (lk (lk y i) 1).toList]] := by
  have e : y[i]? = some (lk y i) := by simp [lk, List.getD, h]
  unfold unP
  rw [List.take_add_one, e, List.map_append]
  rfl
def C8 (x : List (List D)) : Prop := ∀ c ∈ x, 0 ≤ (lk c 0).toInt ∧ (lk c 0).toInt < 256
theorem C8.wf {x : List (List D)} (h : C8 x) (hl : x.length ≤ 9223372036854775807) : WfR U8 x := by
  refine ⟨hl, fun i hi => ?_⟩
  simp only [WfDs, WfD, and_true, u8_iff]
  have e : lk x i = x[i] := by simp [lk, List.getD, hi]
  rw [e]
  exact h _ (List.getElem_mem hi)
theorem C8.of {x : List (List D)} (h : WfR U8 x) : C8 x := by
  intro c hc
  have ⟨i, hi, e⟩ := List.getElem_of_mem hc
  have h1 := h.2 i hi
  simp only [WfDs, WfD, and_true, u8_iff] at h1
  have e2 : lk x i = x[i] := by simp [lk, List.getD, hi]
  rw [e2, e] at h1
  exact h1
theorem C8.app {x y : List (List D)} (h : C8 x) (h2 : C8 y) : C8 (x ++ y) := fun c hc => by
  rcases List.mem_append.1 hc with h3 | h3
  · exact h c h3
  · exact h2 c h3
theorem C8.rowB {b : List Nat} (h : ∀ v ∈ b, v < 256) : C8 (rowB b) := fun c hc => by
  simp only [Am.rowB, List.mem_map] at hc
  have ⟨v, hv, e⟩ := hc
  have := h v hv
  subst e
  simp only [lk, List.getD, List.getElem?_cons_zero, Option.getD_some, D.toInt]
  omega
theorem put1_lt8 : ∀ (f v : Nat), v < 128 ^ (f + 1) → ∀ c ∈ put1 f v, c < 256
  | 0, v, h => by simp [put1]; omega
  | f + 1, v, h => by
    have hd : v / 128 < 128 ^ (f + 1) := by rw [Nat.pow_succ] at h; omega
    have ih := put1_lt8 f (v / 128) hd
    simp only [put1]
    split
    · simp; omega
    · intro c hc
      rcases List.mem_cons.1 hc with e | e
      · omega
      · exact ih c e
theorem c8_frR {k : Int} {p : List (List D)} (hk : 0 ≤ k ∧ k < 256) (hp : C8 p) (hl : p.length < 18446744073709551616) : C8 (frR k p) := by
  have h1 : C8 [[D.int k]] := fun c hc => by
    rw [List.mem_singleton] at hc
    subst hc
    simpa [lk, D.toInt] using hk
  have h2 : C8 (rowB (putB p.length)) := C8.rowB (put1_lt8 9 _ (by omega))
  have h3 : C8 (frH k p) := (h1.app h2).app hp
  refine h3.app (C8.rowB ?_)
  intro v hv
  simp only [le4, List.mem_cons, List.not_mem_nil, or_false] at hv
  omega
theorem c8_frRs {l : List (List D)} (hw : WfR FrS l) (hf : fewF l = true) : WfR U8 (frRs l) := by
  have hlen := frRs_len hw hf
  refine C8.wf (fun c hc => ?_) (by omega)
  rw [frRs, List.mem_flatMap] at hc
  have ⟨d, hd, hc⟩ := hc
  have ⟨i, hi, e⟩ := List.getElem_of_mem hd
  have e2 : lk l i = d := by simp [lk, List.getD, hi, e]
  have h1 := hw.2 i hi
  simp only [WfDs, WfD, and_true, u8_iff] at h1
  have h2 := C8.of (hw.pay hi)
  have h3 := (few_pay hf hi).1
  rw [e2] at h1 h2 h3
  exact c8_frR h1.1 h2 (by omega) c hc
def FbI.zero {x : List (List D)} (hw : WfR U8 x) {q e : Nat} {Y : Nat → Nat} : FbI x q e Y := ⟨0, x, false, by omega, rfl, hw, fun j => by rw [if_neg (by omega)], fun _ _ => rfl, ⟨fun h => (by cases h), fun ⟨m, hm, _⟩ => absurd hm (by omega)⟩, .inl rfl⟩
theorem fb_lk {ys : List Int} (h : ∀ v ∈ ys, 0 ≤ v ∧ v < 256) (m : Nat) : 0 ≤ lk ys m ∧ lk ys m < 256 := by
  by_cases hm : m < ys.length
  · simp only [lk, List.getD, List.getElem?_eq_getElem hm, Option.getD_some]
    exact h _ (List.getElem_mem hm)
  · simp only [lk, List.getD, List.getElem?_eq_none (Nat.le_of_not_lt hm), Option.getD_none]
    decide
theorem fz2 {E q : Nat} (h6 : 6 ≤ E) (h : q < E - 4) : (q : Int) < (E : Int) - 4 := by omega
theorem fz1 {E q : Nat} (h6 : 6 ≤ E) (h : ¬ q < E - 4) : (E : Int) - 4 ≤ (q : Int) := by omega
theorem fb_nat (q i : Nat) : ((q : Int) + (i : Int)).toNat = q + i := by omega
theorem fb_xor {x : List (List D)} {q e : Nat} {ys : List Int} (s : FbI x q e fun m => (lk ys m).toNat) (hy : ∀ v ∈ ys, 0 ≤ v ∧ v < 256) (h : q + s.i < e) (he : e ≤ x.length) :
    ibits .xor .u8 (lk (lk s.o (q + s.i)) 0).toInt (lk ys s.i) = (((bn s.o).getD (q + s.i) 0 ^^^ (lk ys s.i).toNat : Nat) : Int) := by
  have hl := s.hl
  have hk : q + s.i < s.o.length := by omega
  have h1 := fb_lk hy s.i
  have h2 : (bn s.o).getD (q + s.i) 0 < 256 := bn_lt s.ho _ (by simp [List.getD, hk])
  rw [bn_at s.ho hk]
  have e2 : lk ys s.i = ((lk ys s.i).toNat : Int) := by omega
  conv => lhs; rw [e2]
  exact ib_xor8 _ _ h2 (by omega)
theorem fb_end' {l : List (List D)} {k q E B n : Nat} {Y : Nat → Nat} (hE : (frRs (l.take (k + 1))).length = E) (hB : (frRs (l.take k)).length = B) (hn : (lk (lk l k) 1).toList.length = n) (hp : payOk l) (hk : k < l.length) (s : FbI (frRs l) q E Y)
    (hw : WfR U8 (frRs l)) (h1 : E ≤ q + 4 + n) (h3 : s.i = 4 ∨ E ≤ q + s.i) (hc : s.c = true) (h4 : ¬ (q < E - 4 ∧ E - 4 ≤ q + 3)) : (fspR s.o).2 = ((B : Int), 3) := by
  subst hE hB hn
  exact fb_end hp hk s hw h1 h3 hc h4
theorem pick_nat (w : Int) {n : Nat} (h : 0 < n) : ∃ k : Nat, pickS w (n : Int) = (k : Int) ∧ k < n := by
  have h1 := Int.emod_nonneg w (show (n : Int) ≠ 0 by omega)
  have h2 := Int.emod_lt_of_pos w (show (0 : Int) < (n : Int) by omega)
  refine ⟨(w % (n : Int)).toNat, ?_, by omega⟩
  rw [pickS, if_neg (by omega)]
  omega
theorem fback_ok : CSound Try.prog 16 fbackC := by
  refine fsound' (G := Gfb) (c := codeOf Try.f16) mixed tyT Gfb_ok Try.func16 (by rfl) (by kernel_rfl) (by kernel_rfl) fun args M r hr hvc hw hm => ?_
  unfold fbackC at hr
  simp only at hr
  split at hr <;> cases hr
  rename_i n1 l n2 b wh at_ y0 y1 y2 y3
  clear hvc hm
  have hx : l = fun _ => l () := rfl
  generalize l () = l at hx
  subst hx
  have hx : b = fun _ => b () := rfl
  generalize b () = b at hx
  subst hx
  have hx : wh = fun _ => wh () := rfl
  generalize wh () = wh at hx
  subst hx
  have hx : at_ = fun _ => at_ () := rfl
  generalize at_ () = at_ at hx
  subst hx
  have hx : y0 = fun _ => y0 () := rfl
  generalize y0 () = y0 at hx
  subst hx
  have hx : y1 = fun _ => y1 () := rfl
  generalize y1 () = y1 at hx
  subst hx
  have hx : y2 = fun _ => y2 () := rfl
  generalize y2 () = y2 at hx
  subst hx
  have hx : y3 = fun _ => y3 () := rfl
  generalize y3 () = y3 at hx
  subst hx
  simp only [WfVs, WfV, and_true, u8_iff] at hw
  conv => cbv
  by_cases hf : fewF l = true
  · refine .ofF (by simp [hf]) ?_
    conv => cbv
    refine .d (fun h => ?_) (fun h => ?_)
    · conv => cbv
      exact ⟨rfl⟩
    · have hb15 : b.length ≤ 1500 := by
        have h : ¬ (1500 : Int) < (b.length : Int) := h
        omega
      have hpk : payOk l := fun i hi => by
        have h1 := (few_pay hf hi).1
        show (lk (lk l i) 1).toList.length < _
        omega
      have hwf := c8_frRs hw.1 hf
      have hsp := fspR_frRs hpk
      have hlen := frRs_len hw.1 hf
      have hl12 : l.length ≤ 12 := by simp only [fewF, Bool.and_eq_true, decide_eq_true_eq] at hf; exact hf.2
      have ht : List.take (frRs l).length (List.drop 0 (frRs l)) = frRs l := by simp
      have v1 : (frRs l).length + 64 ≤ big := by simp only [big]; omega
      have v2 : 0 + (frRs l).length ≤ (frRs l).length := by omega
      conv => cbv
      rw [hsp]
      refine ⟨⟨v1⟩, ⟨rfl, rfl, v1⟩, ?_⟩
      refine .ofF rfl ?_
      conv => cbv
      refine .ofF (by simp) ?_
      conv => cbv
      refine .ofF (by simp) ?_
      conv => cbv
      refine LoopP.mk {i : Nat // i ≤ l.length} (fun s => ⟨ev 260 [(0, .sl false FrS fun _ => l), (1, .sl false U8 fun _ => b), (2, .int .i64 fun _ => wh), (3, .int .i64 fun _ => at_), (9, .mp 0 0), (10, .bool fun _ => false), (11, .ms 1 (fun _ => 0) fun _ => (frRs l).length), (12, .ms 2 (fun _ => 0) fun _ => l.length), (15, .int .i64 fun _ => (s.1 : Int))],
        [(0, .obj [.int .u8 fun _ => y0, .int .u8 fun _ => y1, .int .u8 fun _ => y2, .int .u8 fun _ => y3]), (1, .row false U8 fun _ => frRs l), (2, .row false PlS fun _ => plS l l.length)], 8⟩) (fun s => l.length - s.1) ⟨0, by omega⟩ ?_ ?_
      · conv => cbv
        simp [Hold.iff]
      · intro s
        have hi := s.2
        conv => cbv
        refine .d (fun h => ?_) (fun h => ?_)
        · have h : (s.1 : Int) < (l.length : Int) := h
          have h4 : s.1 < l.length := by omega
          have v3 : 0 ≤ (s.1 : Int) ∧ (s.1 : Int) < (l.length : Int) := by omega
          have hat := plS_at l h4
          have hw1 : IntKind.i64.wrap ((s.1 : Int) + 1) = ((s.1 + 1 : Nat) : Int) := by rw [wrap_i64 (by omega)]; omega
          have hn : s.1 + 1 ≤ l.length ∧ l.length - (s.1 + 1) < l.length - s.1 := by omega
          have hat0 : (lk (lk (plS l l.length) s.1) 0).toInt = (lk (lk l s.1) 0).toInt := by rw [hat]; rfl
          have hat1 : (lk (lk (plS l l.length) s.1) 1).toList = (lk (lk l s.1) 1).toList := by rw [hat]; rfl
          have hat2 : (lk (lk (plS l l.length) s.1) 2).toInt = ((frRs (l.take s.1)).length : Int) := by rw [hat]; rfl
          have hat3 : (lk (lk (plS l l.length) s.1) 3).toInt = ((frRs (l.take (s.1 + 1))).length : Int) := by rw [hat]; rfl
          have hnx := congrArg List.length (frRs_next h4)
          have hle := frRs_le l (s.1 + 1)
          rw [List.length_append, frR_len] at hnx
          have hq := (few_pay hf h4).1
          have hsz : IntKind.i64.wrap (((frRs (l.take (s.1 + 1))).length : Int) - ((frRs (l.take s.1)).length : Int)) = ((1 + (putB (lk (lk l s.1) 1).toList.length).length + (lk (lk l s.1) 1).toList.length + 4 : Nat) : Int) := by
            rw [wrap_i64 (by omega)]; omega
          conv => cbv
          repeat (first | (refine ⟨⟨?_⟩, ?_⟩; (focus (first | exact v3 | (simp [chunk, big]; done) | (simp [chunk, big]; omega)))))
          refine .ofF (by simp [hat0, hat1]) ?_
          conv => cbv
          repeat (first | (refine ⟨⟨?_⟩, ?_⟩; (focus (first | exact v3 | (simp [chunk, big]; done) | (simp [chunk, big]; omega)))))
          refine .ofF (by simp [hat0, hat1, hat2, hat3]; simpa using hsz) ?_
          conv => cbv
          refine ⟨⟨s.1 + 1, hn.1⟩, hn.2, ?_⟩
          conv => cbv
          simp [Hold.iff, hw1]
        · conv => cbv
          have v4 : b.length + 64 ≤ big := by simp only [big]; omega
          refine ⟨⟨v4⟩, ?_⟩
          by_cases hs : (fspR b).2.2 = 0
          · have hbk := fspR_back hs
            have hy6 := frRs_six (unP (fspR b).1)
            have hyl := congrArg List.length hbk.2
            simp only [bn_len] at hyl
            have hyn : (unP (fspR b).1).length = (fspR b).1.length := by simp [unP]
            refine .ofT (by simp [hs]) ?_
            conv => cbv
            refine LoopP.mk {i : Nat // i ≤ (fspR b).1.length} (fun s => ⟨ev 260 [(0, .sl false FrS fun _ => l), (1, .sl false U8 fun _ => b), (2, .int .i64 fun _ => wh), (3, .int .i64 fun _ => at_), (9, .mp 0 0), (10, .bool fun _ => false), (11, .ms 1 (fun _ => 0) fun _ => (frRs l).length), (12, .ms 2 (fun _ => 0) fun _ => l.length), (16, .ms 3 (fun _ => 0) fun _ => (fspR b).1.length), (17, .int .i64 fun _ => (fspR b).2.1), (19, .ms 4 (fun _ => 0) fun _ => s.1), (20, .int .i64 fun _ => (s.1 : Int))],
              [(0, .obj [.int .u8 fun _ => y0, .int .u8 fun _ => y1, .int .u8 fun _ => y2, .int .u8 fun _ => y3]), (1, .row false U8 fun _ => frRs l), (2, .row false PlS fun _ => plS l l.length), (3, .row false PlS fun _ => (fspR b).1), (4, .row false FrS fun _ => unP ((fspR b).1.take s.1))], 8⟩) (fun s => (fspR b).1.length - s.1) ⟨0, by omega⟩ ?_ ?_
            · conv => cbv
              simp [Hold.iff, unP]
            · intro s
              have hi := s.2
              conv => cbv
              refine .d (fun h => ?_) (fun h => ?_)
              · have h : (s.1 : Int) < ((fspR b).1.length : Int) := h
                have h4 : s.1 < (fspR b).1.length := by omega
                have v5 : 0 ≤ (s.1 : Int) ∧ (s.1 : Int) < ((fspR b).1.length : Int) := by omega
                have hnx := unP_next h4
                have hul : (unP ((fspR b).1.take s.1)).length = s.1 := by simp [unP]; omega
                have htk : List.take s.1 (unP ((fspR b).1.take s.1)) = unP ((fspR b).1.take s.1) := List.take_of_length_le (by omega)
                have hw1 : IntKind.i64.wrap ((s.1 : Int) + 1) = ((s.1 + 1 : Nat) : Int) := by rw [wrap_i64 (by omega)]; omega
                have hn : s.1 + 1 ≤ (fspR b).1.length ∧ (fspR b).1.length - (s.1 + 1) < (fspR b).1.length - s.1 := by omega
                conv => cbv
                repeat (first | (refine ⟨⟨?_⟩, ?_⟩; (focus (first | exact v5 | (simp [chunk, big, hul]; done) | (simp [chunk, big, hul]; omega)))))
                refine ⟨⟨s.1 + 1, hn.1⟩, hn.2, ?_⟩
                conv => cbv
                rw [hnx]
                simp [Hold.iff, hw1, chunk, dall, htk]
              · have h : ¬ (s.1 : Int) < ((fspR b).1.length : Int) := h
                have h4 : s.1 = (fspR b).1.length := by omega
                have htk : List.take s.1 (fspR b).1 = (fspR b).1 := List.take_of_length_le (by omega)
                have hft : List.take s.1 (unP (fspR b).1) = unP (fspR b).1 := List.take_of_length_le (by omega)
                rw [htk]
                conv => cbv
                refine .ofF (by simp [hbk.1]) ?_
                conv => cbv
                repeat (first | (refine ⟨⟨?_⟩, ?_⟩; (focus (first | (simp [chunk, big, hft]; done) | (simp [chunk, big, hft]; omega)))))
                refine .ofF (by simp [hbk.1, hft, hbk.2]) ?_
                conv => cbv
                by_cases hl0 : l.length = 0
                · refine .ofT (by simp [hl0]) ?_
                  conv => cbv
                  exact ⟨rfl⟩
                · refine .ofF (by simpa using hl0) ?_
                  have hkk := pick_nat wh (n := l.length) (by omega)
                  generalize hkd : pickS wh (l.length : Int) = kk at hkk
                  have ⟨k, hk1, hk2⟩ := hkk
                  subst hk1
                  have v5 : (l.length : Int) < 4611686018427387904 := by omega
                  have v6 : 0 ≤ (k : Int) ∧ (k : Int) < (l.length : Int) := by omega
                  have hat := plS_at l hk2
                  have hat1 : (lk (lk (plS l l.length) k) 1).toList = (lk (lk l k) 1).toList := by rw [hat]; rfl
                  have hat2 : (lk (lk (plS l l.length) k) 2).toInt = ((frRs (l.take k)).length : Int) := by rw [hat]; rfl
                  have hat3 : (lk (lk (plS l l.length) k) 3).toInt = ((frRs (l.take (k + 1))).length : Int) := by rw [hat]; rfl
                  have hnx := congrArg List.length (frRs_next hk2)
                  have hle := frRs_le l (k + 1)
                  rw [List.length_append, frR_len] at hnx
                  have hq := (few_pay hf hk2).1
                  have hpl := put1_len 9 (lk (lk l k) 1).toList.length
                  rw [← putB] at hpl
                  generalize hE : (frRs (l.take (k + 1))).length = E at hat3 hnx hle
                  generalize hB : (frRs (l.take k)).length = B at hat2 hnx
                  generalize hn : (lk (lk l k) 1).toList.length = n at hnx hq hpl
                  have hF : IntKind.i64.wrap (IntKind.i64.wrap ((E : Int) - 4) - (n : Int)) = (E : Int) - 4 - (n : Int) := by rw [wrap_i64 (n := (E : Int) - 4) (by omega), wrap_i64 (by omega)]
                  have hG : IntKind.i64.wrap ((E : Int) - ((E : Int) - 4 - (n : Int))) = (n : Int) + 4 := by rw [wrap_i64 (by omega)]; omega
                  have hrr := pick_nat at_ (n := n + 4) (by omega)
                  rw [show ((n + 4 : Nat) : Int) = (n : Int) + 4 by omega] at hrr
                  generalize hrd : pickS at_ ((n : Int) + 4) = rr at hrr
                  have ⟨r, hr1, hr2⟩ := hrr
                  subst hr1
                  have hy : ∀ v ∈ [y0, y1, y2, y3], 0 ≤ v ∧ v < 256 := by
                    have h0 := hw.2.2.2.2
                    intro v hv
                    simp only [List.mem_cons, List.not_mem_nil, or_false] at hv
                    rcases hv with e | e | e | e <;> subst e
                    · exact h0.1
                    · exact h0.2.1
                    · exact h0.2.2.1
                    · exact h0.2.2.2
                  have hY := fb_lk hy
                  have hY256 : ∀ m, (lk [y0, y1, y2, y3] m).toNat < 256 := fun m => by have := hY m; omega
                  have hqe : ∃ q : Nat, q = E - 4 - n + r := ⟨_, rfl⟩
                  have ⟨q, hqd⟩ := hqe
                  have hQ : IntKind.i64.wrap ((E : Int) - 4 - (n : Int) + (r : Int)) = (q : Int) := by rw [wrap_i64 (by omega)]; omega
                  have hqE : q < E := by omega
                  conv => cbv
                  rw [hkd]
                  conv => cbv
                  repeat (first | (refine ⟨⟨?_⟩, ?_⟩; (focus (first | exact v5 | exact v6 | (simp; done) | (simp; omega)))))
                  refine .ofF (by simp [hat2, hat3, hn, hF]; omega) ?_
                  conv => cbv
                  repeat (first | (refine ⟨⟨?_⟩, ?_⟩; (focus (first | exact v5 | exact v6 | (simp; done) | (simp; omega)))))
                  refine .ofF (by simp [hat2, hat3, hn, hF]; omega) ?_
                  conv => cbv
                  repeat (first | (refine ⟨⟨?_⟩, ?_⟩; (focus (first | exact v6 | (simp [hat3, hn, hF, hG]; done) | (simp [hat3, hn, hF, hG]; omega)))))
                  refine LoopP.mk (FbI (frRs l) q E (fun m => (lk [y0, y1, y2, y3] m).toNat)) (fun s => ⟨ev 260 [(0, .sl false FrS fun _ => l), (9, .mp 0 0), (10, .bool fun _ => false), (11, .ms 1 (fun _ => 0) fun _ => (frRs l).length), (12, .ms 2 (fun _ => 0) fun _ => l.length), (21, .int .i64 fun _ => (k : Int)), (23, .int .i64 fun _ => (q : Int)), (24, .bool fun _ => s.c), (25, .int .i64 fun _ => (s.i : Int))],
                    [(0, .obj [.int .u8 fun _ => y0, .int .u8 fun _ => y1, .int .u8 fun _ => y2, .int .u8 fun _ => y3]), (1, .row false U8 fun _ => s.o), (2, .row false PlS fun _ => plS l l.length)], 8⟩) (fun s => 4 - s.i) (FbI.zero hwf) ?_ ?_
                  · conv => cbv
                    simp [Hold.iff, FbI.zero, hat3, hn, hF, hG, hrd, hQ]
                  · intro s
                    have hsi := s.hi
                    have hsl := s.hl
                    conv => cbv
                    refine .d (fun h => ?_) (fun h => ?_)
                    · have h : (s.i : Int) < 4 := h
                      have h4 : s.i < 4 := by omega
                      have w1 : IntKind.i64.wrap ((q : Int) + (s.i : Int)) = (q : Int) + (s.i : Int) := by rw [wrap_i64 (by omega)]
                      conv => cbv
                      repeat (first | (refine ⟨⟨?_⟩, ?_⟩; (focus (first | exact v6 | (simp; done) | (simp; omega)))))
                      by_cases hqi : q + s.i < E
                      · have hnx2 := s.next hY256 (by omega) h4 hqi
                        have hns := hnx2.choose_spec
                        generalize hnx2.choose = s2 at hns
                        have hn1 := hns.1
                        have hn2 := hns.2.1
                        have hn3 := hns.2.2
                        clear hnx2
                        have w2 : IntKind.i64.wrap ((s.i : Int) + 1) = (s2.i : Int) := by rw [hn1, wrap_i64 (by omega)]; omega
                        have hlt : 4 - s2.i < 4 - s.i := by omega
                        have hx8 := fb_xor s hy hqi (by omega)
                        have hYi : ((lk [y0, y1, y2, y3] s.i).toNat = 0) = (lk [y0, y1, y2, y3] s.i = 0) := by
                          have := hY s.i
                          rw [eq_iff_iff]; omega
                        have g1 : 0 ≤ IntKind.i64.wrap ((q : Int) + (s.i : Int)) ∧ IntKind.i64.wrap ((q : Int) + (s.i : Int)) < ((frRs l).length : Int) := by rw [w1]; omega
                        have g2 : 0 + (IntKind.i64.wrap ((q : Int) + (s.i : Int))).toNat < s.o.length := by rw [w1]; omega
                        have g3 : 0 ≤ (s.i : Int) ∧ (s.i : Int) < ((4 : Nat) : Int) := by omega
                        have g4 : ((s.i : Int)).toNat < 4 := by omega
                        have g5 : 0 + (IntKind.i64.wrap ((q : Int) + (s.i : Int))).toNat < (s.o.set (0 + (IntKind.i64.wrap ((q : Int) + (s.i : Int))).toNat) [D.int 0]).length := by rw [List.length_set]; exact g2
                        refine .ofT (by simp [w1, hat3]; omega) ?_
                        conv => cbv
                        repeat (first | (refine ⟨⟨?_⟩, ?_⟩; (focus (first | exact g1 | exact g2 | exact g3 | exact g4 | exact g5))))
                        by_cases hc : s.c = true
                        · refine .ofT (by simp [hc]) ?_
                          conv => cbv
                          refine ⟨s2, hlt, ?_⟩
                          conv => cbv
                          simp [Hold.iff, w2, hn2, hn3, hc, w1, hx8, fb_nat]
                        · refine .ofF (by simp [hc]) ?_
                          conv => cbv
                          repeat (first | (refine ⟨⟨?_⟩, ?_⟩; (focus (first | (simp [w1]; done) | (simp [w1]; omega)))))
                          refine ⟨s2, hlt, ?_⟩
                          conv => cbv
                          simp [Hold.iff, w2, hn2, hn3, hc, w1, hx8, hYi, fb_nat]
                          try rfl
                      · refine .ofF (by simp [w1, hat3]; omega) ?_
                        conv => cbv
                        have h3 : s.i = 4 ∨ E ≤ q + s.i := by omega
                        have hend := fun hc h4 => fb_end' hE hB hn hpk hk2 s hwf (by omega) h3 hc h4
                        have h6 : 6 ≤ E := by omega
                        have w4 : IntKind.i64.wrap ((E : Int) - 4) = (E : Int) - 4 := by rw [wrap_i64 (by omega)]
                        have w5 : IntKind.i64.wrap ((q : Int) + 3) = (q : Int) + 3 := by rw [wrap_i64 (by omega)]
                        have v7 : s.o.length + 64 ≤ big := by simp only [big]; omega
                        by_cases hc : s.c = true
                        · refine .ofF (by simp [hc]) ?_
                          conv => cbv
                          repeat (first | (refine ⟨⟨?_⟩, ?_⟩; (focus (first | exact v6 | (simp; done) | (simp; omega)))))
                          by_cases hq1 : q < E - 4
                          · refine .ofT (by simp [hat3, w4]; exact fz2 h6 hq1) ?_
                            conv => cbv
                            repeat (first | (refine ⟨⟨?_⟩, ?_⟩; (focus (first | exact v6 | (simp; done) | (simp; omega)))))
                            by_cases hq2 : E - 4 ≤ q + 3
                            · refine .ofT (by simp [hat3, w4, w5]; omega) ?_
                              conv => cbv
                              exact ⟨rfl⟩
                            · refine .ofF (by simp [hat3, w4, w5]; omega) ?_
                              have hend := hend hc (by omega)
                              conv => cbv
                              repeat (first | (refine ⟨⟨?_⟩, ?_⟩; (focus (first | exact ⟨rfl, hsl.symm, v7⟩ | exact v6 | (simp; done) | (simp; omega)))))
                              refine .ofT (by simp [hend, hat2]) ?_
                              conv => cbv
                              refine .ofT (by simp [hend]) ?_
                              conv => cbv
                              exact ⟨rfl⟩
                          · refine .ofF (by simp [hat3, w4]; exact fz1 h6 hq1) ?_
                            conv => cbv
                            refine .ofF rfl ?_
                            have hend := hend hc (by omega)
                            conv => cbv
                            repeat (first | (refine ⟨⟨?_⟩, ?_⟩; (focus (first | exact ⟨rfl, hsl.symm, v7⟩ | exact v6 | (simp; done) | (simp; omega)))))
                            refine .ofT (by simp [hend, hat2]) ?_
                            conv => cbv
                            refine .ofT (by simp [hend]) ?_
                            conv => cbv
                            exact ⟨rfl⟩
                        · refine .ofT (by simp [hc]) ?_
                          conv => cbv
                          refine .ofT rfl ?_
                          conv => cbv
                          exact ⟨rfl⟩
                    · have h : ¬ (s.i : Int) < 4 := h
                      have h3 : s.i = 4 ∨ E ≤ q + s.i := by omega
                      conv => cbv
                      refine .ofF rfl ?_
                      conv => cbv
                      have hend := fun hc h4 => fb_end' hE hB hn hpk hk2 s hwf (by omega) h3 hc h4
                      have h6 : 6 ≤ E := by omega
                      have w4 : IntKind.i64.wrap ((E : Int) - 4) = (E : Int) - 4 := by rw [wrap_i64 (by omega)]
                      have w5 : IntKind.i64.wrap ((q : Int) + 3) = (q : Int) + 3 := by rw [wrap_i64 (by omega)]
                      have v7 : s.o.length + 64 ≤ big := by simp only [big]; omega
                      by_cases hc : s.c = true
                      · refine .ofF (by simp [hc]) ?_
                        conv => cbv
                        repeat (first | (refine ⟨⟨?_⟩, ?_⟩; (focus (first | exact v6 | (simp; done) | (simp; omega)))))
                        by_cases hq1 : q < E - 4
                        · refine .ofT (by simp [hat3, w4]; exact fz2 h6 hq1) ?_
                          conv => cbv
                          repeat (first | (refine ⟨⟨?_⟩, ?_⟩; (focus (first | exact v6 | (simp; done) | (simp; omega)))))
                          by_cases hq2 : E - 4 ≤ q + 3
                          · refine .ofT (by simp [hat3, w4, w5]; omega) ?_
                            conv => cbv
                            exact ⟨rfl⟩
                          · refine .ofF (by simp [hat3, w4, w5]; omega) ?_
                            have hend := hend hc (by omega)
                            conv => cbv
                            repeat (first | (refine ⟨⟨?_⟩, ?_⟩; (focus (first | exact ⟨rfl, hsl.symm, v7⟩ | exact v6 | (simp; done) | (simp; omega)))))
                            refine .ofT (by simp [hend, hat2]) ?_
                            conv => cbv
                            refine .ofT (by simp [hend]) ?_
                            conv => cbv
                            exact ⟨rfl⟩
                        · refine .ofF (by simp [hat3, w4]; exact fz1 h6 hq1) ?_
                          conv => cbv
                          refine .ofF rfl ?_
                          have hend := hend hc (by omega)
                          conv => cbv
                          repeat (first | (refine ⟨⟨?_⟩, ?_⟩; (focus (first | exact ⟨rfl, hsl.symm, v7⟩ | exact v6 | (simp; done) | (simp; omega)))))
                          refine .ofT (by simp [hend, hat2]) ?_
                          conv => cbv
                          refine .ofT (by simp [hend]) ?_
                          conv => cbv
                          exact ⟨rfl⟩
                      · refine .ofT (by simp [hc]) ?_
                        conv => cbv
                        refine .ofT rfl ?_
                        conv => cbv
                        exact ⟨rfl⟩
          · refine .ofF (by simp [hs]) ?_
            conv => cbv
            by_cases hl0 : l.length = 0
            · refine .ofT (by simp [hl0]) ?_
              conv => cbv
              exact ⟨rfl⟩
            · refine .ofF (by simpa using hl0) ?_
              have hkk := pick_nat wh (n := l.length) (by omega)
              generalize hkd : pickS wh (l.length : Int) = kk at hkk
              have ⟨k, hk1, hk2⟩ := hkk
              subst hk1
              have v5 : (l.length : Int) < 4611686018427387904 := by omega
              have v6 : 0 ≤ (k : Int) ∧ (k : Int) < (l.length : Int) := by omega
              have hat := plS_at l hk2
              have hat1 : (lk (lk (plS l l.length) k) 1).toList = (lk (lk l k) 1).toList := by rw [hat]; rfl
              have hat2 : (lk (lk (plS l l.length) k) 2).toInt = ((frRs (l.take k)).length : Int) := by rw [hat]; rfl
              have hat3 : (lk (lk (plS l l.length) k) 3).toInt = ((frRs (l.take (k + 1))).length : Int) := by rw [hat]; rfl
              have hnx := congrArg List.length (frRs_next hk2)
              have hle := frRs_le l (k + 1)
              rw [List.length_append, frR_len] at hnx
              have hq := (few_pay hf hk2).1
              have hpl := put1_len 9 (lk (lk l k) 1).toList.length
              rw [← putB] at hpl
              generalize hE : (frRs (l.take (k + 1))).length = E at hat3 hnx hle
              generalize hB : (frRs (l.take k)).length = B at hat2 hnx
              generalize hn : (lk (lk l k) 1).toList.length = n at hnx hq hpl
              have hF : IntKind.i64.wrap (IntKind.i64.wrap ((E : Int) - 4) - (n : Int)) = (E : Int) - 4 - (n : Int) := by rw [wrap_i64 (n := (E : Int) - 4) (by omega), wrap_i64 (by omega)]
              have hG : IntKind.i64.wrap ((E : Int) - ((E : Int) - 4 - (n : Int))) = (n : Int) + 4 := by rw [wrap_i64 (by omega)]; omega
              have hrr := pick_nat at_ (n := n + 4) (by omega)
              rw [show ((n + 4 : Nat) : Int) = (n : Int) + 4 by omega] at hrr
              generalize hrd : pickS at_ ((n : Int) + 4) = rr at hrr
              have ⟨r, hr1, hr2⟩ := hrr
              subst hr1
              have hy : ∀ v ∈ [y0, y1, y2, y3], 0 ≤ v ∧ v < 256 := by
                have h0 := hw.2.2.2.2
                intro v hv
                simp only [List.mem_cons, List.not_mem_nil, or_false] at hv
                rcases hv with e | e | e | e <;> subst e
                · exact h0.1
                · exact h0.2.1
                · exact h0.2.2.1
                · exact h0.2.2.2
              have hY := fb_lk hy
              have hY256 : ∀ m, (lk [y0, y1, y2, y3] m).toNat < 256 := fun m => by have := hY m; omega
              have hqe : ∃ q : Nat, q = E - 4 - n + r := ⟨_, rfl⟩
              have ⟨q, hqd⟩ := hqe
              have hQ : IntKind.i64.wrap ((E : Int) - 4 - (n : Int) + (r : Int)) = (q : Int) := by rw [wrap_i64 (by omega)]; omega
              have hqE : q < E := by omega
              conv => cbv
              rw [hkd]
              conv => cbv
              repeat (first | (refine ⟨⟨?_⟩, ?_⟩; (focus (first | exact v5 | exact v6 | (simp; done) | (simp; omega)))))
              refine .ofF (by simp [hat2, hat3, hn, hF]; omega) ?_
              conv => cbv
              repeat (first | (refine ⟨⟨?_⟩, ?_⟩; (focus (first | exact v5 | exact v6 | (simp; done) | (simp; omega)))))
              refine .ofF (by simp [hat2, hat3, hn, hF]; omega) ?_
              conv => cbv
              repeat (first | (refine ⟨⟨?_⟩, ?_⟩; (focus (first | exact v6 | (simp [hat3, hn, hF, hG]; done) | (simp [hat3, hn, hF, hG]; omega)))))
              refine LoopP.mk (FbI (frRs l) q E (fun m => (lk [y0, y1, y2, y3] m).toNat)) (fun s => ⟨ev 260 [(0, .sl false FrS fun _ => l), (9, .mp 0 0), (10, .bool fun _ => false), (11, .ms 1 (fun _ => 0) fun _ => (frRs l).length), (12, .ms 2 (fun _ => 0) fun _ => l.length), (21, .int .i64 fun _ => (k : Int)), (23, .int .i64 fun _ => (q : Int)), (24, .bool fun _ => s.c), (25, .int .i64 fun _ => (s.i : Int))],
                [(0, .obj [.int .u8 fun _ => y0, .int .u8 fun _ => y1, .int .u8 fun _ => y2, .int .u8 fun _ => y3]), (1, .row false U8 fun _ => s.o), (2, .row false PlS fun _ => plS l l.length)], 8⟩) (fun s => 4 - s.i) (FbI.zero hwf) ?_ ?_
              · conv => cbv
                simp [Hold.iff, FbI.zero, hat3, hn, hF, hG, hrd, hQ]
              · intro s
                have hsi := s.hi
                have hsl := s.hl
                conv => cbv
                refine .d (fun h => ?_) (fun h => ?_)
                · have h : (s.i : Int) < 4 := h
                  have h4 : s.i < 4 := by omega
                  have w1 : IntKind.i64.wrap ((q : Int) + (s.i : Int)) = (q : Int) + (s.i : Int) := by rw [wrap_i64 (by omega)]
                  conv => cbv
                  repeat (first | (refine ⟨⟨?_⟩, ?_⟩; (focus (first | exact v6 | (simp; done) | (simp; omega)))))
                  by_cases hqi : q + s.i < E
                  · have hnx2 := s.next hY256 (by omega) h4 hqi
                    have hns := hnx2.choose_spec
                    generalize hnx2.choose = s2 at hns
                    have hn1 := hns.1
                    have hn2 := hns.2.1
                    have hn3 := hns.2.2
                    clear hnx2
                    have w2 : IntKind.i64.wrap ((s.i : Int) + 1) = (s2.i : Int) := by rw [hn1, wrap_i64 (by omega)]; omega
                    have hlt : 4 - s2.i < 4 - s.i := by omega
                    have hx8 := fb_xor s hy hqi (by omega)
                    have hYi : ((lk [y0, y1, y2, y3] s.i).toNat = 0) = (lk [y0, y1, y2, y3] s.i = 0) := by
                      have := hY s.i
                      rw [eq_iff_iff]; omega
                    have g1 : 0 ≤ IntKind.i64.wrap ((q : Int) + (s.i : Int)) ∧ IntKind.i64.wrap ((q : Int) + (s.i : Int)) < ((frRs l).length : Int) := by rw [w1]; omega
                    have g2 : 0 + (IntKind.i64.wrap ((q : Int) + (s.i : Int))).toNat < s.o.length := by rw [w1]; omega
                    have g3 : 0 ≤ (s.i : Int) ∧ (s.i : Int) < ((4 : Nat) : Int) := by omega
                    have g4 : ((s.i : Int)).toNat < 4 := by omega
                    have g5 : 0 + (IntKind.i64.wrap ((q : Int) + (s.i : Int))).toNat < (s.o.set (0 + (IntKind.i64.wrap ((q : Int) + (s.i : Int))).toNat) [D.int 0]).length := by rw [List.length_set]; exact g2
                    refine .ofT (by simp [w1, hat3]; omega) ?_
                    conv => cbv
                    repeat (first | (refine ⟨⟨?_⟩, ?_⟩; (focus (first | exact g1 | exact g2 | exact g3 | exact g4 | exact g5))))
                    by_cases hc : s.c = true
                    · refine .ofT (by simp [hc]) ?_
                      conv => cbv
                      refine ⟨s2, hlt, ?_⟩
                      conv => cbv
                      simp [Hold.iff, w2, hn2, hn3, hc, w1, hx8, fb_nat]
                    · refine .ofF (by simp [hc]) ?_
                      conv => cbv
                      repeat (first | (refine ⟨⟨?_⟩, ?_⟩; (focus (first | (simp [w1]; done) | (simp [w1]; omega)))))
                      refine ⟨s2, hlt, ?_⟩
                      conv => cbv
                      simp [Hold.iff, w2, hn2, hn3, hc, w1, hx8, hYi, fb_nat]
                      try rfl
                  · refine .ofF (by simp [w1, hat3]; omega) ?_
                    conv => cbv
                    have h3 : s.i = 4 ∨ E ≤ q + s.i := by omega
                    have hend := fun hc h4 => fb_end' hE hB hn hpk hk2 s hwf (by omega) h3 hc h4
                    have h6 : 6 ≤ E := by omega
                    have w4 : IntKind.i64.wrap ((E : Int) - 4) = (E : Int) - 4 := by rw [wrap_i64 (by omega)]
                    have w5 : IntKind.i64.wrap ((q : Int) + 3) = (q : Int) + 3 := by rw [wrap_i64 (by omega)]
                    have v7 : s.o.length + 64 ≤ big := by simp only [big]; omega
                    by_cases hc : s.c = true
                    · refine .ofF (by simp [hc]) ?_
                      conv => cbv
                      repeat (first | (refine ⟨⟨?_⟩, ?_⟩; (focus (first | exact v6 | (simp; done) | (simp; omega)))))
                      by_cases hq1 : q < E - 4
                      · refine .ofT (by simp [hat3, w4]; exact fz2 h6 hq1) ?_
                        conv => cbv
                        repeat (first | (refine ⟨⟨?_⟩, ?_⟩; (focus (first | exact v6 | (simp; done) | (simp; omega)))))
                        by_cases hq2 : E - 4 ≤ q + 3
                        · refine .ofT (by simp [hat3, w4, w5]; omega) ?_
                          conv => cbv
                          exact ⟨rfl⟩
                        · refine .ofF (by simp [hat3, w4, w5]; omega) ?_
                          have hend := hend hc (by omega)
                          conv => cbv
                          repeat (first | (refine ⟨⟨?_⟩, ?_⟩; (focus (first | exact ⟨rfl, hsl.symm, v7⟩ | exact v6 | (simp; done) | (simp; omega)))))
                          refine .ofT (by simp [hend, hat2]) ?_
                          conv => cbv
                          refine .ofT (by simp [hend]) ?_
                          conv => cbv
                          exact ⟨rfl⟩
                      · refine .ofF (by simp [hat3, w4]; exact fz1 h6 hq1) ?_
                        conv => cbv
                        refine .ofF rfl ?_
                        have hend := hend hc (by omega)
                        conv => cbv
                        repeat (first | (refine ⟨⟨?_⟩, ?_⟩; (focus (first | exact ⟨rfl, hsl.symm, v7⟩ | exact v6 | (simp; done) | (simp; omega)))))
                        refine .ofT (by simp [hend, hat2]) ?_
                        conv => cbv
                        refine .ofT (by simp [hend]) ?_
                        conv => cbv
                        exact ⟨rfl⟩
                    · refine .ofT (by simp [hc]) ?_
                      conv => cbv
                      refine .ofT rfl ?_
                      conv => cbv
                      exact ⟨rfl⟩
                · have h : ¬ (s.i : Int) < 4 := h
                  have h3 : s.i = 4 ∨ E ≤ q + s.i := by omega
                  conv => cbv
                  refine .ofF rfl ?_
                  conv => cbv
                  have hend := fun hc h4 => fb_end' hE hB hn hpk hk2 s hwf (by omega) h3 hc h4
                  have h6 : 6 ≤ E := by omega
                  have w4 : IntKind.i64.wrap ((E : Int) - 4) = (E : Int) - 4 := by rw [wrap_i64 (by omega)]
                  have w5 : IntKind.i64.wrap ((q : Int) + 3) = (q : Int) + 3 := by rw [wrap_i64 (by omega)]
                  have v7 : s.o.length + 64 ≤ big := by simp only [big]; omega
                  by_cases hc : s.c = true
                  · refine .ofF (by simp [hc]) ?_
                    conv => cbv
                    repeat (first | (refine ⟨⟨?_⟩, ?_⟩; (focus (first | exact v6 | (simp; done) | (simp; omega)))))
                    by_cases hq1 : q < E - 4
                    · refine .ofT (by simp [hat3, w4]; exact fz2 h6 hq1) ?_
                      conv => cbv
                      repeat (first | (refine ⟨⟨?_⟩, ?_⟩; (focus (first | exact v6 | (simp; done) | (simp; omega)))))
                      by_cases hq2 : E - 4 ≤ q + 3
                      · refine .ofT (by simp [hat3, w4, w5]; omega) ?_
                        conv => cbv
                        exact ⟨rfl⟩
                      · refine .ofF (by simp [hat3, w4, w5]; omega) ?_
                        have hend := hend hc (by omega)
                        conv => cbv
                        repeat (first | (refine ⟨⟨?_⟩, ?_⟩; (focus (first | exact ⟨rfl, hsl.symm, v7⟩ | exact v6 | (simp; done) | (simp; omega)))))
                        refine .ofT (by simp [hend, hat2]) ?_
                        conv => cbv
                        refine .ofT (by simp [hend]) ?_
                        conv => cbv
                        exact ⟨rfl⟩
                    · refine .ofF (by simp [hat3, w4]; exact fz1 h6 hq1) ?_
                      conv => cbv
                      refine .ofF rfl ?_
                      have hend := hend hc (by omega)
                      conv => cbv
                      repeat (first | (refine ⟨⟨?_⟩, ?_⟩; (focus (first | exact ⟨rfl, hsl.symm, v7⟩ | exact v6 | (simp; done) | (simp; omega)))))
                      refine .ofT (by simp [hend, hat2]) ?_
                      conv => cbv
                      refine .ofT (by simp [hend]) ?_
                      conv => cbv
                      exact ⟨rfl⟩
                  · refine .ofT (by simp [hc]) ?_
                    conv => cbv
                    refine .ofT rfl ?_
                    conv => cbv
                    exact ⟨rfl⟩
  · refine .ofT (by simp [hf]) ?_
    conv => cbv
    refine .ofT rfl ?_
    conv => cbv
    exact ⟨rfl⟩
end Go.Am
