/- A range over a function: the code of the function that is ranged over. -/
import Derived.Test.YtckgeadidjmpcaaAmPartD
namespace Go.Am
set_option linter.all false
set_option linter.deprecated false
section
variable {P : Program} {a : Act} {w w' wb : World} {I I' Ib : Nat → Prop} {σ σ' σb : Sig} {M M' Mb : MS} {T : TT} {G : Ctx} {env : List AV} {l D : Nat} {rec : Option AExit → Loop}
theorem Oper.wpIn_q {F : Fence} {n : Nat} {o : Oper} {K K' : Act → World → Prop} {Q Q' : Exit → Act → World → Prop} (hK : ∀ a w, K a w → K' a w) (hQ : ∀ e a w, e ≠ .normal → Q e a w → Q' e a w) (h : o.wpIn F n P a w K Q) : o.wpIn F n P a w K' Q' := by
  refine ⟨h.1, ?_⟩
  have h := h.2
  revert h
  cases (o.semAt F.round a.eval).run P w with
  | ok v w' =>
    cases v <;> intro h <;> first | exact hK _ _ h | exact h.elim | skip
    · refine ⟨h.1, h.2.1, fun cs hr => ?_⟩
      obtain ⟨e, w2, fr, q, s⟩ := h.2.2 cs hr
      refine ⟨e, w2, fr, ?_, s⟩
      cases e with
      | returned v => exact hK _ _ q
      | panicked ch => exact hQ _ _ _ (by simp) q
      | outgrown => obtain ⟨x, y, q⟩ := q; exact ⟨x, y, hQ _ _ _ (by simp) q⟩
    · refine ⟨h.1, h.2.mono fun e w2 q => ?_⟩
      cases e with
      | returned v => exact hK _ _ q
      | panicked ch => exact hQ _ _ _ (by simp) q
      | outgrown => obtain ⟨x, y, q⟩ := q; exact ⟨x, y, hQ _ _ _ (by simp) q⟩
    · exact ⟨h.1, h.2.mono fun v w2 q => hK _ _ q⟩
  | halt h w' => cases h <;> intro q <;> first | exact hQ _ _ _ (by simp) q | exact q.elim
theorem wpListIn_app {F : Fence} {n : Nat} {ops : Array Oper} {Q Q' : Exit → Act → World → Prop} {ys : List Oper} (hn : ∀ a w, Q' .normal a w → wpListIn F n P ops Q ys a w) (hQ : ∀ e a w, e ≠ .normal → Q' e a w → Q e a w) :
    ∀ (xs : List Oper) (a : Act) (w : World), wpListIn F n P ops Q' xs a w → wpListIn F n P ops Q (xs ++ ys) a w
  | [], a, w, h => hn a w h
  | x :: xs, a, w, h => by
    simp only [List.cons_append]
    unfold wpListIn at h ⊢
    split
    · rename_i hw
      rw [if_pos hw] at h
      exact Oper.wpIn_q (fun a w h => wpListIn_app hn hQ xs a w h) hQ h
    · rename_i hw
      rw [if_neg hw] at h
      exact ⟨h.1, wpListIn_app hn hQ xs _ _ h.2⟩
structure Yst (wb : World) (Ib : Nat → Prop) (σb : Sig) (Mb : MS) (l D : Nat) (rec : Option AExit → Loop) (env : List AV) (M : MS) (nx : Nat) (p : Option AExit) (a : Act) (w : World) (I : Nat → Prop) (σ : Sig) : Prop where
  st : St [] wb Ib σb Mb env M nx a w I σ
  recd : Frn w I σ M l (.loop (rec p))
  dfr : Frn w I σ M D (.deferred (some []))
theorem Yst.base {nx : Nat} {p : Option AExit} (h : Yst wb Ib σb Mb l D rec env M nx p a w I σ) : St [] w I σ M env M nx a w I σ := ⟨h.st.envr, h.st.len, h.st.ok, h.st.free, Ext.refl h.st.ok, h.st.def0⟩
theorem Yst.next {env' : List AV} {nx nx' : Nat} {p : Option AExit} {a' : Act} (h : Yst wb Ib σb Mb l D rec env M nx p a w I σ) (k : St [] w I σ M env' M' nx' a' w' I' σ') : Yst wb Ib σb Mb l D rec env' M' nx' p a' w' I' σ' :=
  ⟨⟨k.envr, k.len, k.ok, k.free, h.st.ext.trans k.ext, k.def0⟩, h.recd.ext k.ext, h.dfr.ext k.ext⟩
theorem yld_run {o : Oper} {args : List AV} {l' : Nat} (henv : EnvR w I σ env a.tmps) (h : yldArgs env o.op = some (l', args)) :
    ∃ us : List Value, VRs w I σ args us ∧ (∀ c, o.op ≠ .defer c) ∧ (execOp a.eval o).run P w = (Instr.yield l' us.toArray).run P w := by
  unfold yldArgs at h
  split at h <;> (try (cases h; done))
  rename_i c hop
  split at h <;> (try (cases h; done))
  rename_i f hcal
  split at h <;> (try (cases h; done))
  rename_i l2 hf
  cases h
  have hfv := opv_ok henv f
  rw [hf] at hfv
  simp only [VR] at hfv
  refine ⟨c.args.toList.map a.eval, opvs_ok henv c.args.toList, fun c' hc => (by rw [hop] at hc; cases hc), ?_⟩
  simp only [execOp, hop, resolve, hcal, hfv, Deferred.ofValue, pure_bind, invoke]
  congr 2
  apply Array.ext'
  simp
theorem wopsY_ok (hT : ∀ t i, T t = some i → TIok P t i) (hG : ∀ f C, G f = some C → CSound P f C) {H : Hd} (hH : HdOk P wb Ib σb Mb l D rec H) {all : List Oper} {Q : Exit → Act → World → Prop} {K : Nat → RS → Option AExit → Prop} :
    ∀ (os : List Oper) (i base : Nat) (r : RS) (p : Option AExit) (a : Act) (w : World) (I : Nat → Prop) (σ : Sig), wopsY T G all l H os i base r p K → Yst wb Ib σb Mb l D rec r.env r.M (base + 8 * i) p a w I σ → ResOk r.res a.tmps →
      (∀ base' r' p' a' w' I' σ', K base' r' p' → Yst wb Ib σb Mb l D rec r'.env r'.M (base' + 8 * (i + os.length)) p' a' w' I' σ' → Q .normal a' w') → wpListIn (FW none) 0 P all.toArray Q os a w
  | [], i, base, r, p, a, w, I, σ, h, hs, _, hQ => hQ base r p a w I σ h (by simpa using hs)
  | o :: os, i, base, r, p, a, w, I, σ, h, hs, hres, hQ => by
    have hQ' : ∀ base' r' p' a' w' I' σ', K base' r' p' → Yst wb Ib σb Mb l D rec r'.env r'.M (base' + 8 * (i + 1 + os.length)) p' a' w' I' σ' → Q .normal a' w' := fun base' r' p' a' w' I' σ' hk hst => hQ base' r' p' a' w' I' σ' hk (by
      rw [show i + (o :: os).length = i + 1 + os.length by simp; omega]; exact hst)
    unfold wopsY at h
    split at h
    · rename_i l' args hy
      split at h <;> (try exact h.elim)
      rename_i hg hl
      have hl := (Nat.eq_of_beq_eq_true hl).symm
      subst hl
      obtain ⟨us, hus, hnd, hrun⟩ := yld_run (P := P) hs.st.envr hy
      obtain ⟨hz, hround⟩ := hH args r.M (base + 8 * i) _ h w I σ us ⟨hs.st.ok, hs.st.free, hs.st.ext, hs.recd, hs.dfr⟩ hus
      unfold wpListIn
      rw [if_pos (by simp [Region.wanted, hg])]
      refine ⟨fun f _ => FW_fn none f, ?_⟩
      rw [FW_round, Oper.semAt_eq none a.eval o hnd, hrun, run_yield hs.recd.here (by simpa using hz)]
      refine ⟨fun q => (by rw [FW_depth] at q; cases q), hround.mono fun e w' hq => ?_⟩
      obtain ⟨M', nx', p', I', σ', hk, rfl, hR, hK⟩ := hq
      refine wopsY_ok hT hG hH os (i + 1) (nx' - 8 * (i + 1)) _ p' _ w' I' σ' hk ⟨⟨?_, ?_, hR.ok, fun k hk => hR.free k (by omega), hR.ext, ?_⟩, hR.recd, hR.dfr⟩ (hres.put _ _) hQ'
      · exact EnvR.put (hs.st.envr.keep hK) hs.st.len (by simp only [VR])
      · show (lset? _ _ _).length ≤ _
        rw [lset?_length, put_size]; exact hs.st.len
      · rw [put_defers]; exact hs.st.def0
    · have := wopsN_seqIn (ρ := none) (ds := []) (w0 := w) (I0 := I) (σ0 := σ) (M0 := r.M) (Q := fun e a w => match e with | .normal => wpListIn (FW none) 0 P all.toArray Q os a w | e => Q e a w) hT hG [o] i r a w I σ h hs.base hres
        fun r' a' w' I' σ' hk hst hre => wopsY_ok hT hG hH os (i + 1) base r' p a' w' I' σ' hk (hs.next hst) hre hQ'
      refine wpListIn_app (ys := os) (fun a w h => h) (fun e a w hne h => ?_) [o] a w this
      cases e <;> first | exact h | exact absurd rfl hne
theorem ywp_ok {m : Nat} (hm : ∀ k, m ≤ k → σb k = none) (hp : P.follows .mixedOrders = true) (hT : ∀ t i, T t = some i → TIok P t i) (hG : ∀ f C, G f = some C → CSound P f C) {H : Hd} (hH : HdOk P wb Ib σb Mb l D rec H) :
    ∀ (c : Code), codeOk c = true → ∀ (Qa : AExit → YS → Prop) (Qm : Exit → Act → World → Prop) (s : YS) (a : Act) (w : World) (I : Nat → Prop) (σ : Sig),
      ywp T G m l H c Qa s → Yst wb Ib σb Mb l D rec s.s.env s.s.M s.s.nx s.pend a w I σ → (∀ e s' a' w' I' σ', Qa e s' → Yst wb Ib σb Mb l D rec s'.s.env s'.s.M s'.s.nx s'.pend a' w' I' σ' → Qm e.to a' w') → c.wpIn (FW none) 0 P Qm a w := by
  intro c
  induction c with
  | skip => intro _ Qa Qm s a w I σ h hs hQ; exact wpIn_skip (hQ .normal s a w I σ h hs)
  | ret => intro _ Qa Qm s a w I σ h hs hQ; exact wpIn_ret (hQ .ret s a w I σ h hs)
  | exit id => intro _ Qa Qm s a w I σ h hs hQ; exact wpIn_exit (hQ (.exit id) s a w I σ h hs)
  | region id ops draw =>
    intro hc Qa Qm s a w I σ h hs hQ
    cases draw with
    | false =>
      simp only [ywp] at h
      refine wpIn_region_list ?_
      have := wopsY_ok (Q := Qm) hT hG hH ops.toList 0 s.s.nx ⟨s.s.env, s.s.M, [], []⟩ s.pend a w I σ h (by simpa using hs) (fun s b hb => by simp [rget] at hb)
        fun base' r' p' a' w' I' σ' hk hst => hQ .normal ⟨⟨r'.env, r'.M, base' + 8 * ops.toList.length⟩, p'⟩ a' w' I' σ' hk (by simpa using hst)
      simpa using this
    | true =>
      simp only [ywp] at h
      refine region_okIn (ρ := none) (ds := []) (w0 := w) (I0 := I) (σ0 := σ) (M0 := s.s.M) (draw := true) (K := fun s' => Qa .normal ⟨s', s.pend⟩) hp hT hG hc h hs.base fun s' a' w' I' σ' hk hst => hQ .normal ⟨s', s.pend⟩ a' w' I' σ' hk (hs.next hst)
  | seq x y ihx ihy =>
    intro hc Qa Qm s a w I σ h hs hQ
    simp only [codeOk, Bool.and_eq_true] at hc
    refine wpIn_seq (ihx hc.1 _ _ s a w I σ h hs fun e s' a' w' I' σ' hq hst => ?_)
    cases e with
    | normal => exact ihy hc.2 Qa Qm s' a' w' I' σ' hq hst hQ
    | exit id => exact hQ _ s' a' w' I' σ' hq hst
    | ret => exact hQ _ s' a' w' I' σ' hq hst
  | cond c x y ihx ihy =>
    intro hc Qa Qm s a w I σ h hs hQ
    simp only [codeOk, Bool.and_eq_true] at hc
    simp only [ywp] at h
    split at h
    · rename_i b hb
      have hv := opv_ok hs.st.envr c
      rw [hb] at hv
      simp only [VR] at hv
      exact wpIn_cond_split hv (fun ht => ihx hc.1 Qa Qm s a w I σ (h.t ht) hs hQ) fun hf => ihy hc.2 Qa Qm s a w I σ (h.f hf) hs hQ
    · exact h.elim
  | block id c ih =>
    intro hc Qa Qm s a w I σ h hs hQ
    simp only [codeOk] at hc
    refine wpIn_block (ih hc _ _ s a w I σ h hs fun e s' a' w' I' σ' hq hst => ?_)
    cases e with
    | normal => exact hQ .normal s' a' w' I' σ' hq hst
    | exit i =>
      simp only at hq
      simp only [AExit.to, Exit.inBlock]
      split at hq
      · rename_i hb
        rw [if_pos (Nat.eq_of_beq_eq_true hb)]
        exact hQ .normal s' a' w' I' σ' hq hst
      · rename_i hb
        rw [if_neg (Nat.ne_of_beq_eq_false hb)]
        exact hQ (.exit i) s' a' w' I' σ' hq hst
    | ret => exact hQ .ret s' a' w' I' σ' hq hst
  | loop c ih =>
    intro hc Qa Qm s a w I σ h hs hQ
    simp only [codeOk] at hc
    obtain ⟨ι, inv, μ, x, pend, start, round⟩ := h
    have into : ∀ {s1 s2 : AState} {a : Act} {w : World} {I : Nat → Prop} {σ : Sig}, Yst wb Ib σb Mb l D rec s1.env s1.M s1.nx none a w I σ → fit m s1 s2 → ∃ J τ, Yst wb Ib σb Mb l D rec s2.env s2.M s2.nx none a w J τ := by
      intro s1 s2 a w I σ hy hf
      obtain ⟨J, τ, h1, h2, h3⟩ := fit_ok2 hm hy.st hf
      refine ⟨J, τ, h1, ⟨hy.recd.here, fun q => hy.recd.own (h3 _ q), fun q => ?_⟩, ⟨hy.dfr.here, fun q => hy.dfr.own (h3 _ q), fun q => ?_⟩⟩
      · rcases h2 _ q with q | q
        · exact hy.recd.imm q
        · exact hy.recd.own q
      · rcases h2 _ q with q | q
        · exact hy.dfr.imm q
        · exact hy.dfr.own q
    refine wpIn_loop_ghost (fun n a w => ∃ x, μ x = n ∧ ∃ I σ, Yst wb Ib σb Mb l D rec (inv x).env (inv x).M (inv x).nx none a w I σ) (μ x) ⟨x, rfl, into (by rw [pend] at hs; exact hs) start⟩ ?_
    rintro n a w ⟨y, rfl, I, σ, hst⟩
    refine ih hc _ _ ⟨inv y, none⟩ a w I σ (round y) hst fun e s' a' w' I' σ' hq hst' => ?_
    cases e with
    | normal =>
      simp only at hq
      split at hq
      · rename_i hpn
        obtain ⟨z, hz, hf⟩ := hq
        exact ⟨μ z, hz, z, rfl, into (by rw [hpn] at hst'; exact hst') hf⟩
      · exact hq.elim
    | exit id => exact hQ (.exit id) s' a' w' I' σ' hq hst'
    | ret => exact hQ .ret s' a' w' I' σ' hq hst'
  | rangeFunc f ps asg b _ _ => intro _ Qa Qm s a w I σ h; exact h.elim
  | scope b _ => intro _ Qa Qm s a w I σ h; exact h.elim
  | label l => intro _ Qa Qm s a w I σ h; exact h.elim
  | goto l => intro _ Qa Qm s a w I σ h; exact h.elim
  | refuse y => intro _ Qa Qm s a w I σ h; exact h.elim
end
end Go.Am
/- A range over a function: the statement, and a function that holds it. -/
namespace Go.Am
set_option linter.all false
set_option linter.deprecated false
def codeOkR : Code → Bool
  | .region _ ops true => edgesOk ops.toList && slotsOk ops.toList
  | .seq a b => codeOkR a && codeOkR b
  | .cond _ a b => codeOkR a && codeOkR b
  | .block _ c => codeOkR c
  | .loop c => codeOkR c
  | .rangeFunc _ _ a b => codeOk a && codeOk b
  | _ => true
abbrev markOf (D : Nat) : Deferred := { target := .collected D, args := #[] }
section
variable {ds : List Deferred} {P : Program} {a : Act} {w w' w0 : World} {I I' I0 : Nat → Prop} {σ σ' σ0 : Sig} {M M' M0 : MS} {T : TT} {G : Ctx} {env : List AV} {key nx : Nat}
def Marks (B : Nat) (w : World) (I : Nat → Prop) (σ : Sig) (M : MS) (ds : List Deferred) : Prop := ∃ Ds : List Nat, ds = Ds.map markOf ∧ Ds.Nodup ∧ ∀ D ∈ Ds, B ≤ D ∧ Frn w I σ M D (.deferred (some []))
theorem Marks.ext {B : Nat} (h : Marks B w I σ M ds) (e : Ext w I σ M w' I' σ' M') : Marks B w' I' σ' M' ds := let ⟨Ds, h1, h2, h3⟩ := h; ⟨Ds, h1, h2, fun D hD => ⟨(h3 D hD).1, (h3 D hD).2.ext e⟩⟩
theorem Marks.of {B : Nat} {J : Nat → Prop} {τ : Sig} {N : MS} (h : Marks B w I σ M ds) (h2 : ∀ b, J b → I b ∨ Owned σ M b) (h3 : ∀ b, Owned τ N b → Owned σ M b) : Marks B w J τ N ds := by
  obtain ⟨Ds, e1, e2, e3⟩ := h
  refine ⟨Ds, e1, e2, fun D hD => ⟨(e3 D hD).1, (e3 D hD).2.here, fun q => (e3 D hD).2.own (h3 _ q), fun q => ?_⟩⟩
  rcases h2 _ q with q | q
  · exact (e3 D hD).2.imm q
  · exact (e3 D hD).2.own q
theorem finit_ok {args : List AV} {vs : List Value} (n : Nat) (h : VRs w I σ args vs) : EnvR w I σ (finit n args) (vs.toArray ++ Array.replicate (n - vs.toArray.size) undef) ∧ (finit n args).length ≤ (vs.toArray ++ Array.replicate (n - vs.toArray.size) undef).size := by
  have hlen := h.length
  refine ⟨fun t => ?_, ?_⟩
  · simp only [finit, lapp_get]
    by_cases ht : t < args.length
    · rw [if_pos ht]
      have := h.get t ht
      simp only [Array.getD_eq_getD_getElem?, List.getD] at this ⊢
      rw [Array.getElem?_append_left (by simp; omega)]
      simpa using this
    · rw [if_neg ht, uns_get]
      simp only [VR]
  · have e1 : (lapp args (uns (n - llen args))).length = args.length + (n - llen args) := by
      have : ∀ (xs ys : List AV), (lapp xs ys).length = xs.length + ys.length := by
        intro xs
        induction xs with
        | nil => simp [lapp]
        | cons x xs ih => intro ys; simp [lapp, ih]; omega
      rw [this, uns_len]
    have e2 := llen_eq args
    rw [finit, e1, Array.size_append, Array.size_replicate, List.size_toArray]
    omega
/-- the functions that may be ranged over -/
structure FnOk (P : Program) (g : Nat) (c : Code) (n : Nat) : Prop where
  func : ∃ fn : Func, P.funcs[g]? = some fn ∧ fn.body = some c ∧ fn.ntmps = n ∧ fn.results = #[] ∧ (fn.name == "runtime.NumGoroutine") = false
  code : codeOk c = true
def FnsOk (P : Program) (FT : Fns) : Prop := ∀ g c n, FT g = some (c, n) → FnOk P g c n
theorem rwp_ok {m : Nat} {FT : Fns} (hm : ∀ k, m ≤ k → σ0 k = none) (hp : P.follows .mixedOrders = true) (hT : ∀ t i, T t = some i → TIok P t i) (hG : ∀ f C, G f = some C → CSound P f C) (hFT : FnsOk P FT) :
    ∀ (c : Code), codeOkR c = true → ∀ (Qa : AExit → AState → Prop) (Qm : Exit → Act → World → Prop) (s : AState) (ds : List Deferred) (a : Act) (w : World) (I : Nat → Prop) (σ : Sig),
      rwp T G FT m c Qa s → St ds w0 I0 σ0 M0 s.env s.M s.nx a w I σ → Marks w0.heap.size w I σ s.M ds →
      (∀ e s' ds' a' w' I' σ', Qa e s' → St ds' w0 I0 σ0 M0 s'.env s'.M s'.nx a' w' I' σ' → Marks w0.heap.size w' I' σ' s'.M ds' → Qm e.to a' w') → c.wpIn (FW none) 0 P Qm a w := by
  intro c
  induction c with
  | skip => intro _ Qa Qm s ds a w I σ h hs hk hQ; exact wpIn_skip (hQ .normal s ds a w I σ h hs hk)
  | ret => intro _ Qa Qm s ds a w I σ h hs hk hQ; exact wpIn_ret (hQ .ret s ds a w I σ h hs hk)
  | exit id => intro _ Qa Qm s ds a w I σ h hs hk hQ; exact wpIn_exit (hQ (.exit id) s ds a w I σ h hs hk)
  | region id ops draw =>
    intro hc Qa Qm s ds a w I σ h hs hk hQ
    have hb : St ds w I σ s.M s.env s.M s.nx a w I σ := ⟨hs.envr, hs.len, hs.ok, hs.free, Ext.refl hs.ok, hs.def0⟩
    refine region_okIn (ρ := none) (ds := ds) (w0 := w) (I0 := I) (σ0 := σ) (M0 := s.M) (draw := draw) (K := fun s => Qa .normal s) hp hT hG (by cases draw <;> simpa [codeOkR, codeOk] using hc) (by simp only [rwp] at h; cases draw <;> exact h) hb fun s' a' w' I' σ' hq hst => ?_
    exact hQ .normal s' ds a' w' I' σ' hq ⟨hst.envr, hst.len, hst.ok, hst.free, hs.ext.trans hst.ext, hst.def0⟩ (hk.ext hst.ext)
  | seq x y ihx ihy =>
    intro hc Qa Qm s ds a w I σ h hs hk hQ
    simp only [codeOkR, Bool.and_eq_true] at hc
    refine wpIn_seq (ihx hc.1 _ _ s ds a w I σ h hs hk fun e s' ds' a' w' I' σ' hq hst hk' => ?_)
    cases e with
    | normal => exact ihy hc.2 Qa Qm s' ds' a' w' I' σ' hq hst hk' hQ
    | exit id => exact hQ _ s' ds' a' w' I' σ' hq hst hk'
    | ret => exact hQ _ s' ds' a' w' I' σ' hq hst hk'
  | cond c x y ihx ihy =>
    intro hc Qa Qm s ds a w I σ h hs hk hQ
    simp only [codeOkR, Bool.and_eq_true] at hc
    simp only [rwp] at h
    split at h
    · rename_i b hb
      have hv := opv_ok hs.envr c
      rw [hb] at hv
      simp only [VR] at hv
      exact wpIn_cond_split hv (fun ht => ihx hc.1 Qa Qm s ds a w I σ (h.t ht) hs hk hQ) fun hf => ihy hc.2 Qa Qm s ds a w I σ (h.f hf) hs hk hQ
    · exact h.elim
  | block id c ih =>
    intro hc Qa Qm s ds a w I σ h hs hk hQ
    simp only [codeOkR] at hc
    refine wpIn_block (ih hc _ _ s ds a w I σ h hs hk fun e s' ds' a' w' I' σ' hq hst hk' => ?_)
    cases e with
    | normal => exact hQ .normal s' ds' a' w' I' σ' hq hst hk'
    | exit i =>
      simp only at hq
      simp only [AExit.to, Exit.inBlock]
      split at hq
      · rename_i hb
        rw [if_pos (Nat.eq_of_beq_eq_true hb)]
        exact hQ .normal s' ds' a' w' I' σ' hq hst hk'
      · rename_i hb
        rw [if_neg (Nat.ne_of_beq_eq_false hb)]
        exact hQ (.exit i) s' ds' a' w' I' σ' hq hst hk'
    | ret => exact hQ .ret s' ds' a' w' I' σ' hq hst hk'
  | loop c ih =>
    intro hc Qa Qm s ds a w I σ h hs hk hQ
    simp only [codeOkR] at hc
    obtain ⟨ι, inv, μ, x, start, round⟩ := h
    have into : ∀ {s1 s2 : AState} {ds : List Deferred} {a : Act} {w : World} {I : Nat → Prop} {σ : Sig}, St ds w0 I0 σ0 M0 s1.env s1.M s1.nx a w I σ → Marks w0.heap.size w I σ s1.M ds → fit m s1 s2 → ∃ J τ, St ds w0 I0 σ0 M0 s2.env s2.M s2.nx a w J τ ∧ Marks w0.heap.size w J τ s2.M ds := by
      intro s1 s2 ds a w I σ hy hk hf
      obtain ⟨J, τ, h1, h2, h3⟩ := fit_ok2 hm hy hf
      exact ⟨J, τ, h1, hk.of h2 h3⟩
    refine wpIn_loop_ghost (fun n a w => ∃ x, μ x = n ∧ ∃ ds I σ, St ds w0 I0 σ0 M0 (inv x).env (inv x).M (inv x).nx a w I σ ∧ Marks w0.heap.size w I σ (inv x).M ds) (μ x) ⟨x, rfl, ds, into hs hk start⟩ ?_
    rintro n a w ⟨y, rfl, ds, I, σ, hst, hk⟩
    refine ih hc _ _ (inv y) ds a w I σ (round y) hst hk fun e s' ds' a' w' I' σ' hq hst' hk' => ?_
    cases e with
    | normal =>
      obtain ⟨z, hz, hf⟩ := hq
      exact ⟨μ z, hz, z, rfl, ds', into hst' hk' hf⟩
    | exit id => exact hQ (.exit id) s' ds' a' w' I' σ' hq hst' hk'
    | ret => exact hQ .ret s' ds' a' w' I' σ' hq hst' hk'
  | rangeFunc f ps asg b _ _ =>
    intro hc Qa Qm s ds a w I σ h hs hk hQ
    simp only [codeOkR, Bool.and_eq_true] at hc
    simp only [rwp] at h
    split at h <;> (try exact h.elim)
    rename_i g caps hfv
    split at h <;> (try exact h.elim)
    rename_i c n hg
    have hv := opv_ok hs.envr f
    rw [hfv] at hv
    simp only [VR] at hv
    obtain ⟨us, hus, hcaps⟩ := hv
    obtain ⟨⟨fn, hfn, hbody, rfl, hres, hname⟩, hcode⟩ := hFT g c n hg
    refine wpIn_rangeFunc ?_
    intro fc _
    obtain ⟨W1, hW1⟩ : ∃ W1, W1 = (w.alloc (.deferred (some []))).alloc (.loop (recOf fc a.tmps ps asg b w.heap.size none)) := ⟨_, rfl⟩
    have hz1 : (w.alloc (.deferred (some []))).heap.size = w.heap.size + 1 := World.size_alloc ..
    have s1 : Side w I σ s.M (w.alloc (.deferred (some []))) := Side.alloc hs.ok _
    have ok1 := s1.ok hs.ok
    have s2 : Side (w.alloc (.deferred (some []))) I σ s.M W1 := by rw [hW1]; exact Side.alloc ok1 _
    have d1 : Frn (w.alloc (.deferred (some []))) I σ s.M w.heap.size (.deferred (some [])) := Frn.new hs.ok _
    have at1 : ∀ b, b < w.heap.size → (w.alloc (.deferred (some []))).heap[b]? = w.heap[b]? := fun b hb => by
      show (w.heap.push _)[b]? = _
      rw [Array.getElem?_push, if_neg (by omega)]
    have at2 : ∀ b, b < w.heap.size + 1 → W1.heap[b]? = (w.alloc (.deferred (some []))).heap[b]? := fun b hb => by
      rw [hW1]
      show ((w.alloc _).heap.push _)[b]? = _
      rw [Array.getElem?_push, if_neg (by omega)]
    have d2 : Frn W1 I σ s.M w.heap.size (.deferred (some [])) := d1.side (at2 _ (by omega))
    have r2 : Frn W1 I σ s.M (w.heap.size + 1) (.loop (recOf fc a.tmps ps asg b w.heap.size none)) := by
      have := Frn.new (o := .loop (recOf fc a.tmps ps asg b w.heap.size none)) ok1
      rw [hz1] at this
      rw [hW1]; exact this
    have x2 : Ext w I σ s.M W1 I σ s.M := s2.ext (s1.ext (Ext.refl hs.ok) at1) fun b hb => at2 b (by omega)
    have K2 : Keep w I σ W1 I σ := s1.keep.tr s2.keep
    refine ⟨w.heap.size + 1, [markOf w.heap.size], W1, { target := .fn (.func g) us, args := #[.func (.yield (w.heap.size + 1)) #[] #[]] }, W1, g, #[.func (.yield (w.heap.size + 1)) #[] #[]] ++ us, W1, ?_, ?_, fun f' _ => FW_fn none f', ?_, fun q => (by rw [FW_depth] at q; cases q), ?_⟩
    · rw [hW1, FW_round]; exact run_enterLoop_outer _ _ _ _ _
    · simp [resolve, hus, Deferred.ofValue]
      rfl
    · simp only [invoke, callFunc, Sem.run_bind, run_program, Result.andThen_ok, hfn, hname, hbody, Option.isNone_some, Bool.false_eq_true, if_false, Sem.run_pure]
    · have hy := h (w.heap.size + 1)
      have hH : HdOk P w I σ s.M (w.heap.size + 1) w.heap.size (recOf fc a.tmps ps asg b w.heap.size) (bodyH T G asg b s.env ps.toList) :=
        bodyH_ok hp hT hG hc.1 hc.2 hs.ok hs.envr hs.len (Nat.le_refl _) (by omega) (by omega)
      have hargs : VRs W1 I σ (lapp [.yl (w.heap.size + 1)] caps) (.func (.yield (w.heap.size + 1)) #[] #[] :: us.toList) := by
        simp only [lapp, VRs]
        exact ⟨_, _, rfl, by simp only [VR], VRs.keep K2 _ _ hcaps⟩
      obtain ⟨f1, f2⟩ := finit_ok fn.ntmps hargs
      have ez : (#[.func (.yield (w.heap.size + 1)) #[] #[]] ++ us : Array Value) = (.func (.yield (w.heap.size + 1)) #[] #[] :: us.toList).toArray := by
        apply Array.ext'; simp
      rw [ez]
      refine callsIn_of_wp (F := FW none) hfn hbody (FW_fn none _) ?_
      refine ywp_ok (m := s.nx) hs.free hp hT hG hH c hcode _ _ ⟨⟨finit fn.ntmps (lapp [.yl (w.heap.size + 1)] caps), s.M, s.nx⟩, none⟩ _ W1 I σ hy ⟨⟨f1, f2, s2.ok ok1, hs.free, x2, rfl⟩, r2, d2⟩ fun e ys a' w' I' σ' hq hst => ?_
      have hst' := hst
      have x3 := hst.st.ext
      obtain ⟨w4, hw4⟩ : ∃ w4, w4 = w'.putObj (w.heap.size + 1) (.loop { recOf fc a.tmps ps asg b w.heap.size ys.pend with state := .exhausted }) := ⟨_, rfl⟩
      have s4 : Side w' I' σ' ys.s.M w4 := by rw [hw4]; exact Side.putObj hst.recd _
      have done : (match ys.pend with
            | none => Qa .normal ⟨s.env, ys.s.M, ys.s.nx⟩
            | some p => Qa p ⟨s.env, ys.s.M, ys.s.nx⟩) → a'.defers = [] ∧ ∃ v, (results fn a'.tmps).run P w' = .ok v w' ∧ rangePost (FW none) 0 P (w.heap.size + 1) Qm { a with defers := [markOf w.heap.size] ++ a.defers } (.returned v) w' := by
        intro hq
        refine ⟨hst.st.def0, .tuple #[], ?_, ?_⟩
        · simp [results, hres]
        · refine ⟨_, w4, by rw [hw4]; exact run_endLoop hst.recd.here (by cases ys.pend <;> simp [recOf]), ?_⟩
          have go : ∀ p, Qa p ⟨s.env, ys.s.M, ys.s.nx⟩ → Qm p.to { a with defers := [markOf w.heap.size] ++ a.defers } w4 := by
            intro p hq
            refine hQ p ⟨s.env, ys.s.M, ys.s.nx⟩ (markOf w.heap.size :: ds) _ w4 I' σ' hq ⟨?_, hs.len, s4.ok hst.st.ok, hst.st.free, ?_, ?_⟩ ?_
            · exact (hs.envr.keep (x3.keep hs.ok)).keep s4.keep
            · refine s4.ext (hs.ext.trans x3) fun c hc => ?_
              have := hs.ext.size
              rw [hw4]; exact World.putObj_heap_other (by omega)
            · show [markOf w.heap.size] ++ a.defers = _
              rw [hs.def0]; rfl
            · obtain ⟨Ds, e1, e2, e3⟩ := hk
              refine ⟨w.heap.size :: Ds, by rw [e1]; rfl, List.nodup_cons.2 ⟨fun hm => absurd (e3 _ hm).2.lt (by omega), e2⟩, fun D hD => ?_⟩
              have hne : D ≠ w.heap.size + 1 := by
                rcases List.mem_cons.1 hD with rfl | hD
                · omega
                · have := (e3 D hD).2.lt; omega
              rcases List.mem_cons.1 hD with rfl | hD
              · exact ⟨hs.ext.size, hst.dfr.side (by rw [hw4]; exact World.putObj_heap_other hne)⟩
              · exact ⟨(e3 D hD).1, ((e3 D hD).2.ext x3).side (by rw [hw4]; exact World.putObj_heap_other hne)⟩
          cases hpd : ys.pend with
          | none => rw [hpd] at hq; exact go .normal hq
          | some p =>
            rw [hpd] at hq
            cases p with
            | normal => exact wpIn_skip (go _ hq)
            | exit id => exact wpIn_exit (go _ hq)
            | ret => exact wpIn_ret (go _ hq)
      cases e with
      | normal => exact done hq
      | ret => exact done hq
      | exit id => exact hq.elim
  | scope b _ => intro _ Qa Qm s ds a w I σ h; exact h.elim
  | label l => intro _ Qa Qm s ds a w I σ h; exact h.elim
  | goto l => intro _ Qa Qm s ds a w I σ h; exact h.elim
  | refuse y => intro _ Qa Qm s ds a w I σ h; exact h.elim
end
end Go.Am
/- A function that ranges over functions keeps its contract. -/
namespace Go.Am
set_option linter.all false
set_option linter.deprecated false
section
variable {ds : List Deferred} {P : Program} {a : Act} {w w' w0 : World} {I I' I0 : Nat → Prop} {σ σ' σ0 : Sig} {M M' M0 : MS} {T : TT} {G : Ctx} {env : List AV} {key nx : Nat}
/-- the marks are taken off, one behind the other -/
theorem marks_leave {fn : Func} {tmps : Array Value} {R : Ending → World → Prop} : ∀ (Ds : List Nat) (w : World), Ok w I σ M → Ds.Nodup → (∀ D ∈ Ds, Frn w I σ M D (.deferred (some []))) →
    (∀ w', Side w I σ M w' → (∀ b, b ∉ Ds → w'.heap[b]? = w.heap[b]?) → ∃ v, (results fn tmps).run P w' = .ok v w' ∧ R (.returned v) w') → LeavesInM (FW none) 0 P fn tmps R (Ds.map markOf) .returning w
  | [], w, _, _, _, h => h w ⟨rfl, rfl, rfl, Nat.le_refl _, fun _ _ => rfl⟩ fun _ _ => rfl
  | D :: Ds, w, hok, hd, hD, h => by
    have h0 := hD D List.mem_cons_self
    have hn := List.nodup_cons.1 hd
    have s : Side w I σ M (w.putObj D (.deferred none)) := Side.putObj h0 _
    refine ⟨by simp, .inl ⟨D, w.putObj D (.deferred none), rfl, run_takeDeferred h0.here, ?_⟩⟩
    refine marks_leave Ds _ (s.ok hok) hn.2 (fun E hE => (hD E (List.mem_cons_of_mem _ hE)).side (World.putObj_heap_other (fun q => hn.1 (by rw [← q]; exact hE)))) fun w' hs hb => ?_
    refine h w' ⟨hs.os.trans s.os, hs.tape.trans s.tape, hs.output.trans s.output, Nat.le_trans s.size hs.size, fun b hb => (hs.blk b hb).trans (s.blk b hb)⟩ fun b hnb => ?_
    simp only [List.mem_cons, not_or] at hnb
    exact (hb b hnb.2).trans (World.putObj_heap_other hnb.1)
theorem fsoundR {f : FuncId} {fn : Func} {c : Code} {C : Contract} {FT : Fns} (hp : P.follows .mixedOrders = true) (hT : ∀ t i, T t = some i → TIok P t i) (hG : ∀ f C, G f = some C → CSound P f C) (hFT : FnsOk P FT)
    (hf : P.funcs[f]? = some fn) (hb : fn.body = some c) (hc : codeOkR c = true) (hn : (fn.name == "runtime.NumGoroutine") = false)
    (h : ∀ args M r, C.fn args M = some r → (∀ p ∈ r.vc, p ()) → WfVs args → (nodupK M → WfM M) →
      rwp T G FT M.length c (fun e s => fend T M.length fn.results.toList r.val (mapply M r.objs) e s) ⟨finit fn.ntmps args, M, M.length⟩) (hn0 : ∀ args M, C.nfn args M = none := by intros; rfl) : CSound P f C := by
  refine ⟨fun args M r hr hvc => ?_, fun args M r hr => by rw [hn0] at hr; cases hr⟩
  intro w I σ vs hok hfree hargs o a K Q hK
  have hrun : (callFunc f vs.toArray).run P w = .ok (.enter f vs.toArray) w := by
    simp only [callFunc, Sem.run_bind, run_program, Result.andThen_ok, hf, hn, hb, Option.isNone_some, Bool.false_eq_true, if_false, Sem.run_pure]
  rw [hrun]
  show Calls P f vs.toArray w _
  refine (callsIn_wide (n := 0)).1 ?_
  refine callsIn_of_wp_marks (F := FW none) hf hb (FW_fn none _) ?_
  obtain ⟨f1, f2⟩ := finit_ok fn.ntmps hargs
  have hst : St [] w I σ M (finit fn.ntmps args) M M.length { tmps := vs.toArray ++ Array.replicate (fn.ntmps - vs.toArray.size) undef, defers := [] } w I σ :=
    ⟨f1, f2, hok, hfree, Ext.refl hok, rfl⟩
  refine rwp_ok hfree hp hT hG hFT c hc _ _ _ [] _ _ I σ (h args M r hr hvc hargs.wf fun hd => hok.wfM M (fun _ _ h => h) hd) hst ⟨[], rfl, List.nodup_nil, fun _ h => by cases h⟩ fun e s' ds' a' w' I' σ' hq hst' hk' => ?_
  have done : (match resVs T s'.M s'.env fn.results.toList with
    | none => False
    | some vs => fit M.length ⟨[oneOr vs], s'.M, s'.nx⟩ ⟨[r.val], mapply M r.objs, M.length + 8⟩) → LeavesInM (FW none) 0 P fn a'.tmps (fun
      | .returned v, w'' => K (a.put o.dst v) w''
      | .panicked chain, w'' => Q (.panic chain) a w''
      | .outgrown, _ => LetsOut Q) a'.defers .returning w' := by
    intro hq
    obtain ⟨Ds, e1, e2, e3⟩ := hk'
    rw [hst'.def0, e1]
    refine marks_leave Ds w' hst'.ok e2 (fun D hD => (e3 D hD).2) fun w'' hs hbl => ?_
    have hst2 : St ds' w I σ M s'.env s'.M s'.nx a' w'' I' σ' := hs.st hst' fun b hb => hbl b fun hm => by have := (e3 b hm).1; omega
    have hst2 : St [] w I σ M s'.env s'.M s'.nx { a' with defers := [] } w'' I' σ' := ⟨hst2.envr, hst2.len, hst2.ok, hst2.free, hst2.ext, rfl⟩
    split at hq
    · exact hq.elim
    · rename_i vs' hvs
      obtain ⟨us, g2, g1⟩ := resVs_ok (P := P) (a := a') hT hst2.ok hst2.envr _ _ hvs
      have hus := g2.length
      obtain ⟨v, g3, g4⟩ : ∃ v, (results fn a'.tmps).run P w'' = .ok v w'' ∧ VR w'' I' σ' (oneOr vs') v := by
        refine ⟨if h : us.toArray.size = 1 then us.toArray[0] else .tuple us.toArray, ?_, ?_⟩
        · simp only [results, Sem.run_bind, Array.mapM_eq_mapM_toList, Sem.run_map]
          rw [g1 _ (fun _ => rfl) (fun _ _ => rfl)]
          rfl
        · cases vs' with
          | nil =>
            cases us with
            | nil => simp only [oneOr, VR]; exact ⟨#[], by simp, by simp only [VRs]⟩
            | cons u us => simp at hus
          | cons v vs' =>
            cases vs' with
            | nil =>
              simp only [VRs] at g2
              obtain ⟨u, us', rfl, h1, rfl⟩ := g2
              simpa [oneOr] using h1
            | cons v2 vs' =>
              have hne : ¬ us.toArray.size = 1 := by simp; simp at hus; omega
              rw [dif_neg hne]
              simp only [oneOr, VR]
              exact ⟨us.toArray, rfl, g2⟩
      refine ⟨v, g3, ?_⟩
      have hst3 : St [] w I σ M [oneOr vs'] s'.M s'.nx { tmps := #[v], defers := [] } w'' I' σ' := by
        refine ⟨fun t => ?_, by simp, hst2.ok, hst2.free, hst2.ext, rfl⟩
        cases t with
        | zero => exact g4
        | succ t => simp only [lget, VR]
      obtain ⟨J, τ, hf3⟩ := fit_ok (s := ⟨[oneOr vs'], s'.M, s'.nx⟩) hfree hst3 hq
      exact hK v w'' ⟨J, τ, hf3.envr 0, hf3.ok, hf3.ext⟩
  cases e with
  | normal => exact done hq
  | ret => exact done hq
  | exit id => exact hq.elim
end
end Go.Am
/- frame's reader: to, next; All and Split keep their contracts. -/
namespace Go.Am
set_option linter.all false
set_option linter.deprecated false
open Go.Proofs
set_option maxRecDepth 100000
set_option maxHeartbeats 4000000
theorem fgetG_fit {x : List (List D)} {a : Int} {g : Nat × Int × Int} (h0 : 0 ≤ a) (hf : g.2.2 = 0 → 0 ≤ a + 1 ∧ a + 1 < g.2.1 ∧ g.2.1 ≤ (x.length : Int) ∧ g.1 < 18446744073709551616) (h : (fgetG x a g).r = 0) :
    0 ≤ a ∧ a + 6 ≤ (fgetG x a g).n ∧ (fgetG x a g).n ≤ (x.length : Int) ∧ (fgetG x a g).p.length ≤ x.length := by
  by_cases h1 : g.2.2 = 10
  · simp only [fgetG, if_pos h1] at h
    exact absurd h (by decide)
  · by_cases h2 : g.2.2 = 0 ∧ 4 ≤ (x.length : Int) - g.2.1 ∧ (g.1 : Int) ≤ (x.length : Int) - g.2.1 - 4
    · by_cases h3 : bn (ckR ((x.drop a.toNat).take ((g.2.1 + g.1).toNat - a.toNat))) = bn ((x.drop (g.2.1 + g.1).toNat).take 4)
      · simp only [fgetG, if_neg h1, if_pos h2, if_pos h3]
        clear h3 h
        have hf := hf h2.1
        obtain ⟨q1, q2, q3, q4⟩ := hf
        obtain ⟨r1, r2, r3⟩ := h2
        refine ⟨h0, by omega, by omega, ?_⟩
        rw [List.length_take, List.length_drop]; omega
      · simp only [fgetG, if_neg h1, if_pos h2, if_neg h3] at h
        exact absurd h (by decide)
    · simp only [fgetG, if_neg h1, if_neg h2] at h
      exact absurd h (by decide)
theorem fgetR_fit {x : List (List D)} {a : Int} (h : (fgetR x a).r = 0) : 0 ≤ a ∧ a + 6 ≤ (fgetR x a).n ∧ (fgetR x a).n ≤ (x.length : Int) ∧ (fgetR x a).p.length ≤ x.length := by
  by_cases h1 : a < 0 ∨ (x.length : Int) ≤ a
  · simp only [fgetR, if_pos h1] at h
    exact absurd h (by decide)
  · simp only [fgetR, if_neg h1] at h ⊢
    refine fgetG_fit (by clear h; omega) (fun he => ?_) h
    have hf := @getS_fit (bn x) (a + 1) he
    rw [show (bn x).length = x.length by simp] at hf
    exact hf
theorem fgetG_bad {x : List (List D)} {a : Int} {g : Nat × Int × Int} (h : ¬ (fgetG x a g).r = 0) : fgetG x a g = ⟨0, [], 0, (fgetG x a g).r⟩ := by
  by_cases h1 : g.2.2 = 10
  · simp only [fgetG, if_pos h1]
  · by_cases h2 : g.2.2 = 0 ∧ 4 ≤ (x.length : Int) - g.2.1 ∧ (g.1 : Int) ≤ (x.length : Int) - g.2.1 - 4
    · by_cases h3 : bn (ckR ((x.drop a.toNat).take ((g.2.1 + g.1).toNat - a.toNat))) = bn ((x.drop (g.2.1 + g.1).toNat).take 4)
      · simp only [fgetG, if_neg h1, if_pos h2, if_pos h3] at h
        exact absurd trivial h
      · simp only [fgetG, if_neg h1, if_pos h2, if_neg h3]
    · simp only [fgetG, if_neg h1, if_neg h2]
theorem fgetR_bad {x : List (List D)} {a : Int} (h : ¬ (fgetR x a).r = 0) : fgetR x a = ⟨0, [], 0, (fgetR x a).r⟩ := by
  by_cases h1 : a < 0 ∨ (x.length : Int) ≤ a
  · simp only [fgetR, if_pos h1]
  · simp only [fgetR, if_neg h1] at h ⊢
    exact fgetG_bad h
def ftoC : Contract := { modes := [.mut, .ro], fn := fun args M => match args, M with
  | [.mp 0 0, .int .i64 v], [(0, .obj [.int .i64 _, .ms 1 lo len]), (1, .row false [.int .u8] _)] => some ⟨[], .tup [], [(0, some (.obj [.int .i64 v, .ms 1 lo len]))]⟩
  | _, _ => none }
theorem fto_ok : CSound Try.prog 90 ftoC := by
  refine fsound' (G := G0) (c := codeOf Try.f90) mixed tyT (gget_nil _) Try.func90 (by rfl) (by kernel_rfl) (by kernel_rfl) fun args M r hr hvc hw hm => ?_
  unfold ftoC at hr
  simp only at hr
  split at hr <;> cases hr
  rename_i v a lo len xs
  clear hvc hm hw
  conv => cbv
  simp [Hold.iff]
def fnextC : Contract := { modes := [.mut], fn := fun args M => match args, M with
  | [.mp 0 0], [(0, .obj [.int .i64 a, .ms 1 lo len]), (1, .row false [.int .u8] xs)] => some ⟨[fun _ => lo () = 0 ∧ len () = (xs ()).length ∧ (xs ()).length + 64 ≤ big],
      .tup [.agg [.int .u8 fun _ => (fgetR (xs ()) (a ())).k, .ms 2 (fun _ => 0) fun _ => (fgetR (xs ()) (a ())).p.length, .int .i64 a, .int .i64 fun _ => (fgetR (xs ()) (a ())).n], .int .i64 fun _ => (fgetR (xs ()) (a ())).r],
      [(0, some (.obj [.int .i64 fun _ => (fgetR (xs ()) (a ())).n, .ms 1 lo len])), (2, some (.row false U8 fun _ => (fgetR (xs ()) (a ())).p))]⟩
  | _, _ => none }
def LGfn : List (Nat × Contract) := [(60, fgetC), (90, ftoC)]
def Gfn : Ctx := fun f => gget LGfn f
theorem Gfn_ok : ∀ f C, Gfn f = some C → CSound Try.prog f C := gget_cons fget_ok (gget_cons fto_ok (gget_nil _))
theorem fnext_ok : CSound Try.prog 86 fnextC := by
  refine fsound' (G := Gfn) (c := codeOf Try.f86) mixed tyT Gfn_ok Try.func86 (by rfl) (by kernel_rfl) (by kernel_rfl) fun args M r hr hvc hw hm => ?_
  unfold fnextC at hr
  simp only at hr
  split at hr <;> cases hr
  rename_i a lo len x
  have hb : lo () = 0 ∧ len () = (x ()).length ∧ (x ()).length + 64 ≤ big := hvc _ (List.mem_singleton.2 rfl)
  clear hvc hm hw
  have hx : lo = fun _ => lo () := rfl
  generalize lo () = lo at hx hb
  subst hx
  have hx : len = fun _ => len () := rfl
  generalize len () = len at hx hb
  subst hx
  have hx : x = fun _ => x () := rfl
  generalize x () = x at hx hb
  subst hx
  have hx : a = fun _ => a () := rfl
  generalize a () = a at hx
  subst hx
  have h1 := hb.1
  have h2 := hb.2.1
  have hb := hb.2.2
  subst h1 h2
  have ht : List.take x.length (List.drop 0 x) = x := by simp
  conv => cbv
  rw [ht]
  generalize fgetR x a = f
  simp [Hold.iff, hb]
def fallC : Contract := { modes := [.ro], fn := fun args M => match args, M with
  | [.nils], [] => some ⟨[], .fn 85 [.mp 0 0], [(0, some (.obj [.ms 1 (fun _ => 0) fun _ => 0])), (1, some (.row false U8 fun _ => []))]⟩
  | [.sl _ [.int .u8] xs], [] => some ⟨[fun _ => (xs ()).length ≤ big], .fn 85 [.mp 0 0], [(0, some (.obj [.ms 1 (fun _ => 0) fun _ => (xs ()).length])), (1, some (.row false U8 xs))]⟩
  | _, _ => none }
def LGfa : List (Nat × Contract) := [(80, cloneC)]
def Gfa : Ctx := fun f => gget LGfa f
theorem Gfa_ok : ∀ f C, Gfa f = some C → CSound Try.prog f C := gget_cons sclone_ok (gget_nil _)
theorem fall_ok : CSound Try.prog 59 fallC := by
  refine fsound' (G := Gfa) (c := codeOf Try.f59) mixed tyT Gfa_ok Try.func59 (by rfl) (by kernel_rfl) (by kernel_rfl) fun args M r hr hvc hw hm => ?_
  unfold fallC at hr
  simp only at hr
  split at hr <;> cases hr
  · clear hvc hm hw
    conv => cbv
    simp [Hold.iff]
  · rename_i nn x
    have hb : (x ()).length ≤ big := hvc _ (List.mem_singleton.2 rfl)
    clear hvc hm hw
    conv => cbv
    refine ⟨⟨hb⟩, ?_⟩
    simp [Hold.iff]
end Go.Am
/- frame.Split keeps its contract. -/
namespace Go.Am
set_option linter.all false
set_option linter.deprecated false
open Go.Proofs
set_option maxRecDepth 100000
set_option maxHeartbeats 4000000
abbrev PlS : List Sh := [.int .u8, .slice [.int .u8], .int .i64, .int .i64]
def plc (f : FG) (a : Int) : List D := [D.int f.k, D.list f.p, D.int a, D.int f.n]
/-- the frames from a place on -/
def fspl (x : List (List D)) : Nat → Int → List (List D) → List (List D) × Int × Int
  | 0, a, o => (o, a, 0)
  | f + 1, a, o => if a < (x.length : Int) then (if (fgetR x a).r = 0 then fspl x f (fgetR x a).n (o ++ [plc (fgetR x a) a]) else (o, a, (fgetR x a).r)) else (o, (x.length : Int), 0)
def fspR (x : List (List D)) : List (List D) × Int × Int := fspl x (x.length + 1) 0 []
structure SpY (x : List (List D)) where
  f : Nat
  a : Int
  o : List (List D)
  h0 : 0 ≤ a
  h1 : a ≤ (x.length : Int)
  hf : (x.length : Int) - a < (f : Int)
  ho : (o.length : Int) ≤ a
  e : fspl x f a o = fspR x
theorem SpY.next {x : List (List D)} (s : SpY x) (h : s.a < (x.length : Int)) (hr : (fgetR x s.a).r = 0) : ∃ s' : SpY x, s'.a = (fgetR x s.a).n ∧ s'.o = s.o ++ [plc (fgetR x s.a) s.a] ∧ s'.f < s.f := by
  have hg := fgetR_fit hr
  obtain ⟨f, a, o, h0, h1, hf, ho, e⟩ := s
  simp only at h hr hg ⊢
  cases f with
  | zero => exact absurd hf (by omega)
  | succ f =>
    rw [fspl, if_pos h, if_pos hr] at e
    exact ⟨⟨f, _, _, by omega, hg.2.2.1, by omega, by simp only [List.length_append, List.length_singleton]; omega, e⟩, rfl, rfl, Nat.lt_succ_self f⟩
theorem SpY.bad {x : List (List D)} (s : SpY x) (h : s.a < (x.length : Int)) (hr : ¬ (fgetR x s.a).r = 0) : fspR x = (s.o, s.a, (fgetR x s.a).r) := by
  obtain ⟨f, a, o, h0, h1, hf, ho, e⟩ := s
  simp only at h hr ⊢
  cases f with
  | zero => exact absurd hf (by omega)
  | succ f =>
    rw [fspl, if_pos h, if_neg hr] at e
    exact e.symm
theorem SpY.done {x : List (List D)} (s : SpY x) (h : ¬ s.a < (x.length : Int)) : fspR x = (s.o, (x.length : Int), 0) := by
  obtain ⟨f, a, o, h0, h1, hf, ho, e⟩ := s
  simp only at h ⊢
  cases f with
  | zero => exact absurd hf (by omega)
  | succ f =>
    rw [fspl, if_neg h] at e
    exact e.symm
def fsplitC : Contract := { modes := [.ro], fn := fun args M => match args, M with
  | [.sl _ [.int .u8] xs], [] => some ⟨[fun _ => (xs ()).length + 64 ≤ big],
      .tup [.ms 0 (fun _ => 0) fun _ => (fspR (xs ())).1.length, .int .i64 fun _ => (fspR (xs ())).2.1, .int .i64 fun _ => (fspR (xs ())).2.2],
      [(0, some (.row false PlS fun _ => (fspR (xs ())).1))]⟩
  | _, _ => none }
noncomputable def FTf : Fns := fun g => match Nat.beq g 85 with | true => some (codeOf Try.f85, 34) | false => none
theorem FTf_ok : FnsOk Try.prog FTf := by
  intro g c n h
  unfold FTf at h
  split at h <;> (try (cases h; done))
  rename_i hg
  have hg := Nat.eq_of_beq_eq_true hg
  subst hg
  cases h
  exact ⟨⟨Try.f85, Try.func85, by rfl, by kernel_rfl, by kernel_rfl, by kernel_rfl⟩, by kernel_rfl⟩
def LGfz : List (Nat × Contract) := [(59, fallC), (86, fnextC)]
def Gfz : Ctx := fun f => gget LGfz f
theorem Gfz_ok : ∀ f C, Gfz f = some C → CSound Try.prog f C := gget_cons fall_ok (gget_cons fnext_ok (gget_nil _))
theorem fsplit_ok : CSound Try.prog 63 fsplitC := by
  refine fsoundR (G := Gfz) (FT := FTf) (c := codeOf Try.f63) mixed tyT Gfz_ok FTf_ok Try.func63 (by rfl) (by kernel_rfl) (by kernel_rfl) fun args M r hr hvc hw hm => ?_
  unfold fsplitC at hr
  simp only at hr
  split at hr <;> cases hr
  rename_i nn x
  have hb : (x ()).length + 64 ≤ big := hvc _ (List.mem_singleton.2 rfl)
  clear hvc hm hw
  have hx : x = fun _ => x () := rfl
  generalize x () = x at hx hb
  subst hx
  have v1 : x.length ≤ big := by omega
  conv => cbv
  refine ⟨⟨v1⟩, ?_⟩
  intro l
  have hl : Nat.beq l l = true := Nat.beq_refl l
  conv at hl => lhs; cbv
  conv => cbv
  refine YLoopP.mk (SpY x) (fun s => ⟨ev 34 [(0, .yl l), (1, .mp 32 0), (3, .mp 42 0)],
    [(0, .obj [.ms 41 (fun _ => 0) fun _ => s.o.length]), (8, .obj [.int .i64 fun _ => 0]), (16, .obj [.int .i64 fun _ => 0]), (32, .obj [.ms 33 (fun _ => 0) fun _ => x.length]), (33, .row false U8 fun _ => x), (41, .row false PlS fun _ => s.o), (42, .obj [.int .i64 fun _ => s.a, .ms 33 (fun _ => 0) fun _ => x.length])], 48⟩) (fun s => s.f) ⟨x.length + 1, 0, [], by omega, by omega, by omega, by simp, rfl⟩ rfl ?_ ?_
  · conv => cbv
    rw [hl]
    conv => cbv
    simp [Hold.iff]
  · intro s
    have hs1 := s.h1
    have hs0 := s.h0
    have hso := s.ho
    conv => cbv
    refine .d (fun h => ?_) (fun h => ?_)
    · conv => cbv
      rw [hl]
      conv => cbv
      refine ⟨⟨(by simp [hb])⟩, ?_⟩
      by_cases hr : (fgetR x s.a).r = 0
      · refine .ofF (by simp [hr]) ?_
        have hf := fgetR_fit hr
        have hn := (s.next h hr).choose_spec
        generalize (s.next h hr).choose = y at hn
        have hna := hn.1
        have hno := hn.2.1
        conv => cbv
        refine ⟨⟨(by simp)⟩, ?_⟩
        refine ⟨⟨(by simp)⟩, ?_⟩
        refine ⟨⟨(by simp)⟩, ?_⟩
        refine ⟨⟨(by simp; omega)⟩, ?_⟩
        refine ⟨⟨(by simp [chunk])⟩, ?_⟩
        refine .ofF rfl ?_
        conv => cbv
        refine .ofF (by simp [hr]) ?_
        conv => cbv
        refine ⟨y, hn.2.2, ?_⟩
        conv => cbv
        rw [hl]
        conv => cbv
        rw [hna, hno]
        simp [Hold.iff, chunk, plc, dall]
      · refine .ofT (by simp [hr]) ?_
        have hn := s.bad h hr
        have hn2 := fgetR_bad hr
        conv => cbv
        refine .ofT rfl ?_
        conv => cbv
        refine .ofT rfl ?_
        conv => cbv
        rw [hn]
        simp [Hold.iff]
    · have hn := s.done h
      conv => cbv
      rw [hn]
      simp [Hold.iff]
end Go.Am
/- alibilaw03.works keeps its contract: it returns true. -/
namespace Go.Am
set_option linter.all false
set_option linter.deprecated false
open Go.Proofs
set_option maxRecDepth 100000
set_option maxHeartbeats 4000000
def fgetC' : Contract := { modes := [.ro, .ro], fn := fun args M => match args, M with
  | [.nils, .int .i64 a], [] => some ⟨[],
      .tup [.agg [.int .u8 fun _ => (fgetR [] (a ())).k, .ms 0 (fun _ => 0) fun _ => (fgetR [] (a ())).p.length], .int .i64 fun _ => (fgetR [] (a ())).n, .int .i64 fun _ => (fgetR [] (a ())).r],
      [(0, some (.row false U8 fun _ => (fgetR [] (a ())).p))]⟩
  | [.sl _ [.int .u8] xs, .int .i64 a], [] => some ⟨[fun _ => (xs ()).length + 64 ≤ big],
      .tup [.agg [.int .u8 fun _ => (fgetR (xs ()) (a ())).k, .ms 0 (fun _ => 0) fun _ => (fgetR (xs ()) (a ())).p.length], .int .i64 fun _ => (fgetR (xs ()) (a ())).n, .int .i64 fun _ => (fgetR (xs ()) (a ())).r],
      [(0, some (.row false U8 fun _ => (fgetR (xs ()) (a ())).p))]⟩
  | _, _ => none }
theorem fget_ok' : CSound Try.prog 60 fgetC' := by
  have h := fget_ok
  have h2 : CSound Try.prog 60 { fgetC with modes := [.ro, .ro] } := ⟨h.det, h.nd⟩
  refine csound_weak h2 fun args M r hr hvc hw => ?_
  unfold fgetC' at hr
  simp only at hr
  split at hr <;> cases hr
  · rename_i a
    refine ⟨[.sl false U8 fun _ => [], .int .i64 a], _, rfl, by simp [big], rfl, rfl, fun w I σ vs h => ?_⟩
    simp only [VRs] at h ⊢
    obtain ⟨u2, us2, rfl, h2, u3, us3, rfl, h3, rfl⟩ := h
    exact ⟨u2, _, rfl, nils_sl (by decide) h2, u3, _, rfl, h3, rfl⟩
  · exact ⟨_, _, rfl, hvc, rfl, rfl, fun w I σ vs h => h⟩
def LGwf : List (Nat × Contract) := [(60, fgetC'), (63, fsplitC), (68, fsizeC), (70, fputC)]
def Gwf : Ctx := fun f => gget LGwf f
theorem Gwf_ok : ∀ f C, Gwf f = some C → CSound Try.prog f C := gget_cons fget_ok' (gget_cons fsplit_ok (gget_cons fsize_ok (gget_cons fput_ok (gget_nil _))))
theorem works3_ok : CSound Try.prog 57 trueC := by
  refine fsound' (G := Gwf) (c := codeOf Try.f57) mixed tyT Gwf_ok Try.func57 (by rfl) (by kernel_rfl) (by kernel_rfl) fun args M r hr hvc hw hm => ?_
  unfold trueC at hr
  simp only at hr
  split at hr <;> cases hr
  clear hvc hm hw
  conv => cbv
  repeat (first | refine ⟨⟨by decide +kernel⟩, ?_⟩ | (refine .ofT (by decide +kernel) ?_; conv => cbv) | (refine .ofF (by decide +kernel) ?_; conv => cbv))
  exact ⟨by decide +kernel⟩
end Go.Am
/- FramePuts keeps its contract: it returns true. -/
namespace Go.Am
set_option linter.all false
set_option linter.deprecated false
open Go.Proofs
set_option maxRecDepth 100000
set_option maxHeartbeats 4000000
theorem WfR.pay {x : List (List D)} (h : WfR FrS x) {i : Nat} (hi : i < x.length) : WfR U8 (lk (lk x i) 1).toList := by
  have h1 := h.2 i hi
  simp only [WfDs, WfD, and_true] at h1
  exact ⟨h1.2.1, fun j hj => by simp only [WfDs, WfD, and_true]; exact h1.2.2 j hj⟩
theorem few_pay {x : List (List D)} (h : fewF x = true) {i : Nat} (hi : i < x.length) : (lk (lk x i) 1).toList.length ≤ 200 ∧ x.length ≤ 12 := by
  simp only [fewF, Bool.and_eq_true, decide_eq_true_eq, List.all_eq_true] at h
  have e : lk x i = (x.take 13)[i]'(by simp; omega) := by simp [lk, List.getD, hi]
  have h1 := h.1 (lk x i) (by rw [e]; exact List.getElem_mem _)
  exact ⟨by simpa [fewOkF] using h1, h.2⟩
def frK (x : List (List D)) (i : Nat) : Int := (lk (lk x i) 0).toInt
def frP (x : List (List D)) (i : Nat) : List (List D) := (lk (lk x i) 1).toList
def frS (x : List (List D)) (i : Nat) : List UInt8 := ofRow (frP x i)
/-- the reference's bytes of the first frames -/
def frT (x : List (List D)) : Nat → List (List D)
  | 0 => []
  | i + 1 => frT x i ++ frR (frK x i) (sRow (frS x i))
def frV (x : List (List D)) : Nat → List (List D)
  | 0 => []
  | i + 1 => frV x i ++ [[D.int (frK x i), D.str (frS x i)]]
@[simp] theorem frV_len (x : List (List D)) (i : Nat) : (frV x i).length = i := by
  induction i with
  | zero => rfl
  | succ i ih => simp [frV, ih]
theorem frV_at (x : List (List D)) {i n : Nat} (h : i < n) : lk (frV x n) i = [D.int (frK x i), D.str (frS x i)] := by
  induction n with
  | zero => omega
  | succ n ih =>
    rw [frV]
    by_cases e : i < n
    · rw [← ih e]; simp [lk, List.getD, List.getElem?_append_left, e]
    · have : i = n := by omega
      subst this
      simp [lk, List.getD, List.getElem?_append_right]
theorem bn_app (a b : List (List D)) : bn (a ++ b) = bn a ++ bn b := by simp [bn]
theorem bn_frR {p q : List (List D)} (k : Int) (h : bn p = bn q) : bn (frR k p) = bn (frR k q) := by
  have hl := len_bn h
  have e : bn (frH k p) = bn (frH k q) := by simp only [frH, bn_app, h, hl]
  simp only [frR, bn_app, e, ckR]
theorem bn_frT {x : List (List D)} (hx : WfR FrS x) {i : Nat} (h : i ≤ x.length) : bn (frT x i) = bn (frRs (x.take i)) := by
  induction i with
  | zero => simp [frT, frRs]
  | succ i ih =>
    rw [frT, frRs_next (by omega), bn_app, bn_app, ih (by omega)]
    congr 1
    exact bn_frR _ (bn_ofRow (hx.pay (by omega)))
theorem frT_len {x : List (List D)} (hf : fewF x = true) {i : Nat} (h : i ≤ x.length) : (frT x i).length ≤ 215 * i := by
  induction i with
  | zero => simp [frT]
  | succ i ih =>
    have h1 := few_pay hf (i := i) (by omega)
    have h2 := ih (by omega)
    have h3 := put1_len 9 (frP x i).length
    rw [← putB] at h3
    have h4 : (frP x i).length ≤ 200 := h1.1
    rw [frT, List.length_append, frR_len, sRow_len, frS, ofRow_len]
    omega
theorem frRs_len {x : List (List D)} (hx : WfR FrS x) (hf : fewF x = true) : (frRs x).length ≤ 2580 := by
  have h := congrArg List.length (bn_frT hx (i := x.length) (Nat.le_refl _))
  have h2 := frT_len hf (i := x.length) (Nat.le_refl _)
  have h3 : x.length ≤ 12 := by simp only [fewF, Bool.and_eq_true, decide_eq_true_eq] at hf; exact hf.2
  rw [List.take_length] at h
  simp only [bn_len] at h
  omega
def fputsC : Contract := { modes := [.ro, .ro], fn := fun args M => match args, M with
  | [.sl _ [.int .u8, .slice [.int .u8]] _, .agg [.int .u8 _, .sl _ [.int .u8] _]], [] => some ⟨[], .bool (fun _ => true), []⟩
  | _, _ => none }
def LGfp2 : List (Nat × Contract) := [(22, sameC), (25, spoilC), (57, trueC), (62, fconvC), (66, ffewC), (67, frputC), (68, fsizeC), (69, fsameC), (70, fputC)]
def Gfp2 : Ctx := fun f => gget LGfp2 f
theorem Gfp2_ok : ∀ f C, Gfp2 f = some C → CSound Try.prog f C := gget_cons same_ok (gget_cons spoil_ok (gget_cons works3_ok (gget_cons fconv_ok (gget_cons ffew_ok (gget_cons frput_ok (gget_cons fsize_ok (gget_cons fsame_ok (gget_cons fput_ok (gget_nil _)))))))))
theorem fputs_ok : CSound Try.prog 15 fputsC := by
  refine fsound' (G := Gfp2) (c := codeOf Try.f15) mixed tyT Gfp2_ok Try.func15 (by rfl) (by kernel_rfl) (by kernel_rfl) fun args M r hr hvc hw hm => ?_
  unfold fputsC at hr
  simp only at hr
  split at hr <;> cases hr
  rename_i n1 x k n2 p
  clear hvc hm
  have hx : x = fun _ => x () := rfl
  generalize x () = x at hx
  subst hx
  have hx : p = fun _ => p () := rfl
  generalize p () = p at hx
  subst hx
  have hx : k = fun _ => k () := rfl
  generalize k () = k at hx
  subst hx
  simp only [WfVs, WfV, and_true] at hw

  conv => cbv
  by_cases hf : fewF x = true
  · refine .ofF (by simp [hf]) ?_
    conv => cbv
    refine .d (fun h => ?_) (fun h => ?_)
    · conv => cbv
      exact ⟨rfl⟩
    · refine LoopP.mk {i : Nat // i ≤ x.length} (fun s => ⟨ev 98 [(0, .sl false FrS fun _ => x), (3, .mp 0 0), (4, .bool fun _ => false), (5, .ms 9 (fun _ => 0) fun _ => (frT x s.1).length), (6, .ms 10 (fun _ => 0) fun _ => s.1), (7, .int .i64 fun _ => (s.1 : Int))],
        [(0, .obj [.int .u8 fun _ => k, .sl false U8 fun _ => p]), (9, .row false U8 fun _ => frT x s.1), (10, .row false [.int .u8, .str] fun _ => frV x s.1)], 16⟩) (fun s => x.length - s.1) ⟨0, by omega⟩ ?_ ?_
      · conv => cbv
        simp [Hold.iff, frT, frV]
      · intro s
        have hi := s.2
        have hto := frT_len hf hi
        conv => cbv
        refine .d (fun h => ?_) (fun h => ?_)
        · have h : (s.1 : Int) < (x.length : Int) := h
          have h4 : s.1 < x.length := by omega
          have v1 : 0 ≤ (s.1 : Int) ∧ (s.1 : Int) < (x.length : Int) := by omega
          have hfp := few_pay hf h4
          have hfq := hfp.1
          have hfx := hfp.2
          have hwq := hw.1.pay h4
          have hnt : frT x (s.1 + 1) = frT x s.1 ++ frR (lk (lk x s.1) 0).toInt (sRow (ofRow (lk (lk x s.1) 1).toList)) := rfl
          have hnv : frV x (s.1 + 1) = frV x s.1 ++ [[D.int (lk (lk x s.1) 0).toInt, D.str (ofRow (lk (lk x s.1) 1).toList)]] := rfl
          have hc : lk x ((s.1 : Int)).toNat = lk x s.1 := by rw [Int.toNat_natCast]
          have hvl := frV_len x s.1
          have hw1 : IntKind.i64.wrap ((s.1 : Int) + 1) = ((s.1 + 1 : Nat) : Int) := by rw [wrap_i64 (by omega)]; omega
          have hn : s.1 + 1 ≤ x.length ∧ x.length - (s.1 + 1) < x.length - s.1 := by omega
          conv => cbv
          rw [hc]
          generalize hq : (lk (lk x s.1) 1).toList = q at hnt hnv hwq hfq ⊢
          generalize hkk : (lk (lk x s.1) 0).toInt = kk at hnt hnv ⊢
          generalize frT x s.1 = o at hnt hto ⊢
          generalize frV x s.1 = ov at hnv hvl ⊢
          have e3 : (frR kk (sRow (ofRow q))).length = 1 + (putB q.length).length + q.length + 4 := by rw [frR_len, sRow_len, ofRow_len]
          have hsm : (ofRow q == ofRow p) = (bn q == bn p) := bytes_eq hwq hw.2.2
          have hpl := put1_len 9 q.length
          rw [← putB] at hpl
          generalize frR kk (sRow (ofRow q)) = fr at hnt e3 ⊢
          have ho : o.length ≤ 2580 := by omega
          have htk : List.take s.1 ov = ov := List.take_of_length_le (by omega)
          have hfr : fr.length ≤ 215 := by omega
          clear hfp
          repeat (first | (refine ⟨⟨?_⟩, ?_⟩; (focus (first | exact v1 | (simp [chunk, big, hvl]; done) | (simp [chunk, big, hvl]; omega)))))
          refine .ofF (by simp [e3]) ?_
          conv => cbv
          repeat (first | (refine ⟨⟨?_⟩, ?_⟩; (focus (first | exact v1 | (simp [chunk, big, hvl]; done) | (simp [chunk, big, hvl]; omega)))))
          refine .ofF (by simp [hsm, hq, hkk]) ?_
          conv => cbv
          refine ⟨⟨s.1 + 1, hn.1⟩, hn.2, ?_⟩
          conv => cbv
          rw [hnt, hnv]
          simp [Hold.iff, chunk, dall, hw1, hvl, htk]
        · have h : ¬ (s.1 : Int) < (x.length : Int) := h
          have h4 : s.1 = x.length := by omega
          have hbb := frRs_len hw.1 hf
          have hbt := frT_len hf (i := x.length) (Nat.le_refl _)
          have hx12 : x.length ≤ 12 := by simp only [fewF, Bool.and_eq_true, decide_eq_true_eq] at hf; exact hf.2
          have hbn := bn_frT hw.1 (i := x.length) (Nat.le_refl _)
          rw [List.take_length] at hbn
          rw [h4]
          refine LoopP.mk {i : Nat // i ≤ 2} (fun s => ⟨ev 98 [(0, .sl false FrS fun _ => x), (3, .mp 0 0), (4, .bool fun _ => false), (5, .ms 9 (fun _ => 0) fun _ => (frT x x.length).length), (6, .ms 10 (fun _ => 0) fun _ => x.length), (10, .int .i64 fun _ => (s.1 : Int))],
            [(0, .obj [.int .u8 fun _ => k, .sl false U8 fun _ => p]), (9, .row false U8 fun _ => frT x x.length), (10, .row false [.int .u8, .str] fun _ => frV x x.length)], 16⟩) (fun s => 2 - s.1) ⟨0, by omega⟩ ?_ ?_
          · conv => cbv
            simp [Hold.iff]
          · intro s
            have hi := s.2
            conv => cbv
            refine .d (fun h => ?_) (fun h => ?_)
            · have h : (s.1 : Int) < 2 := h
              have hw1 : IntKind.i64.wrap ((s.1 : Int) + 1) = ((s.1 + 1 : Nat) : Int) := by rw [wrap_i64 (by omega)]; omega
              have hn : s.1 + 1 ≤ 2 ∧ 2 - (s.1 + 1) < 2 - s.1 := by omega
              conv => cbv
              generalize frRs x = g at hbb hbn ⊢
              generalize frT x x.length = o at hbt hbn ⊢
              repeat (first | (refine ⟨⟨?_⟩, ?_⟩; (focus (first | (simp [chunk, big]; done) | (simp [chunk, big]; omega)))))
              refine .ofF (by simp [hbn]) ?_
              conv => cbv
              repeat (first | (refine ⟨⟨?_⟩, ?_⟩; (focus (first | (simp [chunk, big]; done) | (simp [chunk, big]; omega)))))
              refine ⟨⟨s.1 + 1, hn.1⟩, hn.2, ?_⟩
              conv => cbv
              simp [Hold.iff, hw1]
            · refine LoopP.mk {i : Nat // i ≤ x.length} (fun s => ⟨ev 98 [(0, .sl false FrS fun _ => x), (3, .mp 0 0), (4, .bool fun _ => false), (5, .ms 9 (fun _ => 0) fun _ => (frT x x.length).length), (6, .ms 10 (fun _ => 0) fun _ => x.length), (12, .int .i64 fun _ => (s.1 : Int))],
                [(0, .obj [.int .u8 fun _ => k, .sl false U8 fun _ => p]), (9, .row false U8 fun _ => frT x x.length), (10, .row false [.int .u8, .str] fun _ => frV x x.length)], 16⟩) (fun s => x.length - s.1) ⟨0, by omega⟩ ?_ ?_
              · conv => cbv
                simp [Hold.iff]
              · intro s
                have hi := s.2
                conv => cbv
                refine .d (fun h => ?_) (fun h => ?_)
                · have h : (s.1 : Int) < (x.length : Int) := h
                  have h4 : s.1 < x.length := by omega
                  have v1 : 0 ≤ (s.1 : Int) ∧ (s.1 : Int) < (x.length : Int) := by omega
                  have hw1 : IntKind.i64.wrap ((s.1 : Int) + 1) = ((s.1 + 1 : Nat) : Int) := by rw [wrap_i64 (by omega)]; omega
                  have hn : s.1 + 1 ≤ x.length ∧ x.length - (s.1 + 1) < x.length - s.1 := by omega
                  have hat := frV_at x h4
                  have hat1 : (lk (lk (frV x x.length) s.1) 0).toInt = (lk (lk x s.1) 0).toInt := by rw [hat]; rfl
                  have hat2 : (lk (lk (frV x x.length) s.1) 1).toStr = ofRow (lk (lk x s.1) 1).toList := by rw [hat]; rfl
                  conv => cbv
                  repeat (first | (refine ⟨⟨?_⟩, ?_⟩; (focus (first | exact v1 | (simp [chunk, big]; done) | (simp [chunk, big]; omega)))))
                  refine .ofF (by simp [hat1, hat2]) ?_
                  conv => cbv
                  refine ⟨⟨s.1 + 1, hn.1⟩, hn.2, ?_⟩
                  conv => cbv
                  simp [Hold.iff, hw1]
                · conv => cbv
                  refine .ofT (by simp) ?_
                  conv => cbv
                  simp [Hold.iff]
  · refine .ofT (by simp [hf]) ?_
    conv => cbv
    refine .ofT rfl ?_
    conv => cbv
    exact ⟨rfl⟩
end Go.Am
