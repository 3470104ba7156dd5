/- Code: what is shown of the symbolic state holds of the machine. -/
import Derived.Test.YtckgeadidjmpcaaAmDraw3
import Derived.Deep.LoopGhost
namespace Go.Am
set_option linter.all false
set_option linter.deprecated false
section
variable {P : Program} {a : Act} {w w' w0 : World} {I I' I0 : Nat → Prop} {σ σ' σ0 : Sig} {M M' M0 : MS} {T : TT} {G : Ctx}

theorem Sd.heap {s : PS} (h : Sd w0 I0 σ0 M0 s a w I σ) (hh : w'.heap = w.heap) (ho : w'.os = w.os) (ht : w'.tape = w.tape) (hu : w'.output = w.output) : Sd w0 I0 σ0 M0 s a w' I σ := by
  have K : Keep w I σ w' I σ := ⟨fun _ _ => by rw [hh], fun _ h => h, fun _ _ h => h⟩
  refine ⟨fun t => VR.keep K _ _ (h.envr t), h.len, ⟨fun b hb => by rw [hh]; exact h.ok.lt b hb, fun k o hk => ?_, h.ok.sep, h.ok.inj⟩, ?_, h.def0⟩
  · obtain ⟨p, hp, ho⟩ := h.ok.obj k o hk
    exact ⟨p, hp, OR.keep K (fun _ _ => by rw [hh]) ho⟩
  · have e := h.ext
    exact ⟨ho.trans e.os, ht.trans e.tape, hu.trans e.output, by rw [hh]; exact e.size, fun b h1 h2 => by rw [hh]; exact e.blk b h1 h2, e.mono, e.fresh, e.own, e.sig⟩
def AExit.to : AExit → Exit
  | .normal => .normal
  | .exit id => .exit id
  | .ret => .ret
/-- of the regions that draw: their orders are apart where they must -/
def codeOk : Code → Bool
  | .region _ ops true => edgesOk ops.toList && slotsOk ops.toList
  | .seq a b => codeOk a && codeOk b
  | .cond _ a b => codeOk a && codeOk b
  | .block _ c => codeOk c
  | .loop c => codeOk c
  | _ => true
theorem region_ok (hp : P.follows .mixedOrders = true) (hT : ∀ t i, T t = some i → TIok P t i) (hG : ∀ f C, G f = some C → CSound P f C) {ops : Array Oper} {id nx : Nat} {draw : Bool} {env : List AV} {Qm : Exit → Act → World → Prop} {K : AState → Prop}
    (hc : codeOk (.region id ops draw) = true)
    (h : match draw with
      | false => wopsN T G ops.toList nx ops.toList 0 ⟨env, M, [], []⟩ (fun r => K ⟨r.env, r.M, nx + 8 * ops.toList.length⟩)
      | true => wops T G ops.toList nx ops.toList 0 ⟨env, M, [], []⟩ (fun r => match okLog ops.toList r.log with
        | true => K ⟨r.env, r.M, nx + 8 * ops.toList.length⟩
        | false => False)) (hs : St w0 I0 σ0 M0 env M nx a w I σ)
    (hQ : ∀ s' a' w' I' σ', K s' → St w0 I0 σ0 M0 s'.env s'.M s'.nx a' w' I' σ' → Qm .normal a' w') : (Code.region id ops draw).wp P Qm a w := by
  cases draw with
  | false =>
    refine wp_region_list ?_
    have := wopsN_seq (w0 := w0) (I0 := I0) (σ0 := σ0) (M0 := M0) (Q := Qm) hT hG ops.toList 0 ⟨env, M, [], []⟩ a w I σ h (by simpa using hs) (fun s b hb => by simp [rget] at hb)
      fun r' a' w' I' σ' hk hst => hQ ⟨r'.env, r'.M, nx + 8 * ops.toList.length⟩ a' w' I' σ' hk (by simpa using hst)
    simpa using this
  | true =>
    simp only [codeOk, Bool.and_eq_true] at hc
    obtain ⟨xs, r', hk, hlen, hrun, hlog, hplan⟩ := wops_plan ops.toList 0 _ h (fun s b hb => by simp [rget] at hb)
    simp only at hk hrun hlog hplan
    split at hk
    · rename_i hok
      refine wp_region_any hp ?_
      rw [hlog] at hok
      have hs1 : Sd w0 I0 σ0 M0 (env, M) a w I σ := ⟨hs.envr, hs.len, hs.ok, hs.ext, hs.def0⟩
      have := wpAny_plan (w0 := w0) (I0 := I0) (σ0 := σ0) (M0 := M0) (Q := Qm) (base := nx) (s0 := (env, M)) hT hG hc.1 hc.2 hok hlen (fun j o x h1 h2 => by
        have := hplan j o x h1 h2
        rwa [Nat.zero_add] at this) (fun a' w' I' σ' hsd hfr => hQ _ a' w' I' σ' hk (by
          rw [← hrun] at hsd
          exact ⟨hsd.envr, hsd.len, hsd.ok, fun k hk => hfr k hk, hsd.ext, hsd.def0⟩))
        ops.size (Array.replicate ops.size false) a { w with drawn := w.drawn + 1 } I σ (by simp) (by
          refine Nat.le_trans (List.length_filter_le _ _) (by simp)) (fun i o _ h => by simp [dn, Array.getD_eq_getD_getElem?, Array.getElem?_replicate] at h; split at h <;> simp_all)
        (by rw [runS_none _ _ _ fun j hj => by simp [dn, Array.getD_eq_getD_getElem?, Array.getElem?_replicate]; split <;> rfl]; exact hs1.heap rfl rfl rfl rfl)
        (fun k hk _ => hs.free k hk)
      simpa using this
    · exact hk.elim
theorem awp_ok {m : Nat} (hm : ∀ k, m ≤ k → σ0 k = none) (hp : P.follows .mixedOrders = true) (hT : ∀ t i, T t = some i → TIok P t i) (hG : ∀ f C, G f = some C → CSound P f C) :
    ∀ (c : Code), codeOk c = true → ∀ (Qa : AExit → AState → Prop) (Qm : Exit → Act → World → Prop) (s : AState) (a : Act) (w : World) (I : Nat → Prop) (σ : Sig),
      awp T G m c Qa s → St w0 I0 σ0 M0 s.env s.M s.nx a w I σ → (∀ e s' a' w' I' σ', Qa e s' → St w0 I0 σ0 M0 s'.env s'.M s'.nx a' w' I' σ' → Qm e.to a' w') → c.wp P Qm a w := by
  intro c
  induction c with
  | skip => intro _ Qa Qm s a w I σ h hs hQ; exact wp_skip (hQ .normal s a w I σ h hs)
  | ret => intro _ Qa Qm s a w I σ h hs hQ; exact wp_ret (hQ .ret s a w I σ h hs)
  | exit id => intro _ Qa Qm s a w I σ h hs hQ; exact wp_exit (hQ (.exit id) s a w I σ h hs)
  | region id ops draw =>
    intro hc Qa Qm s a w I σ h hs hQ
    refine region_ok (draw := draw) (K := fun s => Qa .normal s) hp hT hG hc (by simp only [awp] at h; cases draw <;> exact h) hs fun s' a' w' I' σ' hk hst => hQ .normal s' a' w' I' σ' hk hst
  | seq x y ihx ihy =>
    intro hc Qa Qm s a w I σ h hs hQ
    simp only [codeOk, Bool.and_eq_true] at hc
    refine wp_seq (ihx hc.1 _ _ s a w I σ h hs fun e s' a' w' I' σ' hq hst => ?_)
    cases e with
    | normal => exact ihy hc.2 Qa Qm s' a' w' I' σ' hq hst hQ
    | exit id => exact hQ _ s' a' w' I' σ' hq hst
    | ret => exact hQ _ s' a' w' I' σ' hq hst
  | cond c x y ihx ihy =>
    intro hc Qa Qm s a w I σ h hs hQ
    simp only [codeOk, Bool.and_eq_true] at hc
    simp only [awp] at h
    split at h
    · rename_i b hb
      have hv := opv_ok hs.envr c
      rw [hb] at hv
      simp only [VR] at hv
      exact wp_cond_split hv (fun ht => ihx hc.1 Qa Qm s a w I σ (h.t ht) hs hQ) fun hf => ihy hc.2 Qa Qm s a w I σ (h.f hf) hs hQ
    · exact h.elim
  | block id c ih =>
    intro hc Qa Qm s a w I σ h hs hQ
    simp only [codeOk] at hc
    refine wp_block (ih hc _ _ s a w I σ h hs fun e s' a' w' I' σ' hq hst => ?_)
    cases e with
    | normal => exact hQ .normal s' a' w' I' σ' hq hst
    | exit i =>
      simp only at hq
      simp only [AExit.to, Exit.inBlock]
      split at hq
      · rename_i hb
        rw [if_pos (Nat.eq_of_beq_eq_true hb)]
        exact hQ .normal s' a' w' I' σ' hq hst
      · rename_i hb
        rw [if_neg (Nat.ne_of_beq_eq_false hb)]
        exact hQ (.exit i) s' a' w' I' σ' hq hst
    | ret => exact hQ .ret s' a' w' I' σ' hq hst
  | loop c ih =>
    intro hc Qa Qm s a w I σ h hs hQ
    simp only [codeOk] at hc
    obtain ⟨ι, inv, μ, x, start, round⟩ := h
    refine wp_loop_ghost (fun n a w => ∃ x, μ x = n ∧ ∃ I σ, St w0 I0 σ0 M0 (inv x).env (inv x).M (inv x).nx a w I σ) (μ x) ⟨x, rfl, fit_ok hm hs start⟩ ?_
    rintro n a w ⟨y, rfl, I, σ, hst⟩
    refine ih hc _ _ (inv y) a w I σ (round y) hst fun e s' a' w' I' σ' hq hst' => ?_
    cases e with
    | normal =>
      obtain ⟨z, hz, hf⟩ := hq
      exact ⟨μ z, hz, z, rfl, fit_ok hm hst' hf⟩
    | exit id => exact hQ (.exit id) s' a' w' I' σ' hq hst'
    | ret => exact hQ .ret s' a' w' I' σ' hq hst'
  | rangeFunc f ps as b _ _ => intro _ Qa Qm s a w I σ h; exact h.elim
  | scope b _ => intro _ Qa Qm s a w I σ h; exact h.elim
  | label l => intro _ Qa Qm s a w I σ h; exact h.elim
  | goto l => intro _ Qa Qm s a w I σ h; exact h.elim
  | refuse y => intro _ Qa Qm s a w I σ h; exact h.elim
end
end Go.Am
