/- What holds of every value that comes in: integers lie in their kinds, lengths are bounded. -/
import Derived.Test.YtckgeadidjmpcaaAmFun
namespace Go.Am
set_option linter.all false
set_option linter.deprecated false
section
variable {P : Program} {w : World} {I : Nat → Prop} {σ : Sig} {M : MS} {T : TT} {G : Ctx}
mutual
def WfD : Sh → D → Prop
  | .int k, d => wfB k d.toInt = true
  | .str, d => d.toStr.length ≤ 9223372036854775807
  | .slice e, d => d.toList.length ≤ 9223372036854775807 ∧ ∀ i, i < d.toList.length → WfDs e 0 (lk d.toList i)
  | _, _ => True
def WfDs : List Sh → Nat → List D → Prop
  | [], _, _ => True
  | s :: ss, j, ds => WfD s (lk ds j) ∧ WfDs ss (j + 1) ds
end
def WfR (e : List Sh) (xs : List (List D)) : Prop := xs.length ≤ 9223372036854775807 ∧ ∀ i, i < xs.length → WfDs e 0 (lk xs i)
mutual
def WfV : AV → Prop
  | .int k n => wfB k (n ()) = true
  | .str s => (s ()).length ≤ 9223372036854775807
  | .sl _ e xs => WfR e (xs ())
  | .ms _ lo len => lo () + len () ≤ 9223372036854775807
  | .agg cs | .tup cs | .pt cs | .fn _ cs => WfVs cs
  | _ => True
def WfVs : List AV → Prop
  | [] => True
  | v :: vs => WfV v ∧ WfVs vs
end
def WfO : MObj → Prop
  | .row _ e xs | .imm _ e xs => WfR e (xs ())
  | .obj cs => WfVs cs
def WfM : MS → Prop
  | [] => True
  | (_, o) :: M => WfO o ∧ WfM M
theorem maxLen_eq : maxLen = 9223372036854775807 := by decide
mutual
theorem Dat.wf : ∀ (s : Sh) (d : D) (v : Value), Dat w I s d v → WfD s d
  | .int k, d, v, h => by simp only [Dat] at h; simp only [WfD]; exact h.2
  | .bool, _, _, _ => by simp only [WfD]
  | .str, d, v, h => by
    simp only [Dat] at h
    obtain ⟨s, rfl, h1, h2⟩ := h
    simp only [WfD]
    rw [← h1, ← maxLen_eq]
    simpa using h2
  | .slice e, d, v, h => by
    simp only [Dat] at h
    obtain ⟨a, len, cap, _, e2, e3, e4, _, _, h⟩ := h
    simp only [WfD]
    rw [← maxLen_eq]
    refine ⟨by omega, fun i hi => ?_⟩
    obtain ⟨b, off, _, _, hd⟩ := h i (by omega)
    exact DatC.wf e 0 _ b _ hd
  | .ptr _, _, _, _ => by simp only [WfD]
  | .other, _, _, _ => by simp only [WfD]
theorem DatC.wf : ∀ (e : List Sh) (j : Nat) (ds : List D) (b o : Nat), DatC w I e j ds b o → WfDs e j ds
  | [], _, _, _, _, _ => by simp only [WfDs]
  | s :: ss, j, ds, b, o, h => by
    simp only [DatC] at h
    simp only [WfDs]
    obtain ⟨⟨u, _, hd⟩, h⟩ := h
    exact ⟨Dat.wf s _ u hd, DatC.wf ss (j + 1) ds b o h⟩
end
mutual
theorem VR.wf : ∀ (v : AV) (u : Value), VR w I σ v u → WfV v
  | .int k n, u, h => by simp only [VR] at h; simp only [WfV]; exact h.2
  | .str s, u, h => by
    simp only [VR] at h
    obtain ⟨t, rfl, h1, h2⟩ := h
    simp only [WfV]
    rw [← h1, ← maxLen_eq]
    simpa using h2
  | .sl nn e xs, u, h => by
    simp only [VR] at h
    have := Dat.wf _ _ _ h.1
    simp only [WfD] at this
    simp only [WfV, WfR]
    exact this
  | .ms n lo len, u, h => by
    simp only [VR, MsR] at h
    simp only [WfV]
    split at h
    · exact h.elim
    · omega
    · obtain ⟨off, cap, _, _, h1, h2, h3⟩ := h
      rw [maxLen_eq] at h3
      omega
  | .agg cs, u, h => by simp only [VR] at h; obtain ⟨us, _, h⟩ := h; simp only [WfV]; exact VRs.wf cs _ h
  | .tup cs, u, h => by simp only [VR] at h; obtain ⟨us, _, h⟩ := h; simp only [WfV]; exact VRs.wf cs _ h
  | .fn f cs, u, h => by simp only [VR] at h; obtain ⟨us, _, h⟩ := h; simp only [WfV]; exact VRs.wf cs _ h
  | .pt cs, u, h => by simp only [VR] at h; obtain ⟨b, off, _, h⟩ := h; simp only [WfV]; exact VRat.wf cs b off h
  | .un, _, _ => by simp only [WfV]
  | .udf, _, _ => by simp only [WfV]
  | .bool _, _, _ => by simp only [WfV]
  | .nils, _, _ => by simp only [WfV]
  | .nilp, _, _ => by simp only [WfV]
  | .nilf, _, _ => by simp only [WfV]
  | .mp .., _, _ => by simp only [WfV]
  | .me .., _, _ => by simp only [WfV]
  | .ax .., _, _ => by simp only [WfV]
theorem VRs.wf : ∀ (vs : List AV) (us : List Value), VRs w I σ vs us → WfVs vs
  | [], _, _ => by simp only [WfVs]
  | v :: vs, us, h => by
    simp only [VRs] at h
    obtain ⟨u, us', rfl, h1, h⟩ := h
    simp only [WfVs]
    exact ⟨VR.wf v u h1, VRs.wf vs us' h⟩
theorem VRat.wf : ∀ (vs : List AV) (b off : Nat), VRat w I σ vs b off → WfVs vs
  | [], _, _, _ => by simp only [WfVs]
  | v :: vs, b, off, h => by
    simp only [VRat] at h
    obtain ⟨⟨_, u, _, h1⟩, h⟩ := h
    simp only [WfVs]
    exact ⟨VR.wf v u h1, VRat.wf vs b (off + 1) h⟩
end
theorem OR.wf {p : Option Pl} {o : MObj} (h : OR w I σ p o) : WfO o := by
  have row : ∀ (p : Pl) e xs, RowR w I p e xs → WfR e xs := fun p e xs h => by
    obtain ⟨cs, t, fz, _, _, _, _, _, h1, h2, h3⟩ := h
    rw [maxLen_eq] at h2
    exact ⟨by omega, fun i hi => DatC.wf e 0 _ _ _ (h3 i hi)⟩
  have nil : ∀ (e : List Sh) (xs : List (List D)), xs = [] → WfR e xs := fun e xs h => by subst h; exact ⟨by simp, fun i hi => by simp at hi⟩
  cases p with
  | none =>
    cases o with
    | row nn e xs => exact nil _ _ h.2.1
    | imm nn e xs => exact nil _ _ h.2.1
    | obj cs => exact h.elim
  | some p =>
    cases o with
    | row nn e xs => exact row p _ _ h
    | imm nn e xs => exact row p _ _ h.1
    | obj cs =>
      obtain ⟨us, t, fz, _, _, hv⟩ := h
      exact VRs.wf cs _ hv
def nodupK : MS → Prop
  | [] => True
  | (k, _) :: M => mget M k = none ∧ nodupK M
theorem Ok.wfM (h : Ok w I σ M) : ∀ (N : MS), (∀ k o, mget N k = some o → mget M k = some o) → nodupK N → WfM N
  | [], _, _ => by simp only [WfM]
  | (k, o) :: N, hN, hd => by
    simp only [WfM]
    obtain ⟨p, _, ho⟩ := h.obj k o (hN k o (by simp [mget, Nat.beq_refl]))
    refine ⟨ho.wf, h.wfM N (fun k' o' hk => hN k' o' ?_) hd.2⟩
    simp only [mget]
    split
    · rename_i hb
      have := Nat.eq_of_beq_eq_true hb
      subst this
      rw [hd.1] at hk
      cases hk
    · exact hk
/-- A function by its body: with what is known of all that comes in. -/
theorem fsound' {f : FuncId} {fn : Func} {c : Code} {C : Contract} (hp : P.follows .mixedOrders = true) (hT : ∀ t i, T t = some i → TIok P t i) (hG : ∀ f C, G f = some C → CSound P f C)
    (hf : P.funcs[f]? = some fn) (hb : fn.body = some c) (hc : codeOk c = true) (hn : (fn.name == "runtime.NumGoroutine") = false)
    (h : ∀ args M r, C.fn args M = some r → (∀ p ∈ r.vc, p ()) → WfVs args → (nodupK M → WfM M) →
      awp T G M.length c (fun e s => fend T M.length fn.results.toList r.val (mapply M r.objs) e s) ⟨finit fn.ntmps args, M, M.length⟩) (hn0 : ∀ args M, C.nfn args M = none := by intros; rfl) : CSound P f C := by
  refine ⟨fun args M r hr hvc => ?_, fun args M r hr => by rw [hn0] at hr; cases hr⟩
  intro w I σ vs hok hfree hargs
  -- the bare law, for this call alone: a contract that answers here only
  have h2 : CSound P f { modes := C.modes, fn := fun args' M' => open Classical in if args' = args ∧ M' = M then some r else none } := by
    refine fsound hp hT hG hf hb hc hn fun args' M' r' hr' hvc' => ?_
    simp only at hr'
    split at hr'
    · rename_i he
      obtain ⟨rfl, rfl⟩ := he
      cases hr'
      exact h args' M' r hr hvc (hargs.wf) (fun hd => hok.wfM M' (fun _ _ h => h) hd)
    · cases hr'
  exact h2.det args M r (by simp) hvc w I σ vs hok hfree hargs
end
end Go.Am
