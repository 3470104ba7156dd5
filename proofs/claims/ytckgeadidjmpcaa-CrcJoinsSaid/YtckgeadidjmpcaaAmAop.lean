/- One operation, whichever it is. -/
import Derived.Test.YtckgeadidjmpcaaAmCall2
import Derived.Test.YtckgeadidjmpcaaAmOpsD
namespace Go.Am
set_option linter.all false
set_option linter.deprecated false
section
variable {P : Program} {o : Oper} {a : Act} {w w' : World} {I I' : Nat → Prop} {σ σ' τ : Sig} {M : MS} {key : Nat} {env : List AV} {T : TT} {G : Ctx} {res : List (Nat × Bool)}

theorem Does.pure (hok : Ok w I σ M) {e : Eff} {s : Sem Value} (hs : (execOp a.eval o).run P w = ((s >>= fun v => Pure.pure (Next.value v)) : Sem Next).run P w) {r : Value} (hr : s.run P w = .ok r w) (hv : VR w I σ e.val r) (hu : e.upd = []) : Does P o a w (Post w I σ M key e.val (mapply M e.upd)) := by
  rw [hu]
  refine Does.value (v := r) (w' := w) ?_ (.same hok hv)
  rw [hs]
  simp [hr]
theorem Does.made {e : Eff} {R : Value → World → Prop} {s : Sem Value} (hs : (execOp a.eval o).run P w = ((s >>= fun v => Pure.pure (Next.value v)) : Sem Next).run P w) {r : Value} (hr : s.run P w = .ok r w') (h : R r w') : Does P o a w R := by
  refine Does.value (v := r) (w' := w') ?_ h
  rw [hs]
  simp [hr]
theorem aop_ok (hT : ∀ t i, T t = some i → TIok P t i) (hG : ∀ f C, G f = some C → CSound P f C) (hok : Ok w I σ M) (henv : EnvR w I σ env a.tmps) (hres : ∀ s b, rget res s = some b → a.tmps.getD s undef = .bool b)
    (hfree : ∀ k, key ≤ k → k < key + 8 → σ k = none) {e : Eff} (h : aop T G env res M key o.op = some e) (hvc : ∀ p ∈ e.vc, p ()) : Does P o a w (Post w I σ M key e.val (mapply M e.upd)) := by
  have hf0 : σ key = none := hfree key (Nat.le_refl _) (by omega)
  unfold aop at h
  split at h <;> (try (cases h; done)) <;> rename_i hop
  · -- move
    rename_i x
    simp only [Eff.pure, Option.some.injEq] at h
    subst h
    exact Does.value (by simp only [execOp, hop]; rfl) (.same hok (opv_ok henv x))
  · rename_i x
    simp only [Eff.pure, Option.some.injEq] at h
    subst h
    exact Does.value (by simp only [execOp, hop]; rfl) (.same hok (opv_ok henv x))
  · -- pick
    rename_i c x y
    have hc := opv_ok henv c
    have hx := opv_ok henv x
    have hy := opv_ok henv y
    have hres' : ∀ b, resOf res c = some b → a.eval c = .bool b := fun b hb => by
      unfold resOf at hb
      split at hb
      · exact hres _ _ hb
      · simp only [Option.some.injEq] at hb; subst hb; rfl
      · cases hb
    unfold pickAv at h
    split at h
    · rename_i hb
      simp only [Eff.pure, Option.some.injEq] at h
      subst h
      exact Does.value (by simp only [execOp, hop, hres' _ hb]; rfl) (.same hok hx)
    · rename_i hb
      simp only [Eff.pure, Option.some.injEq] at h
      subst h
      exact Does.value (by simp only [execOp, hop, hres' _ hb]; rfl) (.same hok hy)
    · split at h <;> (try (cases h; done))
      rename_i f g k e1 e2 e3
      simp only [Eff.pure, Option.some.injEq] at h
      subst h
      rw [e1] at hc
      rw [e2] at hx
      rw [e3] at hy
      simp only [VR] at hc hx hy
      refine Does.value (v := .bool (bif f () then g () else k ())) (w' := w) ?_ (.same hok (by simp only [VR]))
      simp only [execOp, hop, hc, hx, hy]
      cases f () <;> rfl
  · -- alloc
    rename_i t
    split at h <;> (try (cases h; done))
    rename_i ti ht
    simp only [Option.some.injEq] at h
    subst h
    obtain ⟨r, w', h1, h2⟩ := alloc_ok hok hf0 (hT t ti ht)
    exact Does.made (e := ⟨[], .un, [], []⟩) (by simp only [execOp, hop]) h1 h2
  · -- box
    rename_i t x
    split at h <;> (try (cases h; done))
    rename_i ti ht
    split at h <;> (try (cases h; done))
    rename_i h1 h2
    simp only [Option.some.injEq] at h
    subst h
    obtain ⟨r, w', h1, h2⟩ := box_ok (P := P) (t := t) hok hf0 h2 (opv_ok henv x)
    exact Does.made (e := ⟨[], .un, [], []⟩) (by simp only [execOp, hop]) h1 h2
  · -- build
    rename_i t parts
    obtain ⟨p1, p2⟩ := pairs_ok henv parts.toList
    have hrun : (execOp a.eval o).run P w = ((Instr.build t (parts.toList.map fun (i, x) => (i, a.eval x)).toArray >>= fun v => Pure.pure (Next.value v)) : Sem Next).run P w := by
      simp only [execOp, hop]
      have : parts.map (fun (i, x) => (i, a.eval x)) = (parts.toList.map fun (i, x) => (i, a.eval x)).toArray := by
        apply Array.ext'
        simp
      rw [this]
    split at h <;> (try (cases h; done))
    rename_i ti ht
    split at h <;> (try (cases h; done))
    · rename_i fs c htd
      split at h <;> (try (cases h; done))
      rename_i cs hcs
      simp only [Eff.pure, Option.some.injEq] at h
      subst h
      obtain ⟨r, h1, h2⟩ := build_ok (w := w) (I := I) (σ := σ) hT ht (.inl ⟨c, htd⟩) hcs p1 p2
      exact Does.made (e := ⟨[], .un, [], []⟩) hrun h1 (.same hok h2)
    · rename_i n el sz htd
      split at h <;> (try (cases h; done))
      rename_i cs hcs
      simp only [Eff.pure, Option.some.injEq] at h
      subst h
      obtain ⟨r, h1, h2⟩ := build_ok (w := w) (I := I) (σ := σ) hT ht (.inr ⟨n, el, sz, htd, rfl⟩) hcs p1 p2
      exact Does.made (e := ⟨[], .un, [], []⟩) hrun h1 (.same hok h2)
  · -- buildSlice
    rename_i t len parts
    obtain ⟨p1, p2⟩ := pairs_ok henv parts.toList
    have hrun : (execOp a.eval o).run P w = ((Instr.buildSlice t len (parts.toList.map fun (i, x) => (i, a.eval x)).toArray >>= fun v => Pure.pure (Next.value v)) : Sem Next).run P w := by
      simp only [execOp, hop]
      have : parts.map (fun (i, x) => (i, a.eval x)) = (parts.toList.map fun (i, x) => (i, a.eval x)).toArray := by
        apply Array.ext'
        simp
      rw [this]
    split at h <;> (try (cases h; done))
    rename_i ti ht
    split at h <;> (try (cases h; done))
    rename_i el sz eb esh htd
    split at h <;> (try (cases h; done))
    rename_i ei hei
    split at h <;> (try (cases h; done))
    rename_i cs hcs
    split at h <;> (try (cases h; done))
    rename_i cs' lent vc hro
    split at h <;> (try (cases h; done))
    rename_i ds hds
    split at h <;> (try (cases h; done))
    rename_i hsz _
    simp only [Option.some.injEq] at h
    subst h
    obtain ⟨r, w', h1, h2⟩ := buildSlice_ok hok hf0 hT ht htd hei hcs hro hvc hds (Nat.le_of_ble_eq_true hsz) p1 p2
    refine Does.made (e := ⟨[], .un, [], []⟩) hrun h1 ?_
    rw [mapply_append]
    exact h2
  · -- load
    rename_i t x
    split at h <;> (try (cases h; done))
    rename_i ti ht
    obtain ⟨r, h1, h2, h3⟩ := load1_ok hok (hT t ti ht) _ _ e h hvc (opv_ok henv x)
    exact Does.pure hok (by simp only [execOp, hop]) h1 h2 h3
  · -- store
    rename_i t x y
    split at h <;> (try (cases h; done))
    rename_i ti ht
    obtain ⟨w', h1, h2⟩ := store1_ok (key := key) hok (hT t ti ht) h hvc (opv_ok henv x) (opv_ok henv y)
    have hun : e.val = .un := by
      unfold store1 at h
      split at h <;> (try (cases h; done))
      · split at h <;> (try (cases h; done))
        split at h <;> (try (cases h; done))
        simp only [Option.some.injEq] at h; subst h; rfl
      · split at h <;> (try (cases h; done))
        split at h <;> (try (cases h; done))
        split at h <;> (try (cases h; done))
        split at h <;> (try (cases h; done)) <;> simp only [Option.some.injEq] at h <;> subst h <;> rfl
    refine Does.skip (w' := w') ?_ h2
    simp only [execOp, hop, Sem.run_bind, h1, Result.andThen_ok, Sem.run_pure]
  · -- nilCheck
    rename_i x
    split at h <;> (try (cases h; done))
    rename_i hn
    simp only [Eff.pure, Option.some.injEq] at h
    subst h
    have hx := opv_ok henv x
    refine Does.value (v := a.eval x) (w' := w) ?_ (.same hok hx)
    simp only [execOp, hop]
    unfold isNil at hn
    split at hn <;> (try (cases hn; done)) <;> rename_i heq <;> rw [heq] at hx <;> simp only [VR] at hx
    · obtain ⟨ad, len, cap, hx⟩ := hx.2 trivial
      rw [hx]; rfl
    · obtain ⟨b, off, hx, _⟩ := hx
      rw [hx]; rfl
    · unfold PtR at hx
      split at hx
      · rw [hx]; rfl
      · exact hx.elim
    · unfold PtR at hx
      split at hx
      · rw [hx]; rfl
      · exact hx.elim
    · obtain ⟨us, hx, _⟩ := hx
      rw [hx]; rfl
  · -- binOp
    rename_i op t x y t'
    obtain ⟨r, h1, h2, h3⟩ := binAv_ok (w := w) (I := I) (σ := σ) hT op t x y _ _ _ _ e h hvc (opv_ok henv x) (opv_ok henv y)
    exact Does.pure hok (by simp only [execOp, hop]) h1 h2 h3
  · -- unOp
    rename_i op t x
    obtain ⟨r, h1, h2, h3⟩ := unAv_ok (P := P) op _ _ e h (opv_ok henv x)
    exact Does.pure hok (by simp only [execOp, hop]) h1 h2 h3
  · -- convert
    rename_i s d x
    obtain ⟨r, w', h1, h2⟩ := conv_ok hok hf0 hT h hvc (opv_ok henv x)
    exact Does.made (e := e) (by simp only [execOp, hop]) h1 h2
  · -- makeFunc
    rename_i f first caps
    split at h <;> (try (cases h; done))
    rename_i hfirst
    simp only [Eff.pure, Option.some.injEq] at h
    subst h
    refine Does.value (v := .func (.func f) #[] (caps.map a.eval)) (w' := w) ?_ (.same hok (by simp only [VR]; exact ⟨_, rfl, by simpa using opvs_ok henv caps.toList⟩))
    have : first = #[] := by apply Array.ext'; simpa using hfirst
    subst this
    simp only [execOp, hop, Instr.makeFunc, Array.map_empty]
    rfl
  · -- makeSlice
    rename_i t l c
    split at h <;> (try (cases h; done))
    rename_i ti n m ht hl hc
    split at h <;> (try (cases h; done))
    rename_i el sz eb esh htd
    split at h <;> (try (cases h; done))
    rename_i ei hei heb
    split at h <;> (try (cases h; done))
    rename_i ds hds
    simp only [Option.some.injEq] at h
    subst h
    have hl' := opv_ok henv l
    have hc' := opv_ok henv c
    rw [hl] at hl'
    rw [hc] at hc'
    simp only [VR] at hl' hc'
    have v1 : n () = m () := hvc (fun _ => n () = m ()) List.mem_cons_self
    have v2 : 0 ≤ n () ∧ n () ≤ big := hvc (fun _ => 0 ≤ n () ∧ n () ≤ big) (List.mem_cons_of_mem _ List.mem_cons_self)
    obtain ⟨r, w', h1, h2⟩ := makeSlice_ok hok hf0 hT ht htd hei (Nat.le_of_ble_eq_true heb) hds v1 v2.1 v2.2
    exact Does.made (e := ⟨[], .un, [], []⟩) (s := Instr.makeSlice t (.int .i64 (n ())) (.int .i64 (m ()))) (by simp only [execOp, hop, hl'.1, hc'.1]) (r := r) (w' := w') h1 h2
  · -- slice
    rename_i t x lo hi mx
    split at h <;> (try (cases h; done))
    rename_i ti ht
    have om : ∀ (y : Option Operand), (∀ q, omap env y = some q → ∃ u, y.map a.eval = some u ∧ VR w I σ q u) ∧ (omap env y = none → y.map a.eval = none) := fun y => by
      cases y with
      | none => exact ⟨fun q hq => (by cases hq), fun _ => rfl⟩
      | some z => exact ⟨fun q hq => (by cases hq; exact ⟨_, rfl, opv_ok henv z⟩), fun hn => (by cases hn)⟩
    split at h <;> (try (cases h; done))
    rename_i hmh
    obtain ⟨r, h1, h2, h3⟩ := sliceAv_ok hok hT ht _ _ _ _ (a.eval x) (lo.map a.eval) (hi.map a.eval) (mx.map a.eval) e h hvc (opv_ok henv x) (om lo).1 (om lo).2 (om hi).1 (om hi).2 (om mx).1 (om mx).2 (by
      cases mx with
      | none => exact .inl rfl
      | some z =>
        cases hi with
        | none => exact (hmh z rfl rfl).elim
        | some y => right; simp)
    exact Does.pure hok (by simp only [execOp, hop]) h1 h2 h3
  · -- fieldAddr
    rename_i s x f
    split at h <;> (try (cases h; done))
    rename_i ti ht
    split at h <;> (try (cases h; done))
    rename_i fs c htd
    split at h <;> (try (cases h; done))
    rename_i off ft sz hf
    split at h <;> (try (cases h; done))
    rename_i v h1 h2
    simp only [Eff.pure, Option.some.injEq] at h
    subst h
    obtain ⟨r, g1, g2⟩ := fieldAddrAv_ok hT ht htd hf (Nat.le_of_ble_eq_true h1) h2 (opv_ok henv x)
    exact Does.pure hok (by simp only [execOp, hop]) g1 g2 rfl
  · -- field
    rename_i s x f
    split at h <;> (try (cases h; done))
    rename_i ti cs ht hx
    split at h <;> (try (cases h; done))
    rename_i fs c htd
    split at h <;> (try (cases h; done))
    rename_i off ft sz hf
    split at h <;> (try (cases h; done))
    rename_i fi hfi h1 h2
    simp only [Eff.pure, Option.some.injEq] at h
    subst h
    rw [llen_eq] at h1
    have hv := opv_ok henv x
    rw [hx] at hv
    simp only [VR] at hv
    obtain ⟨us, hus, hv⟩ := hv
    obtain ⟨d, hu, hd, _⟩ := under_of hT ht
    rw [htd] at hd
    obtain ⟨fields, rfl, hfs, _⟩ := hd
    obtain ⟨g, hg, e1, e2, inf, hinf, hsz⟩ := hfs.get hf
    obtain ⟨inf', z', hinf', hs', _⟩ := (hT ft fi hfi).info
    have hes : fi.size = sz := by rw [hinf] at hinf'; cases hinf'; rw [← hs', hsz]
    obtain ⟨v, g1, g2⟩ := run_part_of (hT ft fi hfi) hv (off := off) (by rw [hes]; exact Nat.le_of_ble_eq_true h1) (by rw [hes]; exact Nat.le_of_ble_eq_true h2)
    refine Does.pure hok (s := Instr.field s (a.eval x) f) (by simp only [execOp, hop]) (r := v) ?_ g2 rfl
    have hg' : fields[f]? = some g := by simpa using hg
    simp only [Instr.field, Sem.run_bind, run_under hu, Result.andThen_ok, hg', hus, asAgg, Sem.run_pure, e1, e2, g1]
  · -- indexAddr
    rename_i t x i
    split at h <;> (try (cases h; done))
    rename_i ti ht
    obtain ⟨r, h1, h2, h3⟩ := indexAddrAv_ok hok hT ht _ _ _ _ e h hvc (opv_ok henv x) (opv_ok henv i)
    exact Does.pure hok (by simp only [execOp, hop]) h1 h2 h3
  · -- index
    rename_i t x i
    split at h <;> (try (cases h; done))
    rename_i sz ag ze s k n ht hx hi
    simp only [Eff.chk, Option.some.injEq] at h
    subst h
    have hv := opv_ok henv x
    have hv2 := opv_ok henv i
    rw [hx] at hv
    rw [hi] at hv2
    obtain ⟨q0, q1⟩ : 0 ≤ n () ∧ n () < ((s ()).length : Int) := hvc (fun _ => 0 ≤ n () ∧ n () < ((s ()).length : Int)) (List.mem_singleton.2 rfl)
    obtain ⟨r, h1, h2⟩ := indexStr_ok hT ht rfl hv hv2 q0 q1
    exact Does.pure hok (by simp only [execOp, hop]) h1 h2 rfl
  · -- extract
    rename_i x i
    split at h <;> (try (cases h; done))
    rename_i vs hx
    split at h <;> (try (cases h; done))
    rename_i hi
    simp only [Eff.pure, Option.some.injEq] at h
    subst h
    have hv := opv_ok henv x
    rw [hx] at hv
    simp only [VR] at hv
    obtain ⟨us, hus, hv⟩ := hv
    rw [llen_eq, Nat.blt] at hi
    obtain ⟨u, h1, h2⟩ := lget_ok vs us.toList i hv (Nat.le_of_ble_eq_true hi)
    refine Does.pure hok (s := Instr.extract (a.eval x) i) (by simp only [execOp, hop]) (r := u) ?_ h2 rfl
    have h1' : us[i]? = some u := by simpa using h1
    simp only [hus, Instr.extract, h1', Sem.run_pure]
  · -- call
    rename_i c
    have hargs := opvs_ok henv c.args.toList
    split at h <;> rename_i hcal
    · -- builtin
      rename_i b
      have hrun : ∀ (s : Sem Value), (∀ cs, builtin b c.argTypes o.type cs (c.args.map a.eval) = (s >>= fun v => Pure.pure (Next.value v))) →
          (execOp a.eval o).run P w = ((s >>= fun v => Pure.pure (Next.value v)) : Sem Next).run P w := fun s hs => by
        simp only [execOp, hop, resolve, hcal, pure_bind, invoke]
        exact congrArg (fun x => Sem.run P x w) (hs _)
      unfold builtinAv at h
      split at h <;> (try (cases h; done))
      · -- len
        rename_i x hx
        split at h <;> (try (cases h; done))
        rename_i t ts hats
        split at h <;> (try (cases h; done))
        rename_i ti ht
        rw [hx] at hargs
        simp only [VRs] at hargs
        obtain ⟨u, us', hus, hu, rfl⟩ := hargs
        obtain ⟨r, h1, h2, h3⟩ := lenAv_ok hT ht o.type _ _ e h hu
        have hc : c.args.map a.eval = #[u] := by apply Array.ext'; simpa using hus
        refine Does.pure hok (hrun (Builtin.len_ c.argTypes o.type (c.args.map a.eval)) fun _ => rfl) (r := r) ?_ h2 h3
        rw [hc]
        have e1 : c.argTypes[0]? = some t := by rw [← Array.getElem?_toList, hats]; rfl
        simp only [Builtin.len_, e1] at h1 ⊢
        exact h1
      · -- append
        rename_i s x hx
        split at h <;> (try (cases h; done))
        rename_i t t' hats
        split at h <;> (try (cases h; done))
        rename_i ti ht
        split at h <;> (try (cases h; done))
        rename_i el esz eb esh htd
        rw [hx] at hargs
        simp only [VRs] at hargs
        obtain ⟨u, us', hus, hu, v, us2, rfl, hv, rfl⟩ := hargs
        have hc : c.args.map a.eval = #[u, v] := by apply Array.ext'; simpa using hus
        have ha : c.argTypes = #[t, t'] := by apply Array.ext'; simpa using hats
        split at h
        · rename_i htt
          have htt := Nat.eq_of_beq_eq_true htt
          subst htt
          obtain ⟨r, w', h1, h2⟩ := append_ok hok hf0 hT ht htd o.type h hvc hu hv
          refine Does.made (e := ⟨[], .un, [], []⟩) (hrun (Builtin.append_ c.argTypes o.type (c.args.map a.eval)) fun _ => rfl) (r := r) (w' := w') ?_ h2
          rw [hc, ha]
          exact h1
        · split at h <;> (try (cases h; done))
          rename_i sz' ag' zr' ei n htx hei
          split at h <;> (try (cases h; done))
          rename_i ds hds
          obtain ⟨d, hxu, hxd, _⟩ := under_of hT htx
          have hxd : d = .int .i64 := hxd
          subst hxd
          simp only [VR] at hv
          obtain ⟨rfl, _⟩ := hv
          obtain ⟨r, w', h1, h2⟩ := appendz_ok hok hf0 hT ht htd hei hds hxu o.type h hvc hu
          refine Does.made (e := ⟨[], .un, [], []⟩) (hrun (Builtin.append_ c.argTypes o.type (c.args.map a.eval)) fun _ => rfl) (r := r) (w' := w') ?_ h2
          rw [hc, ha]
          exact h1
      · -- min
        rename_i k f vs hx
        split at h <;> (try (cases h; done))
        rename_i n hn
        simp only [Eff.pure, Option.some.injEq] at h
        subst h
        rw [hx] at hargs
        rw [VRs] at hargs
        obtain ⟨u, us', hus, hu, hv⟩ := hargs
        simp only [VR] at hu
        obtain ⟨rfl, hw⟩ := hu
        obtain ⟨g1, g2⟩ := minInts_ok (P := P) k vs us' f n hn hw hv
        refine Does.pure hok (hrun (Builtin.min_ c.argTypes o.type (c.args.map a.eval)) fun _ => rfl) (r := .int k (n ())) ?_ (by simp only [VR, true_and]; exact g2) rfl
        have hc : (c.args.map a.eval).toList = .int k (f ()) :: us' := by simpa using hus
        simp only [Builtin.min_, hc]
        exact g1
      · -- copy
        rename_i n lo len src hx
        split at h <;> (try (cases h; done))
        rename_i nn ee xs e2 ys r vc hm hel
        split at h <;> (try (cases h; done))
        rename_i hnm hsh
        split at h <;> (try (cases h; done))
        rename_i t ts hats
        split at h <;> (try (cases h; done))
        rename_i ti ht
        split at h <;> (try (cases h; done))
        rename_i el esz eb esh htd
        split at h <;> (try (cases h; done))
        rename_i hlen
        simp only [Option.some.injEq] at h
        subst h
        have hsh := shEqs_ok hsh
        subst hsh
        rw [hx] at hargs
        simp only [VRs] at hargs
        obtain ⟨u, us', hus, hu, v, us2, rfl, hv, rfl⟩ := hargs
        obtain ⟨r', w', h1, h2⟩ := copy_ok (key := key) (t' := (c.argTypes.toList[1]?).getD 0) hok hT ht htd o.type hm hel (Nat.eq_of_beq_eq_true hlen) (hvc (fun _ => lo () + len () ≤ (xs ()).length) List.mem_cons_self) (fun p hp => hvc p (List.mem_cons_of_mem _ hp)) hu hv
        have hc : c.args.map a.eval = #[u, v] := by apply Array.ext'; simpa using hus
        refine Does.made (e := ⟨[], .un, [], []⟩) (hrun (Builtin.copy_ c.argTypes o.type (c.args.map a.eval)) fun _ => rfl) (r := r') (w' := w') ?_ h2
        rw [hc]
        have e1 : c.argTypes[0]? = some t := by rw [← Array.getElem?_toList, hats]; rfl
        simp only [Builtin.copy_, e1] at h1 ⊢
        exact h1
    · -- a function
      rename_i f
      split at h <;> (try (cases h; done))
      rename_i g caps hf
      split at h <;> (try (cases h; done))
      rename_i C hC
      have hfv := opv_ok henv f
      rw [hf] at hfv
      simp only [VR] at hfv
      obtain ⟨us, hus, hfv⟩ := hfv
      rw [lapp_eq] at h
      have := call_ok hok hfree (hG g C hC) h hvc (hargs.append hfv)
      intro K Q hK
      unfold Oper.wp
      have := this o a K Q hK
      rw [show (execOp a.eval o).run P w = (callFunc g (c.args.toList.map a.eval ++ us.toList).toArray).run P w from ?_]
      · exact this
      · simp only [execOp, hop, resolve, hcal, hus, Deferred.ofValue, pure_bind, invoke]
        congr 2
        apply Array.ext'
        simp
    · cases h
end
end Go.Am
